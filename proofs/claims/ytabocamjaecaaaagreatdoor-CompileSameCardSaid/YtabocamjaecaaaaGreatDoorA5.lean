/- Walk: alphabet.Valid. -/
import Derived.Test.YtabocamjaecaaaaGreatDoorGC
import Derived.Deep.LoopGhost
import Derived.WalkMore
import Derived.Laws.EntriesVeiled
namespace Go.Proofs.YtabocamjaecaaaaGreatDoor
open Go.RowKit Classical

/-- A letter whose first n bytes are a letter, behind which letters can go on as it does. -/
def Bad (A : Alph) (l : ByteArray) (n : Nat) : Prop := 1 ≤ n ∧ n < l.size ∧ l.extract 0 n ∈ A.letters ∧ Follows A.bls ((bl l).drop n)
theorem bl_extract_take (l : ByteArray) (n : Nat) : bl (l.extract 0 n) = (bl l).take n := by
 unfold bl; rw [Lib.extract_data]; simp
theorem valid10_iff (A : Alph) : Valid10 A ↔ Formed10 A ∧ ∀ l ∈ A.letters, ∀ n, ¬ Bad A l n := by
 unfold Valid10
 constructor
 ·rintro ⟨hf, h⟩
  refine ⟨hf, fun l hl n ⟨h1, h2, h3, h4⟩ => ?_⟩
  obtain ⟨i, hi⟩ := List.getElem?_of_mem hl
  obtain ⟨k, hk⟩ := List.getElem?_of_mem h3
  have hs : (l.extract 0 n).size = n := by simp; omega
  refine h i k l _ (fun e => ?_) hi hk (by rw [bl_extract_take]; exact List.take_prefix _ _) (by rw [hs]; exact h4)
  subst e
  rw [hi] at hk
  have := congrArg ByteArray.size (Option.some.inj hk)
  rw [hs] at this; omega
 ·rintro ⟨hf, h⟩
  refine ⟨hf, fun i k l m hne hl hm hp hF => ?_⟩
  have hml := hp.length_le
  rw [bl_length, bl_length] at hml
  have hm1 := hf.pos m (List.mem_of_getElem? hm)
  have he : l.extract 0 m.size = m := bl_inj (by rw [bl_extract_take, ← bl_length]; exact take_of_prefix hp)
  refine h l (List.mem_of_getElem? hl) m.size ⟨hm1, ?_, by rw [he]; exact List.mem_of_getElem? hm, hF⟩
  rcases Nat.lt_or_ge m.size l.size with h1 | h1
  ·exact h1
  ·exfalso
   have : m = l := by rw [← he]; exact bl_inj (by rw [bl_extract_take, List.take_of_length_le (by rw [bl_length]; exact h1)])
   subst this
   have hnd := hf.2.2.2.2.2.2.1
   obtain ⟨hi', hie⟩ := List.getElem?_eq_some_iff.1 hl
   obtain ⟨hk', hke⟩ := List.getElem?_eq_some_iff.1 hm
   exact hne ((List.getElem_inj hnd).1 (hie.trans hke.symm))

theorem Box.drewN {w : World} {b : Nat} {cs : List Value} (h : Box w b cs) (n : Nat) : Box (w.drewN n) b cs := h
set_option maxRecDepth 100000 in
set_option maxHeartbeats 2000000 in
theorem AValid_any (A : Alph) (v : Value) (w : World) (h : AlphAt w w.heap.size v A) :
  Calls Tryz.prog 36 #[v] w fun e w' => e = .returned (.bool (decide (Valid10 A))) ∧ Below w.heap.size w w' := by
 have hA := h
 obtain ⟨la, lc, sa, sc, rfl, hn, hl1, hs1, hls, hl, hsm⟩ := h
 have hl2 := hl1
 unfold maxLen at hl1 hs1 hn
 go_enter Tryz.func36, Tryz.ntmps36
 go_wp2_with fail
 go_step3
 go_wp2_with fail
 obtain ⟨W0, hW0⟩ : ∃ W0 : World, W0 = (w.alloc (.cells #[.string A.name, .slice la A.letters.length lc, .slice sa A.small.length sc] 28)) := ⟨_, rfl⟩
 rw [← hW0]
 have hw0 : Below w.heap.size w W0 := by rw [hW0]; exact (Below.refl _ _).alloc (Nat.le_refl _) _
 have hsz : W0.heap.size = w.heap.size + 1 := by rw [hW0]; simp
 have hbx : AlphBox W0 w.heap.size A := by rw [hW0]; exact ⟨la, lc, sa, sc, Box.new _ _ _, hl.alloc (Nat.le_refl _) _, hsm.alloc (Nat.le_refl _) _⟩
 have hA0 : AlphAt W0 W0.heap.size (.agg #[.string A.name, .slice la A.letters.length lc, .slice sa A.small.length sc]) A := (hA.below hw0 (Nat.le_refl _)).more (by omega)
 have hbx0 : Box W0 w.heap.size [.string A.name, .slice la A.letters.length lc, .slice sa A.small.length sc] := by rw [hW0]; exact Box.new _ _ _
 clear hW0
 refine (places_any A _ _ hA0).mono ?_
 rintro e w1 ⟨m, rfl, hm, hb1⟩
 have hb1w := hw0.trans (hb1.mono hw0.size)
 by_cases hf : Formed10 A
 ·obtain ⟨b, rfl, hbb, hM⟩ := hm hf
  rw [decide_eq_true hf]
  have Hf := Lib.hid hf
  have hl' := hl.below hb1w (Nat.le_refl _)
  have hn1 := hf.2.1
  have hlen3 := Lib.hid (fun l hl => hf.2.2.2.2.1 l hl)
  obtain ⟨lb, off, rfl, hlb, hc⟩ := hl'.strs (by omega)
  have hbx1 := hbx.below hb1 (by omega)
  have hHid := Lib.hid (And.intro hbx1 (And.intro hM hc))
  have hs1w := hb1.size
  have hbq : Box w1 w.heap.size [.string A.name, .slice (some ⟨lb, off, none⟩) A.letters.length lc, .slice sa A.small.length sc] := hbx0.below hb1 (by omega)
  have c1 := (hbq.alloc (by omega) (.cells #[followsV w.heap.size w1.heap.size] 118)) 1 _ rfl
  unfold followsV at c1
  clear hbx1 hM hc hf hm hbx hl hl' hsm hA0 hbq hbx0
  go_wp2_with fail
  go_step3
  go_wp2_with fail
  clear c1
  obtain ⟨W, hW⟩ : ∃ W : World, W = w1.alloc (.cells #[followsV w.heap.size w1.heap.size] 118) := ⟨_, rfl⟩
  have hW' : w1.alloc (.cells #[.func (.func 57) #[] #[.pointer (some ⟨w.heap.size, 0, none⟩), .pointer (some ⟨w1.heap.size, 0, none⟩)]] 118) = W := by rw [hW]; rfl
  rw [hW']
  have hbW : Below w.heap.size w W := by rw [hW]; exact hb1w.alloc hb1w.size _
  have hsW : W.heap.size = w1.heap.size + 1 := by rw [hW]; simp
  obtain ⟨hbx1, hM, hc⟩ := hHid.out
  have HX := Lib.hid (show AlphBox W w.heap.size A ∧ Box W w1.heap.size [followsV w.heap.size w1.heap.size] ∧ MapIs W b OkStr (pairs A.letters) ∧ (∀ (i : Nat) (h : i < A.letters.length), W.cell? ⟨lb, off + i, none⟩ = some (.string A.letters[i])) ∧ W.cell? ⟨w1.heap.size, 0, none⟩ = some (followsV w.heap.size w1.heap.size) from by
   rw [hW]
   exact ⟨hbx1.below ((Below.refl _ _).alloc (Nat.le_refl _) _) (by omega), Box.new _ _ _, hM.alloc _, fun i hi => (World.cell?_alloc_lt _ _ _ (by show lb < w1.heap.size; omega)).trans (hc i hi), Box.new w1 [followsV w.heap.size w1.heap.size] 118 0 _ rfl⟩)
  clear hbx1 hM hc hHid hW hW'
  go_loopg [22] A.letters.length (fun g i wr => ∃ k : Nat, k + g = A.letters.length ∧ i = .int .i64 k ∧ (∀ (a : Nat) l, a < k → A.letters[a]? = some l → ∀ n, ¬ Bad A l n) ∧ ∃ q, wr = W.drewN q)
  case atStart => exact ⟨0, by omega, rfl, by simp, 0, rfl⟩
  case round =>
   obtain ⟨k, hkg, rfl, hto, q, rfl⟩ := hrel
   have Hto := Lib.hid hto
   clear hto
   cases gk with
   | zero =>
    have hkz : ¬ ((k : Int) < (A.letters.length : Int)) := by omega
    have HV := Lib.hid (show Valid10 A from (valid10_iff A).2 ⟨Hf.out, fun l hl => by
     obtain ⟨i, hi⟩ := List.getElem?_of_mem hl
     exact Hto.out i l (by have := (List.getElem?_eq_some_iff.1 hi).1; omega) hi⟩)
    go_wp2_with fail
    try rw [Exit.noGoto_ret]
    go_ret
    exact ⟨ret_yes HV.out, below_drewN' hbW _⟩
   | succ g =>
    have hkz : (k : Int) < (A.letters.length : Int) := by omega
    have hlt : k < A.letters.length := by omega
    have hls' := hls _ (List.getElem_mem hlt)
    have hl3 := hlen3.out _ (List.getElem_mem hlt)
    obtain ⟨l, hle⟩ : ∃ l, A.letters[k] = l := ⟨_, rfl⟩
    have c3 : (W.drewN q).cell? ⟨lb, off + k, none⟩ = some (.string l) := (HX.out.2.2.2.1 k hlt).trans (by rw [hle])
    rw [hle] at hls' hl3
    have Hle := Lib.hid hle
    have hl13 : 1 ≤ l.size ∧ l.size ≤ 3 := ⟨hl3.1, hl3.2.1⟩
    clear hle hl3
    unfold maxLen at hls'
    go_wp2_with fail
    go_loopg [8] (l.size - 1) (fun g2 n wx => ∃ n1 : Nat, 1 ≤ n1 ∧ n1 + g2 = l.size ∧ n = .int .i64 n1 ∧ (∀ m, m < n1 → ¬ Bad A l m) ∧ ∃ q2, wx = W.drewN q2)
    case atStart => exact ⟨1, by omega, by omega, rfl, fun m hm hB => by have := hB.1; omega, q, rfl⟩
    case round =>
     obtain ⟨n1, hn1, hng, rfl, hno, q2, hq2⟩ := hrel
     have Hno := Lib.hid hno
     have HR := Lib.hid (show AlphBox wr w.heap.size A ∧ Box wr w1.heap.size [followsV w.heap.size w1.heap.size] ∧ MapIs wr b OkStr (pairs A.letters) ∧ wr.cell? ⟨w1.heap.size, 0, none⟩ = some (followsV w.heap.size w1.heap.size) ∧ Below w.heap.size w wr from by
      rw [hq2]; exact ⟨HX.out.1.drewN q2, Box.drewN HX.out.2.1 q2, (HX.out.2.2.1).drewN q2, HX.out.2.2.2.2, below_drewN' hbW _⟩)
     have Hq2 := Lib.hid hq2
     clear hno hq2
     have Hnext := Lib.hid (fun (hall : ∀ n, ¬ Bad A l n) => (show ∀ (a : Nat) l', a < k + 1 → A.letters[a]? = some l' → ∀ n, ¬ Bad A l' n from fun a l' ha hl' => by
      rcases Nat.lt_succ_iff_lt_or_eq.1 ha with h | rfl
      ·exact Hto.out a l' h hl'
      ·rw [List.getElem?_eq_getElem hlt, Hle.out] at hl'
       obtain rfl := Option.some.inj hl'
       exact hall))
     cases gk with
     | zero =>
      have hnl : ¬ ((n1 : Int) < (l.size : Int)) := by omega
      go_wp2_with fail
      go_roundg g
      case measure => omega
      case rel =>
       refine ⟨k + 1, by omega, by go_num, Hnext.out (fun n hB => ?_), q2, Hq2.out⟩
       have := hB.2.1
       exact Hno.out n (by omega) hB
     | succ g2 =>
      have hnl : (n1 : Int) < (l.size : Int) := by omega
      by_cases hin : l.extract 0 n1 ∈ A.letters
      ·obtain ⟨i, hi⟩ := List.getElem?_of_mem hin
       have hlk := look_pair_some HR.out.2.2.1 hi
       have hx3 : bl (l.extract n1 l.size) = (bl l).drop n1 := bl_extract_to l n1
       have cF := fun q' => follows_any A (fun l hl => (hlen3.out l hl).1) hl2 w.heap.size w1.heap.size _ (l.extract n1 l.size) (Nat.lt_succ_self _) (by unfold maxLen; simp; omega) (wr.drewN q') (HR.out.1.drewN q') (Box.drewN HR.out.2.1 q')
       rw [hx3] at cF
       have cf0 : wr.cell? ⟨w1.heap.size, 0, none⟩ = some (.func (.func 57) #[] #[.pointer (some ⟨w.heap.size, 0, none⟩), .pointer (some ⟨w1.heap.size, 0, none⟩)]) := HR.out.2.2.2.1
       by_cases hF : Follows A.bls ((bl l).drop n1)
       ·have Hbad := Lib.hid (show ¬ Valid10 A from fun hv => ((valid10_iff A).1 hv).2 l (by rw [← Hle.out]; exact List.getElem_mem hlt) n1 ⟨hn1, by omega, hin, hF⟩)
        rw [decide_eq_true hF] at cF
        have HcF := Lib.hid cF
        clear hF hx3 hin hi cF
        go_wp2_with fail
        go_quiet ((go_at_call 57; exact Calls.quiet_of_same (HcF.out _)))
        go_wp2_with fail
        try rw [Exit.noGoto_ret]
        go_ret
        exact ⟨ret_no Hbad.out, below_drewN' HR.out.2.2.2.2 _⟩
       ·have Hnb := Lib.hid (show ¬ Bad A l n1 from fun hB => hF hB.2.2.2)
        rw [decide_eq_false hF] at cF
        have HcF := Lib.hid cF
        clear hF hx3 hin hi cF
        have Hno2 := Lib.hid (show ∀ m, m < n1 + 1 → ¬ Bad A l m from fun m hm => by
         rcases Nat.lt_succ_iff_lt_or_eq.1 hm with h | rfl
         ·exact Hno.out m h
         ·exact Hnb.out)
        by_cases h2 : n1 = 2
        ·have d2 : ((n1 : Int) == 2) = true := by simp [h2]
         have Hall := Lib.hid (show ∀ n, ¬ Bad A l n from fun n hB => by
          have := hB.2.1
          exact Hno2.out n (by omega) hB)
         clear h2
         go_wp2_with fail
         go_quiet ((go_at_call 57; exact Calls.quiet_of_same (HcF.out _)))
         go_wp2_with fail
         go_roundg g
         case measure => omega
         case rel => exact ⟨k + 1, by omega, by go_num, Hnext.out Hall.out, q2 + nq, by rw [Hq2.out, World.drewN_drewN]⟩
        ·have d2 : ((n1 : Int) == 2) = false := by simp; omega
         clear h2
         go_wp2_with fail
         go_quiet ((go_at_call 57; exact Calls.quiet_of_same (HcF.out _)))
         go_wp2_with fail
         go_roundg g2
         case measure => omega
         case rel => exact ⟨n1 + 1, by omega, by omega, by go_num, Hno2.out, q2 + nq, by rw [Hq2.out, World.drewN_drewN]⟩
      ·have hlk := look_pair_none HR.out.2.2.1 hin
       have Hno2 := Lib.hid (show ∀ m, m < n1 + 1 → ¬ Bad A l m from fun m hm => by
         rcases Nat.lt_succ_iff_lt_or_eq.1 hm with h | rfl
         ·exact Hno.out m h
         ·exact fun hB => hin hB.2.2.1)
       clear hin
       go_wp2_with fail
       go_roundg g2
       case measure => omega
       case rel => exact ⟨n1 + 1, by omega, by omega, by go_num, Hno2.out, q2, Hq2.out⟩
 ·rw [decide_eq_false hf]
  have Hf := Lib.hid hf
  clear hf hm
  go_wp2_with fail
  try rw [Exit.noGoto_ret]
  go_ret
  exact ⟨ret_no (fun hv => Hf.out hv.1), hb1w⟩

end Go.Proofs.YtabocamjaecaaaaGreatDoor
