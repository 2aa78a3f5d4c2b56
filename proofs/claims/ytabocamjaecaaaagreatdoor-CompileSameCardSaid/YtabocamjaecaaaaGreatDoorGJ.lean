/- L3 · L5 -/
import Derived.Shelf.GgClosure.Gives
import Derived.Shelf.GgClosure.StringsRunes
import Derived.Shelf.GgClosure.StringsIndexFuncTop
import Derived.Test.YtabocamjaecaaaaGreatDoorGL
import Derived.Test.YtabocamjaecaaaaGreatDoorShelf
import Derived.Deep.LoopGhost
import Derived.Laws.RangeString
import Derived.Scope
import Derived.Lib.IndexLaws
/- Walks: strings.IndexRune in the two bytes '"' and newline; strings.IndexAny with them, at any text. -/
namespace Go.Proofs.YtabocamjaecaaaaGreatDoor
open Go.RowKit Classical

theorem below_iter (w : World) (s : ByteArray) (i : Nat) : Below w.heap.size w (w.iter s i) := by
 unfold World.iter
 exact (Below.refl _ w).alloc (Nat.le_refl _) _

set_option maxRecDepth 100000 in
set_option maxHeartbeats 2000000 in
theorem IndexRune_any (s : ByteArray) (hs : s.size = 2) (hlo : ∀ i (h : i < s.size), (s[i]'h).toNat < 128) (r : Nat) (hr : r ≤ 1114111) (w : World) :
  Calls Tryz.prog 122 #[.string s, .int .i32 r] w fun e w' => (∃ k : Int, -1 ≤ k ∧ e = .returned (.int .i64 k)) ∧ Below w.heap.size w w' := by
 have hsz : 1 < s.size := by omega
 by_cases h1 : r < 128
 ·refine (Tryz.strings_IndexRune_ascii s r w (by omega) (by omega)).mono ?_
  rintro e w' ⟨rfl, rfl⟩
  exact ⟨⟨_, Lib.indexByte_ge _ _, rfl⟩, Below.refl _ _⟩
 ·go_enter Tryz.func122, Tryz.ntmps122
  have d1 : decide ((r : Int) < 128) = false := by simp; omega
  by_cases h2 : r = 65533
  ·subst h2
   clear d1
   go_wp2_with fail
   go_loopg [5, 6] 2 (fun g _ _ wx => ∃ i : Nat, i + g = 2 ∧ wx = w.iter s i)
   case atStart => exact ⟨0, by omega, rfl⟩
   case round =>
    obtain ⟨i, hig, rfl⟩ := hrel
    cases gk with
    | zero =>
     obtain rfl : i = 2 := by omega
     have hnx := run_next_end (P := Tryz.prog) w s 2
     go_wp2
     go_ret
     exact ⟨⟨-1, by omega, rfl⟩, below_iter w _ _⟩
    | succ g =>
     have hi : i < 2 := by omega
     have hnx := fun ty => run_next_ascii (P := Tryz.prog) w s i ty (by omega) (hlo i (by omega))
     have d2 : (((s[i]'(by omega)).toNat : Int) == 65533) = false := by
      have := hlo i (by omega)
      simp; omega
     go_wp2
     go_roundg g
     case measure => omega
     case rel => exact ⟨i + 1, by omega, rfl⟩
  ·have d2 : ((r : Int) == 65533) = false := by simpa using (by omega : ¬ (r : Int) = 65533)
   cases hv : Lib.validRune r with
   | false =>
    go_wp2_with (go_at_call 133; refine (Tryz.utf8_ValidRune r _).mono ?_; rintro e w1 ⟨rfl, rfl⟩)
    go_ret
    exact ⟨⟨-1, by omega, rfl⟩, Below.refl _ _⟩
   | true =>
    have hv2 : Utf8.valid r = true := by
     unfold Lib.validRune at hv
     unfold Utf8.valid
     simp at hv ⊢
     omega
    obtain ⟨k2, k4, kb⟩ := encode_facts r hv2 (by omega)
    have hcv : ∀ w1, (convert 21 9 (.int .i32 (r : Int))).run Tryz.prog w1 = .ok (.string (Utf8.encode (r : Int))) w1 := fun w1 => run_convert_int_string w1 21 9 .i32 _ rfl rfl
    generalize hE : Utf8.encode (r : Int) = E at k2 k4 kb hcv
    have HE := Lib.hid hE
    clear hE
    go_wp2_with (first | (go_at_call 133; refine (Tryz.utf8_ValidRune r _).mono ?_; rintro e w1 ⟨rfl, rfl⟩) | fail)
    go_wp2_with fail
    refine wp_scope_straight ?_
    obtain ⟨m, hm⟩ : ∃ m, E.size = m + 2 := ⟨E.size - 2, by omega⟩
    go_wp2_with fail
    go_loop [9] (fun i => i = .int .i64 ((m : Int) + 1)) (fun _ => 0)
    case atStart => go_num
    case round =>
     subst hrel
     by_cases hm0 : m = 0
     ·subst hm0
      have hm2 : E.size = 2 := by omega
      have kb2 := Lib.hid kb
      clear kb k2 k4 d1 d2 hm
      obtain ⟨e1, he1⟩ : ∃ e1 : UInt8, E[1]'(by omega) = e1 := ⟨_, rfl⟩
      have hb1 : 128 ≤ e1.toNat := by
       have := kb2.out (by omega)
       simp only [hm2] at this
       rw [← he1]
       exact this
      obtain ⟨e2, he2⟩ : ∃ e2 : UInt8, s[1]'(by omega) = e2 := ⟨_, rfl⟩
      have d4 : ((e2.toNat : Int) != (e1.toNat : Int)) = true := by
       have := hlo 1 (by omega)
       rw [he2] at this
       simp; omega
      have cE : ∀ (c : UInt8) w, Calls Tryz.prog 114 #[.string ByteArray.empty, .int .u8 c.toNat] w fun e w' => e = .returned (.int .i64 (-1)) ∧ w' = w := fun c w => Tryz.strings_IndexByte ByteArray.empty c.toNat w
      have hw2 : IntKind.i64.wrap 2 = 2 := rfl
      clear hlo
      go_wp2_with fail
      refine wp_scope_straight ?_
      go_wp2_with fail
      go_quiet (fail)
      go_wp2_with fail
      go_quiet ((go_at_call 114; exact (cE _ _).mono (fun e w2 h => ⟨h.1, _, h.2⟩)))
      go_wp2_with fail
      simp +zetaDelta only [Exit.noGoto, Exit.inBlock, Exit.then]
      go_ret
      exact ⟨⟨-1, by omega, rfl⟩, below_drewN' (Below.refl _ _) _⟩
     ·have d3 : decide ((m : Int) + 1 < 2) = false := by simp; omega
      go_wp2
      go_ret
      exact ⟨⟨-1, by omega, rfl⟩, Below.refl _ _⟩

theorem indexAny_lt (c : List UInt8) : ∀ l : List UInt8, Lib.indexAny l c < l.length
 | [] => by simp [Lib.indexAny]
 | b :: l => by
  have := indexAny_lt c l
  unfold Lib.indexAny
  split
  ·simp
  ·split
   ·simp; omega
   ·simp; omega

set_option maxRecDepth 100000 in
set_option maxHeartbeats 2000000 in
theorem IndexAny_any (s c : ByteArray) (hc : c.size = 2) (hlo : ∀ i (h : i < c.size), (c[i]'h).toNat < 128) (hs : s.size < 4294967281) (w : World) :
  Calls Tryz.prog 116 #[.string s, .string c] w fun e w' => (∃ k : Int, -1 ≤ k ∧ k < s.size ∧ e = .returned (.int .i64 k)) ∧ Below w.heap.size w w' := by
 have hlo2 : ∀ (j : Nat) b, c.data.toList[j]? = some b → b.toNat < 128 := fun j b hj => by
  obtain ⟨h1, h2⟩ := List.getElem?_eq_some_iff.1 hj
  rw [← h2]
  exact hlo j (by simpa [← ByteArray.size_data] using h1)
 by_cases h8 : 8 < s.size
 ·refine (Tryz.strings_IndexAny_long (fun w => rfl) s c w (by omega) h8 hs (by omega) hlo2).mono ?_
  rintro e w' ⟨rfl, rfl⟩
  refine ⟨⟨_, Lib.indexAny_ge _ _, ?_, rfl⟩, ((Below.refl _ _).alloc (Nat.le_refl _) _).alloc (by simp) _⟩
  rw [Lib.size_eq]
  exact indexAny_lt _ _
 ·clear hlo2
  have hemp : c.toList.isEmpty = false := by
   rw [Lib.toList_data]
   cases h : c.data.toList with
   | nil => have := Lib.size_eq c; rw [h, List.length_nil] at this; omega
   | cons _ _ => rfl
  have hn1 : ((c.size : Int) == 1) = false := by rw [hc]; rfl
  have h8z : decide ((8 : Int) < (s.size : Int)) = false := decide_eq_false (by omega)
  go_enter Tryz.func116, Tryz.ntmps116
  go_wp2_with (go_at_call 123; refine (Tryz.strings_shouldUseASCIISet _ _).mono ?_; rintro e w' ⟨rfl, hw⟩; rw [hw, h8z])
  go_loopg [9, 10] s.size (fun gf _ _ wx => ∃ pos : Nat, wx.heap[w.heap.size]? = some (.stringIter s pos) ∧ Below w.heap.size w wx ∧ s.size ≤ pos + gf)
  case atStart => exact ⟨0, World.iter_heap w s 0, (Below.refl _ w).alloc (Nat.le_refl _) _, by omega⟩
  case round =>
   obtain ⟨pos, hit, hbw, hfu⟩ := hrel
   by_cases hps : pos < s.size
   ·obtain ⟨g', rfl⟩ : ∃ g', gk = g' + 1 := ⟨gk - 1, by omega⟩
    have hnx : ∀ ty, (Instr.next (.pointer (some ⟨w.heap.size, 0, none⟩)) true ty).run Tryz.prog wr = _ := fun ty => Lib.run_next_any_at wr w.heap.size s pos ty hit hps
    have hwd := Lib.width_pos s pos
    have hrl := Lib.rune_le s pos
    obtain ⟨R, hR⟩ : ∃ R, (Utf8.decode s pos).1 = R := ⟨_, rfl⟩
    obtain ⟨K, hK⟩ : ∃ K, (Utf8.decode s pos).2 = K := ⟨_, rfl⟩
    rw [hR, hK] at hnx
    rw [hK] at hwd
    rw [hR] at hrl
    have hit2 := Lib.iterAt_heap wr w.heap.size s pos (pos + K) hit
    have hbw2 := Lib.below_iterAt hbw (k := w.heap.size) (Nat.le_refl _) s (pos + K)
    obtain ⟨W, hWd⟩ : ∃ W, wr.iterAt w.heap.size s (pos + K) = W := ⟨_, rfl⟩
    rw [hWd] at hnx hit2 hbw2
    have cS := IndexRune_any c hc hlo R hrl W
    go_wp2_with (go_at_call 122; refine cS.mono ?_; rintro e W' ⟨⟨k, hk, rfl⟩, hbk⟩)
    ·go_ret
     exact ⟨⟨(pos : Int), by omega, by omega, rfl⟩, hbw2.trans (hbk.mono hbw2.size)⟩
    ·go_roundg g'
     case measure => omega
     case rel => exact ⟨pos + K, (hbk.block w.heap.size (Array.getElem?_eq_some_iff.1 hit2).1).trans hit2, hbw2.trans (hbk.mono hbw2.size), by omega⟩
   ·have hnx : ∀ ty, (Instr.next (.pointer (some ⟨w.heap.size, 0, none⟩)) true ty).run Tryz.prog wr = _ := fun ty => Lib.run_next_end_at wr w.heap.size s pos ty hit hps
    go_wp2
    go_ret
    exact ⟨⟨-1, by omega, by omega, rfl⟩, hbw⟩
end Go.Proofs.YtabocamjaecaaaaGreatDoor

/- Walks: the lexer's gap. -/
namespace Go.Proofs.YtabocamjaecaaaaGreatDoor
open Go.RowKit Classical

theorem whileF_ge (l : List UInt8) (cls : List Int) (i : Nat) : i ≤ whileF l cls i := by unfold whileF; omega
theorem whileF_le (l : List UInt8) (cls : List Int) (i : Nat) (h : i ≤ l.length) : whileF l cls i ≤ l.length := by
 have := (List.takeWhile_sublist (l := l.drop i) fun c => cls.contains (classOf c.toNat)).length_le
 rw [List.length_drop] at this
 unfold whileF; omega
theorem whileF_blank {l : List UInt8} {i : Nat} (hi : i ≤ l.length) (h : classAt l i ≠ 1) : whileF l [1] i = i := by
 by_cases hl : i < l.length
 ·refine whileF_stop (c := l[i]) (List.getElem?_eq_getElem hl) ?_
  rw [classAt, List.getElem?_eq_getElem hl] at h
  simpa using h
 ·exact whileF_end (by omega)

set_option maxRecDepth 100000 in
set_option maxHeartbeats 1000000 in
theorem gap_any (b : Nat) (s : ByteArray) (i : Nat) (hi : i ≤ s.size) (hs : s.size ≤ maxLen) (w : World) (h : ScanAt w b s) (hb : b < w.heap.size) :
  Calls Tryz.prog 103 #[.pointer (some ⟨b, 0, none⟩), .int .i64 i] w fun e w' =>
   (∃ g : Nat, e = .returned (.int .i64 g) ∧ i ≤ g ∧ g ≤ s.size ∧ (classAt (bl s) i ≠ 1 → classAt (bl s) i ≠ 2 → g = i)) ∧ Below w.heap.size w w' := by
 have hs2 := hs
 unfold maxLen at hs2
 have hone : ∀ w1 : World, RowAt (w1.alloc (.cells #[.int .i64 1] 3)) (w1.heap.size + 1) (some ⟨w1.heap.size, 0, none⟩) (nums [1]) := fun w1 _ =>
  ⟨_, 0, rfl, by omega, fun i x hx => by rw [Nat.zero_add]; exact Box.new w1 [.int .i64 1] 3 i x hx⟩
 have hW : ∀ (k : Nat) (w1 : World), k ≤ s.size → Below w.heap.size w w1 →
   Calls Tryz.prog 112 #[.pointer (some ⟨b, 0, none⟩), .int .i64 k, .slice (some ⟨w1.heap.size, 0, none⟩) 1 1] (w1.alloc (.cells #[.int .i64 1] 3)) fun e w' => e = .returned (.int .i64 (whileF (bl s) [1] k)) ∧ Below w.heap.size w w' :=
  fun k w1 hk hb1 => (while_any b s k [1] _ 1 (by decide) hk hs _ ((h.below hb1 hb).below ((Below.refl _ _).alloc (Nat.le_refl _) _) (Nat.lt_of_lt_of_le hb hb1.size)) _ (hone w1)).mono fun e w' ⟨he, q, hq⟩ => ⟨he, by rw [hq]; exact below_drewN' (hb1.alloc hb1.size _) q⟩
 go_enter Tryz.func103, Tryz.ntmps103
 go_wp2_with (go_at_call 112; refine (hW i w hi (Below.refl _ _)).mono ?_; rintro e w1 ⟨rfl, hb1⟩)
 go_loopw [1] (fun c1 wr => ∃ k : Nat, i ≤ k ∧ k ≤ s.size ∧ c1 = .int .i64 k ∧ (classAt (bl s) i ≠ 1 → classAt (bl s) i ≠ 2 → k = i) ∧ Below w.heap.size w wr) (fun c1 _ => s.size - (intOf c1).toNat)
 case atStart => exact ⟨whileF (bl s) [1] i, whileF_ge _ _ _, by have := whileF_le (bl s) [1] i (by rw [bl_length]; exact hi); rwa [bl_length] at this, rfl, fun h1 _ => whileF_blank (by rw [bl_length]; exact hi) h1, hb1⟩
 case round =>
  obtain ⟨k, hik, hks, rfl, hcl, hbr⟩ := hrel
  have Hcl := Lib.hid hcl
  have hsc := h.below hbr hb
  have ht := hsc.text
  clear hcl
  by_cases hc2 : classAt (bl s) k = 2
  ·have d1 : (classAt (bl s) k == 2) = true := by simpa using hc2
   rcases Lib.indexByte_piece s k s.size 10 with hn | ⟨o, ho, hko⟩
   ·have cI : ∀ w1 : World, Calls Tryz.prog 114 #[.string (s.extract k s.size), .int .u8 10] w1 fun e w' => e = .returned (.int .i64 (-1)) ∧ w' = w1 := fun w1 => (Tryz.strings_IndexByte (s.extract k s.size) 10 w1).mono fun e w' h => ⟨h.1.trans (by rw [show Lib.indexByte (s.extract k s.size).data.toList (10 : Int).toNat.toUInt8 = -1 from hn]), h.2⟩
    have Hc2 := Lib.hid hc2
    clear hn hc2
    go_wp2_with (first
     | (go_at_call 113; refine (at_any b s k hs _ hsc).mono ?_; rintro e w1 ⟨rfl, q1, rfl⟩)
     | (go_at_call 114; refine (cI _).mono ?_; rintro e w1 ⟨rfl, rfl⟩))
    go_ret
    refine ⟨⟨s.size, rfl, hi, Nat.le_refl _, fun h1 h2 => ?_⟩, below_drewN' hbr _⟩
    have := Hcl.out h1 h2
    subst this
    exact absurd Hc2.out h2
   ·have cI : ∀ w1 : World, Calls Tryz.prog 114 #[.string (s.extract k s.size), .int .u8 10] w1 fun e w' => e = .returned (.int .i64 (o : Int)) ∧ w' = w1 := fun w1 => (Tryz.strings_IndexByte (s.extract k s.size) 10 w1).mono fun e w' h => ⟨h.1.trans (by rw [show Lib.indexByte (s.extract k s.size).data.toList (10 : Int).toNat.toUInt8 = o from ho]), h.2⟩
    have ho1 : 0 < o := by
     rcases Nat.eq_zero_or_pos o with rfl | h0
     ·exfalso
      have h1 := (Lib.indexByte_some ho).1
      have h2 : (bl s)[k]? = some 10 := by
       rw [Lib.extract_data, List.getElem?_take] at h1
       split at h1
       ·simpa [bl] using h1
       ·simp at h1
      rw [classAt, h2] at hc2
      revert hc2
      decide
     ·exact h0
    have Hc2 := Lib.hid hc2
    have Ho := Lib.hid ho
    clear ho hc2
    go_wp2_with (first
     | (go_at_call 113; refine (at_any b s k hs _ hsc).mono ?_; rintro e w1 ⟨rfl, q1, rfl⟩)
     | (go_at_call 114; refine (cI _).mono ?_; rintro e w1 ⟨rfl, rfl⟩)
     | (go_at_call 112; refine (hW (k + o) _ (by omega) (below_drewN' hbr _)).mono ?_; rintro e w1 ⟨rfl, hb2⟩))
    have hg := whileF_ge (bl s) [1] (k + o)
    have hl := whileF_le (bl s) [1] (k + o) (by rw [bl_length]; omega)
    rw [bl_length] at hl
    refine ⟨⟨whileF (bl s) [1] (k + o), by omega, hl, rfl, fun h1 h2 => ?_, hb2⟩, by simp [intOf]; omega⟩
    have := Hcl.out h1 h2
    subst this
    exact absurd Hc2.out h2
  ·have d1 : (classAt (bl s) k == 2) = false := by simpa using hc2
   clear hc2
   go_wp2_with (first
     | (go_at_call 113; refine (at_any b s k hs _ hsc).mono ?_; rintro e w1 ⟨rfl, q1, rfl⟩))
   go_ret
   exact ⟨⟨k, rfl, hik, hks, Hcl.out⟩, below_drewN' hbr _⟩
end Go.Proofs.YtabocamjaecaaaaGreatDoor
