/- I2 · GJ · GM -/
import Derived.Test.YthachfkcgdfdfaaGreatDoorP04
import Derived.Shelf.GgClosure.Gives
import Derived.Shelf.GgClosure.StringsRunes
import Derived.Shelf.GgClosure.StringsIndexFuncTop
import Derived.Test.YthachfkcgdfdfaaGreatDoorShelf
import Derived.Deep.LoopGhost
import Derived.Laws.RangeString
import Derived.Scope
import Derived.Lib.IndexLaws
import Derived.Lib.SmallJoins
import Derived.Laws.OwnMore
/- Walks of the reference's alphabets and rules: At, Letters, plain. -/
namespace Go.Proofs.YthachfkcgdfdfaaGreatDoor
open Go.RowKit Classical

end Go.Proofs.YthachfkcgdfdfaaGreatDoor
/- L3 · L5 -/
/- Walks: strings.IndexRune in the two bytes '"' and newline; strings.IndexAny with them, at any text. -/
namespace Go.Proofs.YthachfkcgdfdfaaGreatDoor
open Go.RowKit Classical

theorem below_iter (w : World) (s : ByteArray) (i : Nat) : Below w.heap.size w (w.iter s i) := by
 unfold World.iter
 exact (Below.refl _ w).alloc (Nat.le_refl _) _

set_option maxRecDepth 100000 in
set_option maxHeartbeats 2000000 in
theorem IndexRune_any (s : ByteArray) (hs : s.size = 2) (hlo : ∀ i (h : i < s.size), (s[i]'h).toNat < 128) (r : Nat) (hr : r ≤ 1114111) (w : World) :
  Calls Tryz.prog 226 #[.string s, .int .i32 r] w fun e w' => (∃ k : Int, -1 ≤ k ∧ e = .returned (.int .i64 k)) ∧ Below w.heap.size w w' := by
 have hsz : 1 < s.size := by omega
 by_cases h1 : r < 128
 ·refine (Tryz.strings_IndexRune_ascii s r w (by omega) (by omega)).mono ?_
  rintro e w' ⟨rfl, rfl⟩
  exact ⟨⟨_, Lib.indexByte_ge _ _, rfl⟩, Below.refl _ _⟩
 ·go_enter Tryz.func226, Tryz.ntmps226
  have d1 : decide ((r : Int) < 128) = false := by simp; omega
  by_cases h2 : r = 65533
  ·subst h2
   clear d1
   go_wp2_with fail
   go_loopg [5, 6] 2 (fun g _ _ wx => ∃ i : Nat, i + g = 2 ∧ wx = w.iter s i)
   case atStart => exact ⟨0, by omega, rfl⟩
   case round =>
    obtain ⟨i, hig, rfl⟩ := hrel
    cases gk with
    | zero =>
     obtain rfl : i = 2 := by omega
     have hnx := run_next_end (P := Tryz.prog) w s 2
     go_wp2
     go_ret
     exact ⟨⟨-1, by omega, rfl⟩, below_iter w _ _⟩
    | succ g =>
     have hi : i < 2 := by omega
     have hnx := fun ty => run_next_ascii (P := Tryz.prog) w s i ty (by omega) (hlo i (by omega))
     have d2 : (((s[i]'(by omega)).toNat : Int) == 65533) = false := by
      have := hlo i (by omega)
      simp; omega
     go_wp2
     go_roundg g
     case measure => omega
     case rel => exact ⟨i + 1, by omega, rfl⟩
  ·have d2 : ((r : Int) == 65533) = false := by simpa using (by omega : ¬ (r : Int) = 65533)
   cases hv : Lib.validRune r with
   | false =>
    go_wp2_with (go_at_call 259; refine (Tryz.utf8_ValidRune r _).mono ?_; rintro e w1 ⟨rfl, rfl⟩)
    go_ret
    exact ⟨⟨-1, by omega, rfl⟩, Below.refl _ _⟩
   | true =>
    have hv2 : Utf8.valid r = true := by
     unfold Lib.validRune at hv
     unfold Utf8.valid
     simp at hv ⊢
     omega
    obtain ⟨k2, k4, kb⟩ := encode_facts r hv2 (by omega)
    have hcv : ∀ w1, (convert 21 9 (.int .i32 (r : Int))).run Tryz.prog w1 = .ok (.string (Utf8.encode (r : Int))) w1 := fun w1 => run_convert_int_string w1 21 9 .i32 _ rfl rfl
    generalize hE : Utf8.encode (r : Int) = E at k2 k4 kb hcv
    have HE := Lib.hid hE
    clear hE
    go_wp2_with (first | (go_at_call 259; refine (Tryz.utf8_ValidRune r _).mono ?_; rintro e w1 ⟨rfl, rfl⟩) | fail)
    go_wp2_with fail
    refine wp_scope_straight ?_
    obtain ⟨m, hm⟩ : ∃ m, E.size = m + 2 := ⟨E.size - 2, by omega⟩
    go_wp2_with fail
    go_loop [9] (fun i => i = .int .i64 ((m : Int) + 1)) (fun _ => 0)
    case atStart => go_num
    case round =>
     subst hrel
     by_cases hm0 : m = 0
     ·subst hm0
      have hm2 : E.size = 2 := by omega
      have kb2 := Lib.hid kb
      clear kb k2 k4 d1 d2 hm
      obtain ⟨e1, he1⟩ : ∃ e1 : UInt8, E[1]'(by omega) = e1 := ⟨_, rfl⟩
      have hb1 : 128 ≤ e1.toNat := by
       have := kb2.out (by omega)
       simp only [hm2] at this
       rw [← he1]
       exact this
      obtain ⟨e2, he2⟩ : ∃ e2 : UInt8, s[1]'(by omega) = e2 := ⟨_, rfl⟩
      have d4 : ((e2.toNat : Int) != (e1.toNat : Int)) = true := by
       have := hlo 1 (by omega)
       rw [he2] at this
       simp; omega
      have cE : ∀ (c : UInt8) w, Calls Tryz.prog 195 #[.string ByteArray.empty, .int .u8 c.toNat] w fun e w' => e = .returned (.int .i64 (-1)) ∧ w' = w := fun c w => Tryz.strings_IndexByte ByteArray.empty c.toNat w
      have hw2 : IntKind.i64.wrap 2 = 2 := rfl
      clear hlo
      go_wp2_with fail
      refine wp_scope_straight ?_
      go_wp2_with fail
      go_quiet (fail)
      go_wp2_with fail
      go_quiet ((go_at_call 195; exact (cE _ _).mono (fun e w2 h => ⟨h.1, _, h.2⟩)))
      go_wp2_with fail
      simp +zetaDelta only [Exit.noGoto, Exit.inBlock, Exit.then]
      go_ret
      exact ⟨⟨-1, by omega, rfl⟩, below_drewN' (Below.refl _ _) _⟩
     ·have d3 : decide ((m : Int) + 1 < 2) = false := by simp; omega
      go_wp2
      go_ret
      exact ⟨⟨-1, by omega, rfl⟩, Below.refl _ _⟩

theorem indexAny_lt (c : List UInt8) : ∀ l : List UInt8, Lib.indexAny l c < l.length
 | [] => by simp [Lib.indexAny]
 | b :: l => by
  have := indexAny_lt c l
  unfold Lib.indexAny
  split
  ·simp
  ·split
   ·simp; omega
   ·simp; omega

set_option maxRecDepth 100000 in
set_option maxHeartbeats 2000000 in
theorem IndexAny_any (s c : ByteArray) (hc : c.size = 2) (hlo : ∀ i (h : i < c.size), (c[i]'h).toNat < 128) (hs : s.size < 4294967281) (w : World) :
  Calls Tryz.prog 197 #[.string s, .string c] w fun e w' => (∃ k : Int, -1 ≤ k ∧ k < s.size ∧ e = .returned (.int .i64 k)) ∧ Below w.heap.size w w' := by
 have hlo2 : ∀ (j : Nat) b, c.data.toList[j]? = some b → b.toNat < 128 := fun j b hj => by
  obtain ⟨h1, h2⟩ := List.getElem?_eq_some_iff.1 hj
  rw [← h2]
  exact hlo j (by simpa [← ByteArray.size_data] using h1)
 by_cases h8 : 8 < s.size
 ·refine (Tryz.strings_IndexAny_long (fun w => rfl) s c w (by omega) h8 hs (by omega) hlo2).mono ?_
  rintro e w' ⟨rfl, rfl⟩
  refine ⟨⟨_, Lib.indexAny_ge _ _, ?_, rfl⟩, ((Below.refl _ _).alloc (Nat.le_refl _) _).alloc (by simp) _⟩
  rw [Lib.size_eq]
  exact indexAny_lt _ _
 ·clear hlo2
  have hemp : c.toList.isEmpty = false := by
   rw [Lib.toList_data]
   cases h : c.data.toList with
   | nil => have := Lib.size_eq c; rw [h, List.length_nil] at this; omega
   | cons _ _ => rfl
  have hn1 : ((c.size : Int) == 1) = false := by rw [hc]; rfl
  have h8z : decide ((8 : Int) < (s.size : Int)) = false := decide_eq_false (by omega)
  go_enter Tryz.func197, Tryz.ntmps197
  go_wp2_with (go_at_call 227; refine (Tryz.strings_shouldUseASCIISet _ _).mono ?_; rintro e w' ⟨rfl, hw⟩; rw [hw, h8z])
  go_loopg [9, 10] s.size (fun gf _ _ wx => ∃ pos : Nat, wx.heap[w.heap.size]? = some (.stringIter s pos) ∧ Below w.heap.size w wx ∧ s.size ≤ pos + gf)
  case atStart => exact ⟨0, World.iter_heap w s 0, (Below.refl _ w).alloc (Nat.le_refl _) _, by omega⟩
  case round =>
   obtain ⟨pos, hit, hbw, hfu⟩ := hrel
   by_cases hps : pos < s.size
   ·obtain ⟨g', rfl⟩ : ∃ g', gk = g' + 1 := ⟨gk - 1, by omega⟩
    have hnx : ∀ ty, (Instr.next (.pointer (some ⟨w.heap.size, 0, none⟩)) true ty).run Tryz.prog wr = _ := fun ty => Lib.run_next_any_at wr w.heap.size s pos ty hit hps
    have hwd := Lib.width_pos s pos
    have hrl := Lib.rune_le s pos
    obtain ⟨R, hR⟩ : ∃ R, (Utf8.decode s pos).1 = R := ⟨_, rfl⟩
    obtain ⟨K, hK⟩ : ∃ K, (Utf8.decode s pos).2 = K := ⟨_, rfl⟩
    rw [hR, hK] at hnx
    rw [hK] at hwd
    rw [hR] at hrl
    have hit2 := Lib.iterAt_heap wr w.heap.size s pos (pos + K) hit
    have hbw2 := Lib.below_iterAt hbw (k := w.heap.size) (Nat.le_refl _) s (pos + K)
    obtain ⟨W, hWd⟩ : ∃ W, wr.iterAt w.heap.size s (pos + K) = W := ⟨_, rfl⟩
    rw [hWd] at hnx hit2 hbw2
    have cS := IndexRune_any c hc hlo R hrl W
    go_wp2_with (go_at_call 226; refine cS.mono ?_; rintro e W' ⟨⟨k, hk, rfl⟩, hbk⟩)
    ·go_ret
     exact ⟨⟨(pos : Int), by omega, by omega, rfl⟩, hbw2.trans (hbk.mono hbw2.size)⟩
    ·go_roundg g'
     case measure => omega
     case rel => exact ⟨pos + K, (hbk.block w.heap.size (Array.getElem?_eq_some_iff.1 hit2).1).trans hit2, hbw2.trans (hbk.mono hbw2.size), by omega⟩
   ·have hnx : ∀ ty, (Instr.next (.pointer (some ⟨w.heap.size, 0, none⟩)) true ty).run Tryz.prog wr = _ := fun ty => Lib.run_next_end_at wr w.heap.size s pos ty hit hps
    go_wp2
    go_ret
    exact ⟨⟨-1, by omega, by omega, rfl⟩, hbw⟩
end Go.Proofs.YthachfkcgdfdfaaGreatDoor

/- Walks: the lexer's gap. -/
namespace Go.Proofs.YthachfkcgdfdfaaGreatDoor
open Go.RowKit Classical

theorem whileF_ge (l : List UInt8) (cls : List Int) (i : Nat) : i ≤ whileF l cls i := by unfold whileF; omega
theorem whileF_le (l : List UInt8) (cls : List Int) (i : Nat) (h : i ≤ l.length) : whileF l cls i ≤ l.length := by
 have := (List.takeWhile_sublist (l := l.drop i) fun c => cls.contains (classOf c.toNat)).length_le
 rw [List.length_drop] at this
 unfold whileF; omega
theorem whileF_blank {l : List UInt8} {i : Nat} (hi : i ≤ l.length) (h : classAt l i ≠ 1) : whileF l [1] i = i := by
 by_cases hl : i < l.length
 ·refine whileF_stop (c := l[i]) (List.getElem?_eq_getElem hl) ?_
  rw [classAt, List.getElem?_eq_getElem hl] at h
  simpa using h
 ·exact whileF_end (by omega)

set_option maxRecDepth 100000 in
set_option maxHeartbeats 1000000 in
theorem gap_any (b : Nat) (s : ByteArray) (i : Nat) (hi : i ≤ s.size) (hs : s.size ≤ maxLen) (w : World) (h : ScanAt w b s) (hb : b < w.heap.size) :
  Calls Tryz.prog 134 #[.pointer (some ⟨b, 0, none⟩), .int .i64 i] w fun e w' =>
   (∃ g : Nat, e = .returned (.int .i64 g) ∧ i ≤ g ∧ g ≤ s.size ∧ (classAt (bl s) i ≠ 1 → classAt (bl s) i ≠ 2 → g = i)) ∧ Below w.heap.size w w' := by
 have hs2 := hs
 unfold maxLen at hs2
 have hone : ∀ w1 : World, RowAt (w1.alloc (.cells #[.int .i64 1] 3)) (w1.heap.size + 1) (some ⟨w1.heap.size, 0, none⟩) (nums [1]) := fun w1 _ =>
  ⟨_, 0, rfl, by omega, fun i x hx => by rw [Nat.zero_add]; exact Box.new w1 [.int .i64 1] 3 i x hx⟩
 have hW : ∀ (k : Nat) (w1 : World), k ≤ s.size → Below w.heap.size w w1 →
   Calls Tryz.prog 193 #[.pointer (some ⟨b, 0, none⟩), .int .i64 k, .slice (some ⟨w1.heap.size, 0, none⟩) 1 1] (w1.alloc (.cells #[.int .i64 1] 3)) fun e w' => e = .returned (.int .i64 (whileF (bl s) [1] k)) ∧ Below w.heap.size w w' :=
  fun k w1 hk hb1 => (while_any b s k [1] _ 1 (by decide) hk hs _ ((h.below hb1 hb).below ((Below.refl _ _).alloc (Nat.le_refl _) _) (Nat.lt_of_lt_of_le hb hb1.size)) _ (hone w1)).mono fun e w' ⟨he, q, hq⟩ => ⟨he, by rw [hq]; exact below_drewN' (hb1.alloc hb1.size _) q⟩
 go_enter Tryz.func134, Tryz.ntmps134
 go_wp2_with (go_at_call 193; refine (hW i w hi (Below.refl _ _)).mono ?_; rintro e w1 ⟨rfl, hb1⟩)
 go_loopw [1] (fun c1 wr => ∃ k : Nat, i ≤ k ∧ k ≤ s.size ∧ c1 = .int .i64 k ∧ (classAt (bl s) i ≠ 1 → classAt (bl s) i ≠ 2 → k = i) ∧ Below w.heap.size w wr) (fun c1 _ => s.size - (intOf c1).toNat)
 case atStart => exact ⟨whileF (bl s) [1] i, whileF_ge _ _ _, by have := whileF_le (bl s) [1] i (by rw [bl_length]; exact hi); rwa [bl_length] at this, rfl, fun h1 _ => whileF_blank (by rw [bl_length]; exact hi) h1, hb1⟩
 case round =>
  obtain ⟨k, hik, hks, rfl, hcl, hbr⟩ := hrel
  have Hcl := Lib.hid hcl
  have hsc := h.below hbr hb
  have ht := hsc.text
  clear hcl
  by_cases hc2 : classAt (bl s) k = 2
  ·have d1 : (classAt (bl s) k == 2) = true := by simpa using hc2
   rcases Lib.indexByte_piece s k s.size 10 with hn | ⟨o, ho, hko⟩
   ·have cI : ∀ w1 : World, Calls Tryz.prog 195 #[.string (s.extract k s.size), .int .u8 10] w1 fun e w' => e = .returned (.int .i64 (-1)) ∧ w' = w1 := fun w1 => (Tryz.strings_IndexByte (s.extract k s.size) 10 w1).mono fun e w' h => ⟨h.1.trans (by rw [show Lib.indexByte (s.extract k s.size).data.toList (10 : Int).toNat.toUInt8 = -1 from hn]), h.2⟩
    have Hc2 := Lib.hid hc2
    clear hn hc2
    go_wp2_with (first
     | (go_at_call 194; refine (at_any b s k hs _ hsc).mono ?_; rintro e w1 ⟨rfl, q1, rfl⟩)
     | (go_at_call 195; refine (cI _).mono ?_; rintro e w1 ⟨rfl, rfl⟩))
    go_ret
    refine ⟨⟨s.size, rfl, hi, Nat.le_refl _, fun h1 h2 => ?_⟩, below_drewN' hbr _⟩
    have := Hcl.out h1 h2
    subst this
    exact absurd Hc2.out h2
   ·have cI : ∀ w1 : World, Calls Tryz.prog 195 #[.string (s.extract k s.size), .int .u8 10] w1 fun e w' => e = .returned (.int .i64 (o : Int)) ∧ w' = w1 := fun w1 => (Tryz.strings_IndexByte (s.extract k s.size) 10 w1).mono fun e w' h => ⟨h.1.trans (by rw [show Lib.indexByte (s.extract k s.size).data.toList (10 : Int).toNat.toUInt8 = o from ho]), h.2⟩
    have ho1 : 0 < o := by
     rcases Nat.eq_zero_or_pos o with rfl | h0
     ·exfalso
      have h1 := (Lib.indexByte_some ho).1
      have h2 : (bl s)[k]? = some 10 := by
       rw [Lib.extract_data, List.getElem?_take] at h1
       split at h1
       ·simpa [bl] using h1
       ·simp at h1
      rw [classAt, h2] at hc2
      revert hc2
      decide
     ·exact h0
    have Hc2 := Lib.hid hc2
    have Ho := Lib.hid ho
    clear ho hc2
    go_wp2_with (first
     | (go_at_call 194; refine (at_any b s k hs _ hsc).mono ?_; rintro e w1 ⟨rfl, q1, rfl⟩)
     | (go_at_call 195; refine (cI _).mono ?_; rintro e w1 ⟨rfl, rfl⟩)
     | (go_at_call 193; refine (hW (k + o) _ (by omega) (below_drewN' hbr _)).mono ?_; rintro e w1 ⟨rfl, hb2⟩))
    have hg := whileF_ge (bl s) [1] (k + o)
    have hl := whileF_le (bl s) [1] (k + o) (by rw [bl_length]; omega)
    rw [bl_length] at hl
    refine ⟨⟨whileF (bl s) [1] (k + o), by omega, hl, rfl, fun h1 h2 => ?_, hb2⟩, by simp [intOf]; omega⟩
    have := Hcl.out h1 h2
    subst this
    exact absurd Hc2.out h2
  ·have d1 : (classAt (bl s) k == 2) = false := by simpa using hc2
   clear hc2
   go_wp2_with (first
     | (go_at_call 194; refine (at_any b s k hs _ hsc).mono ?_; rintro e w1 ⟨rfl, q1, rfl⟩))
   go_ret
   exact ⟨⟨k, rfl, hik, hks, Hcl.out⟩, below_drewN' hbr _⟩
end Go.Proofs.YthachfkcgdfdfaaGreatDoor
/- GM · L9 -/
/- L6 · L7 · L8 -/
/- Walks: the lexer's next. -/
namespace Go.Proofs.YthachfkcgdfdfaaGreatDoor
open Go.RowKit Classical

theorem decFrom_digits : ∀ (l : List UInt8) (a : Nat), (∀ c ∈ l, 48 ≤ c.toNat ∧ c.toNat ≤ 57) → ∃ n, Lib.decFrom a l = some n
 | [], a, _ => ⟨a, rfl⟩
 | b :: r, a, h => by
  have hb := h b (by simp)
  unfold Lib.decFrom Lib.digitVal
  rw [if_pos hb]
  exact decFrom_digits r _ (fun c hc => h c (by simp [hc]))
theorem atoi_digits (l : List UInt8) (hne : l ≠ []) (h : ∀ c ∈ l, 48 ≤ c.toNat ∧ c.toNat ≤ 57) : ∃ n, Lib.atoi l = some n := by
 cases l with
 | nil => exact absurd rfl hne
 | cons b r =>
  have hb := h b (by simp)
  obtain ⟨n, hn⟩ := decFrom_digits (b :: r) 0 h
  have h1 : (b == 45) = false := by
   rw [beq_eq_false_iff_ne]; rintro rfl; revert hb; decide
  have h2 : (b == 43) = false := by
   rw [beq_eq_false_iff_ne]; rintro rfl; revert hb; decide
  refine ⟨(n : Int), ?_⟩
  simp only [Lib.atoi, Lib.decNat, h1, h2, hn]
  rfl

theorem classOf_digit {c : Nat} (h : classOf c = 4) : 48 ≤ c ∧ c ≤ 57 := by
 by_cases hd : 48 ≤ c ∧ c ≤ 57
 ·exact hd
 ·exfalso
  unfold classOf at h
  rw [if_neg hd] at h
  repeat' split at h
  all_goals omega
theorem whileF_all (l : List UInt8) (cls : List Int) (i j : Nat) (c : UInt8) (hij : i ≤ j) (hj : j < whileF l cls i) (hc : l[j]? = some c) : cls.contains (classOf c.toNat) = true := by
 obtain ⟨d, rfl⟩ : ∃ d, j = i + d := ⟨j - i, by omega⟩
 have hd : d < ((l.drop i).takeWhile fun c => cls.contains (classOf c.toNat)).length := by unfold whileF at hj; omega
 have h1 : (l.drop i)[d]? = some c := by rw [List.getElem?_drop]; exact hc
 have h2 : ((l.drop i).takeWhile fun c => cls.contains (classOf c.toNat))[d]? = some c := by
  have hp : ((l.drop i).takeWhile fun c => cls.contains (classOf c.toNat)) <+: l.drop i := List.takeWhile_prefix _
  obtain ⟨t, ht⟩ := hp
  rw [← ht, List.getElem?_append_left hd] at h1
  exact h1
 have hm := List.mem_of_getElem? h2
 have ha : (List.takeWhile (fun c : UInt8 => cls.contains (classOf c.toNat)) (l.drop i)).all (fun c => cls.contains (classOf c.toNat)) = true := List.all_takeWhile
 exact List.all_eq_true.1 ha c hm

/-- What 'next' returns at i. -/
def NextPost (s : ByteArray) (i : Nat) (kind : Int) (text : ByteArray) (en : Nat) (err : Int) : Prop :=
 (err = 0 → i < en ∧ en ≤ s.size ∧ text.size ≤ s.size) ∧
 (classAt (bl s) i = 3 → whileF (bl s) [3, 4, 5] i - i ≤ 24 → err = 0 ∧ kind = 1 ∧ text = s.extract i (whileF (bl s) [3, 4, 5] i) ∧ en = whileF (bl s) [3, 4, 5] i) ∧
 (classAt (bl s) i = 3 → 24 < whileF (bl s) [3, 4, 5] i - i → err ≠ 0) ∧
 (classAt (bl s) i ≠ 3 → kind ≠ 1)
def tokCells (kind at_ n : Int) (text : ByteArray) : List Value := [.int .i64 kind, .int .i64 at_, .int .i64 n, .string text]

theorem row_new (w1 : World) (cls : List Int) (t : TypeId) : RowAt (w1.alloc (.cells (nums cls).toArray t)) (w1.heap.size + 1) (some ⟨w1.heap.size, 0, none⟩) (nums cls) := fun _ =>
 ⟨_, 0, rfl, by omega, fun i x hx => by rw [Nat.zero_add]; exact Box.new w1 (nums cls) t i x hx⟩
theorem while_new (b : Nat) (s : ByteArray) (cls : List Int) (hcl : cls.length ≤ maxLen) (i : Nat) (hi : i ≤ s.size) (hs : s.size ≤ maxLen) (w1 : World) (h : ScanAt w1 b s) (hb : b < w1.heap.size) :
  Calls Tryz.prog 193 #[.pointer (some ⟨b, 0, none⟩), .int .i64 i, .slice (some ⟨w1.heap.size, 0, none⟩) cls.length cls.length] (w1.alloc (.cells (nums cls).toArray 3)) fun e w' => e = .returned (.int .i64 (whileF (bl s) cls i)) ∧ Below w1.heap.size w1 w' :=
 (while_any b s i cls _ _ hcl hi hs _ (h.below ((Below.refl _ _).alloc (Nat.le_refl _) _) hb) _ (row_new w1 cls 3)).mono fun e w' ⟨he, q, hq⟩ => ⟨he, by rw [hq]; exact below_drewN' ((Below.refl _ _).alloc (Nat.le_refl _) _) q⟩

theorem below4 {B k : Nat} {w w2 : World} (h : Below B w w2) (hk : B ≤ k) (x0 x1 x2 x3 : Value) : Below B w ((((w2.setCell ⟨k, 0, none⟩ x0).setCell ⟨k, 1, none⟩ x1).setCell ⟨k, 2, none⟩ x2).setCell ⟨k, 3, none⟩ x3) :=
 (((h.setCell (p := ⟨k, 0, none⟩) hk x0).setCell (p := ⟨k, 1, none⟩) hk x1).setCell (p := ⟨k, 2, none⟩) hk x2).setCell (p := ⟨k, 3, none⟩) hk x3

set_option maxRecDepth 100000 in
set_option maxHeartbeats 2000000 in
theorem next_any (b : Nat) (s : ByteArray) (i : Nat) (hi : i < s.size) (hs : s.size < 4294967281) (w : World) (h : ScanAt w b s) (hb : b < w.heap.size) :
  Calls Tryz.prog 135 #[.pointer (some ⟨b, 0, none⟩), .int .i64 i] w fun e w' =>
   (∃ kind at_ n text en err, e = .returned (.tuple #[.agg (tokCells kind at_ n text).toArray, .int .i64 (en : Nat), .int .i64 err]) ∧ NextPost s i kind text en err) ∧ Below w.heap.size w w' := by
 have hm : s.size ≤ maxLen := by unfold maxLen; omega
 go_enter Tryz.func135, Tryz.ntmps135
 obtain ⟨C, hC⟩ : ∃ C, classAt (bl s) i = C := ⟨_, rfl⟩
 have h0 : Blk (w.alloc (Obj.cells #[.int .i64 0, .int .i64 0, .int .i64 0, .string ⟨#[]⟩] 135)) w.heap.size #[.int .i64 0, .int .i64 0, .int .i64 0, .string ⟨#[]⟩] 135 := Blk.new w _ _
 have hb0 : Below w.heap.size w (w.alloc (Obj.cells #[.int .i64 0, .int .i64 0, .int .i64 0, .string ⟨#[]⟩] 135)) := (Below.refl _ _).alloc (Nat.le_refl _) _
 have hz0 : (w.alloc (Obj.cells #[.int .i64 0, .int .i64 0, .int .i64 0, .string ⟨#[]⟩] 135)).heap.size = w.heap.size + 1 := by simp
 go_wp2_with fail
 generalize hW0 : w.alloc (Obj.cells #[.int .i64 0, .int .i64 0, .int .i64 0, .string ⟨#[]⟩] 135) = W0 at h0 hb0 hz0
 clear hW0
 have hsc := h.below hb0 hb
 have ha := at_any b s i hm W0 hsc
 rw [hC] at ha
 refine ha.mono ?_
 rintro e w1 ⟨rfl, q1, hq1⟩
 have hw1 : Below W0.heap.size W0 w1 := by rw [hq1]; exact below_drewN' (Below.refl _ _) _
 clear hq1 ha
 have Hk := Lib.hid (fun (wr : World) (hbw : Below W0.heap.size W0 wr) => (show (∀ j, wr.cell? ⟨w.heap.size, j, none⟩ = (#[Value.int .i64 0, .int .i64 0, .int .i64 0, .string ⟨#[]⟩] : Array Value)[j]?) ∧ (∀ j, wr.frozen? ⟨w.heap.size, j, none⟩ = false) ∧ ScanAt wr b s ∧ Below w.heap.size w wr from
  ⟨fun j => (h0.below hbw (by omega)).cell j, fun j => (h0.below hbw (by omega)).frozen j, hsc.below hbw (by omega), hb0.trans (hbw.mono hb0.size)⟩))
 clear h0
 by_cases c3 : C = 3
 ·subst c3
  go_wp2_with fail
  obtain ⟨m1, m2, m3, m4⟩ := Hk.out w1 hw1
  refine (while_new b s [3, 4, 5] (by decide) i (by omega) hm w1 m3 (by have := hw1.size; omega)).mono ?_
  rintro e w2 ⟨rfl, hw2⟩
  have hw12 := hw1.trans (hw2.mono hw1.size)
  have hge := whileF_ge (bl s) [3, 4, 5] i
  have hle := whileF_le (bl s) [3, 4, 5] i (by rw [bl_length]; omega)
  rw [bl_length] at hle
  have hlt : i < whileF (bl s) [3, 4, 5] i := by
   have hg := bl_get s i hi
   rw [whileF_step hg (by rw [classAt, hg] at hC; simp only at hC; rw [hC]; rfl)]
   exact Nat.lt_of_lt_of_le (Nat.lt_succ_self i) (whileF_ge _ _ _)
  generalize hE : whileF (bl s) [3, 4, 5] i = E at hge hle hlt
  have HE := Lib.hid hE
  clear hE m1 m2 m3 m4
  obtain ⟨m1, m2, m3, m4⟩ := Hk.out w2 hw12
  have ht := m3.text
  obtain ⟨n0, n1, n2, n3⟩ : w2.cell? ⟨w.heap.size, 0, none⟩ = some (.int .i64 0) ∧ w2.cell? ⟨w.heap.size, 1, none⟩ = some (.int .i64 0) ∧ w2.cell? ⟨w.heap.size, 2, none⟩ = some (.int .i64 0) ∧ w2.cell? ⟨w.heap.size, 3, none⟩ = some (.string ⟨#[]⟩) := ⟨m1 0, m1 1, m1 2, m1 3⟩
  have hwr : IntKind.i64.wrap ((E : Int) - (i : Int)) = (E : Int) - (i : Int) := IntWalk.i64_in _ (by omega)
  by_cases h24 : E - i ≤ 24
  ·have d24 : decide ((24 : Int) < (E : Int) - (i : Int)) = false := by simp; omega
   clear m1
   go_wp2_with fail
   refine bodyPost_ret (v := .tuple #[.agg (tokCells 1 i 0 (s.extract i E)).toArray, .int .i64 (E : Nat), .int .i64 0]) (by simp [results, tokCells, Tryz.results135, go_sem, n0, n1, n2, n3]) rfl ?_
   refine ⟨⟨1, i, 0, s.extract i E, E, 0, rfl, ⟨fun _ => ⟨hlt, hle, by simp; omega⟩, fun _ _ => by rw [HE.out]; exact ⟨rfl, rfl, rfl, rfl⟩, fun _ h => ?_, fun h => absurd hC h⟩⟩, below4 m4 (Nat.le_refl _) _ _ _ _⟩
   rw [HE.out] at h; omega
  ·have d24 : decide ((24 : Int) < (E : Int) - (i : Int)) = true := by simp; omega
   clear m1
   go_wp2_with fail
   refine bodyPost_ret (v := .tuple #[.agg (tokCells 0 0 0 ⟨#[]⟩).toArray, .int .i64 (0 : Nat), .int .i64 2]) (by simp [results, tokCells, Tryz.results135, go_sem, n0, n1, n2, n3]) rfl ?_
   refine ⟨⟨0, 0, 0, ⟨#[]⟩, 0, 2, rfl, ⟨fun h => absurd h (by decide), fun _ h => ?_, fun _ _ => by decide, fun h => absurd hC h⟩⟩, below4 m4 (Nat.le_refl _) _ _ _ _⟩
   rw [HE.out] at h; omega
 ·have d3 : (C == 3) = false := by simpa using c3
  by_cases c4 : C = 4
  ·subst c4
   go_wp2_with fail
   obtain ⟨m1, m2, m3, m4⟩ := Hk.out w1 hw1
   refine (while_new b s [4] (by decide) i (by omega) hm w1 m3 (by have := hw1.size; omega)).mono ?_
   rintro e w2 ⟨rfl, hw2⟩
   have hw12 := hw1.trans (hw2.mono hw1.size)
   have hge := whileF_ge (bl s) [4] i
   have hle := whileF_le (bl s) [4] i (by rw [bl_length]; omega)
   rw [bl_length] at hle
   have hlt : i < whileF (bl s) [4] i := by
    have hg := bl_get s i hi
    rw [whileF_step hg (by rw [classAt, hg] at hC; simp only at hC; rw [hC]; rfl)]
    exact Nat.lt_of_lt_of_le (Nat.lt_succ_self i) (whileF_ge _ _ _)
   have hall := whileF_all (bl s) [4] i
   generalize hE : whileF (bl s) [4] i = E at hge hle hlt hall
   have HE := Lib.hid hE
   have Hall := Lib.hid hall
   clear hE hall m1 m2 m3 m4
   obtain ⟨m1, m2, m3, m4⟩ := Hk.out w2 hw12
   go_wp2_with fail
   refine (at_any b s E hm w2 m3).mono ?_
   rintro e w3 ⟨rfl, q3, hq3⟩
   have hw13 : Below W0.heap.size W0 w3 := by rw [hq3]; exact below_drewN' hw12 _
   clear hq3 m1 m2 m3 m4
   obtain ⟨m1, m2, m3, m4⟩ := Hk.out w3 hw13
   obtain ⟨A, hA⟩ : ∃ A, classAt (bl s) E = A := ⟨_, rfl⟩
   rw [hA]
   clear hA
   have ht := m3.text
   obtain ⟨n0, n1, n2, n3⟩ : w3.cell? ⟨w.heap.size, 0, none⟩ = some (.int .i64 0) ∧ w3.cell? ⟨w.heap.size, 1, none⟩ = some (.int .i64 0) ∧ w3.cell? ⟨w.heap.size, 2, none⟩ = some (.int .i64 0) ∧ w3.cell? ⟨w.heap.size, 3, none⟩ = some (.string ⟨#[]⟩) := ⟨m1 0, m1 1, m1 2, m1 3⟩
   have hwr : IntKind.i64.wrap ((E : Int) - (i : Int)) = (E : Int) - (i : Int) := IntWalk.i64_in _ (by omega)
   have hN : NextPost s i 0 ⟨#[]⟩ 0 4 := ⟨fun h => absurd h (by decide), fun h => absurd (hC.symm.trans h) (by decide), fun h => absurd (hC.symm.trans h) (by decide), fun _ => by decide⟩
   by_cases h13 : E - i ≤ 13
   ·have d13 : decide ((13 : Int) < (E : Int) - (i : Int)) = false := by simp; omega
    by_cases a3 : A = 3
    ·subst a3
     clear m1
     go_wp2_with fail
     refine bodyPost_ret (v := .tuple #[.agg (tokCells 0 0 0 ⟨#[]⟩).toArray, .int .i64 (0 : Nat), .int .i64 4]) (by simp [results, tokCells, Tryz.results135, go_sem, n0, n1, n2, n3]) rfl ?_
     exact ⟨⟨0, 0, 0, ⟨#[]⟩, 0, 4, rfl, hN⟩, below4 m4 (Nat.le_refl _) _ _ _ _⟩
    ·have e3 : (A == 3) = false := by simpa using a3
     by_cases a5 : A = 5
     ·subst a5
      clear m1
      go_wp2_with fail
      refine bodyPost_ret (v := .tuple #[.agg (tokCells 0 0 0 ⟨#[]⟩).toArray, .int .i64 (0 : Nat), .int .i64 4]) (by simp [results, tokCells, Tryz.results135, go_sem, n0, n1, n2, n3]) rfl ?_
      exact ⟨⟨0, 0, 0, ⟨#[]⟩, 0, 4, rfl, hN⟩, below4 m4 (Nat.le_refl _) _ _ _ _⟩
     ·have e5 : (A == 5) = false := by simpa using a5
      obtain ⟨n, hn⟩ : ∃ n, Lib.atoi (s.extract i E).data.toList = some n := by
       refine atoi_digits _ (fun e => ?_) (fun c hc => ?_)
       ·have := congrArg List.length e
        rw [← Lib.size_eq] at this
        simp at this
        omega
       ·obtain ⟨j, hj⟩ := List.getElem?_of_mem hc
        rw [Lib.extract_data, List.getElem?_take] at hj
        split at hj
        ·rw [List.getElem?_drop] at hj
         have := Hall.out (i + j) c (by omega) (by omega) hj
         exact classOf_digit (by simpa using this)
        ·simp at hj
      have Hn := Lib.hid hn
      clear hn m1
      go_wp2_with fail
      refine (Tryz.strconv_Atoi (s.extract i E) n (by simp; omega) Hn.out _).mono ?_
      rintro e w4 ⟨rfl, t4, hq4⟩
      have hw14 : Below W0.heap.size W0 w4 := by rw [hq4]; exact hw13.trans (Go.Joins.below_bytesWorld _ _ _ _ hw13.size)
      clear hq4 m2 m3 m4 ht n0 n1 n2 n3
      obtain ⟨m1, m2, m3, m4⟩ := Hk.out w4 hw14
      have ht := m3.text
      obtain ⟨n0, n1, n2, n3⟩ : w4.cell? ⟨w.heap.size, 0, none⟩ = some (.int .i64 0) ∧ w4.cell? ⟨w.heap.size, 1, none⟩ = some (.int .i64 0) ∧ w4.cell? ⟨w.heap.size, 2, none⟩ = some (.int .i64 0) ∧ w4.cell? ⟨w.heap.size, 3, none⟩ = some (.string ⟨#[]⟩) := ⟨m1 0, m1 1, m1 2, m1 3⟩
      clear m1
      go_wp2_with fail
      refine bodyPost_ret (v := .tuple #[.agg (tokCells 2 i n (s.extract i E)).toArray, .int .i64 (E : Nat), .int .i64 0]) (by simp [results, tokCells, Tryz.results135, go_sem, n0, n1, n2, n3]) rfl ?_
      exact ⟨⟨2, i, n, s.extract i E, E, 0, rfl, ⟨fun _ => ⟨hlt, hle, by simp; omega⟩, fun h => absurd (hC.symm.trans h) (by decide), fun h => absurd (hC.symm.trans h) (by decide), fun _ => by decide⟩⟩, below4 m4 (Nat.le_refl _) _ _ _ _⟩
   ·have d13 : decide ((13 : Int) < (E : Int) - (i : Int)) = true := by simp; omega
    clear m1
    go_wp2_with fail
    refine bodyPost_ret (v := .tuple #[.agg (tokCells 0 0 0 ⟨#[]⟩).toArray, .int .i64 (0 : Nat), .int .i64 4]) (by simp [results, tokCells, Tryz.results135, go_sem, n0, n1, n2, n3]) rfl ?_
    exact ⟨⟨0, 0, 0, ⟨#[]⟩, 0, 4, rfl, hN⟩, below4 m4 (Nat.le_refl _) _ _ _ _⟩
  ·have d4 : (C == 4) = false := by simpa using c4
   by_cases c6 : C = 6
   ·subst c6
    obtain ⟨m1, m2, m3, m4⟩ := Hk.out w1 hw1
    have ht := m3.text
    clear m1 m2 m3 m4
    have hP : ∀ err : Int, err ≠ 0 → NextPost s i 0 ⟨#[]⟩ 0 err := fun err he => ⟨fun h => absurd h he, fun h => absurd (hC.symm.trans h) (by decide), fun h => absurd (hC.symm.trans h) (by decide), fun _ => by decide⟩
    go_wp2_with fail
    obtain ⟨rest, hrest⟩ : ∃ rest, s.extract (i + 1) s.size = rest := ⟨_, rfl⟩
    have hrs : rest.size = s.size - (i + 1) := by rw [← hrest]; simp
    rw [hrest]
    clear hrest ht
    refine (IndexAny_any rest ⟨#[34, 10]⟩ rfl (fun j hj => by
     have hj2 : j < 2 := hj
     rcases (by omega : j = 0 ∨ j = 1) with rfl | rfl
     ·show (34 : UInt8).toNat < 128; decide
     ·show (10 : UInt8).toNat < 128; decide) (by omega) w1).mono ?_
    rintro e w2 ⟨⟨k, hk1, hk2, rfl⟩, hw2⟩
    have hw12 := hw1.trans (hw2.mono hw1.size)
    obtain ⟨m1, m2, m3, m4⟩ := Hk.out w2 hw12
    have ht := m3.text
    obtain ⟨n0, n1, n2, n3⟩ : w2.cell? ⟨w.heap.size, 0, none⟩ = some (.int .i64 0) ∧ w2.cell? ⟨w.heap.size, 1, none⟩ = some (.int .i64 0) ∧ w2.cell? ⟨w.heap.size, 2, none⟩ = some (.int .i64 0) ∧ w2.cell? ⟨w.heap.size, 3, none⟩ = some (.string ⟨#[]⟩) := ⟨m1 0, m1 1, m1 2, m1 3⟩
    clear m1
    by_cases hk0 : k < 0
    ·have e0 : decide (k < 0) = true := by simpa using hk0
     go_wp2_with fail
     refine bodyPost_ret (v := .tuple #[.agg (tokCells 0 0 0 ⟨#[]⟩).toArray, .int .i64 (0 : Nat), .int .i64 6]) (by simp [results, tokCells, Tryz.results135, go_sem, n0, n1, n2, n3]) rfl ?_
     exact ⟨⟨0, 0, 0, ⟨#[]⟩, 0, 6, rfl, hP 6 (by decide)⟩, below4 m4 (Nat.le_refl _) _ _ _ _⟩
    ·obtain ⟨n, rfl⟩ : ∃ n : Nat, k = n := ⟨k.toNat, by omega⟩
     have hnr : n < rest.size := by omega
     have e0 : decide ((n : Int) < 0) = false := by simp
     obtain ⟨c, hc⟩ : ∃ c, rest[n]'hnr = c := ⟨_, rfl⟩
     by_cases hc10 : c = 10
     ·have e1 : ((c.toNat : Int) == 10) = true := by rw [hc10]; rfl
      go_wp2_with fail
      refine bodyPost_ret (v := .tuple #[.agg (tokCells 0 0 0 ⟨#[]⟩).toArray, .int .i64 (0 : Nat), .int .i64 6]) (by simp [results, tokCells, Tryz.results135, go_sem, n0, n1, n2, n3]) rfl ?_
      exact ⟨⟨0, 0, 0, ⟨#[]⟩, 0, 6, rfl, hP 6 (by decide)⟩, below4 m4 (Nat.le_refl _) _ _ _ _⟩
     ·have e1 : ((c.toNat : Int) == 10) = false := by
       rw [beq_eq_false_iff_ne]
       intro e
       exact hc10 (UInt8.toNat_inj.1 (by show c.toNat = 10; omega))
      by_cases h400 : n ≤ 400
      ·have e2 : decide ((400 : Int) < (n : Int)) = false := by simp; omega
       go_wp2_with fail
       refine bodyPost_ret (v := .tuple #[.agg (tokCells 3 i 0 (rest.extract 0 n)).toArray, .int .i64 ((i + n + 2 : Nat) : Int), .int .i64 0]) (by simp [results, tokCells, Tryz.results135, go_sem, n0, n1, n2, n3]) rfl ?_
       exact ⟨⟨3, i, 0, rest.extract 0 n, i + n + 2, 0, rfl, ⟨fun _ => ⟨by omega, by omega, by simp; omega⟩, fun h => absurd (hC.symm.trans h) (by decide), fun h => absurd (hC.symm.trans h) (by decide), fun _ => by decide⟩⟩, below4 m4 (Nat.le_refl _) _ _ _ _⟩
      ·have e2 : decide ((400 : Int) < (n : Int)) = true := by simp; omega
       go_wp2_with fail
       refine bodyPost_ret (v := .tuple #[.agg (tokCells 0 0 0 ⟨#[]⟩).toArray, .int .i64 (0 : Nat), .int .i64 2]) (by simp [results, tokCells, Tryz.results135, go_sem, n0, n1, n2, n3]) rfl ?_
       exact ⟨⟨0, 0, 0, ⟨#[]⟩, 0, 2, rfl, hP 2 (by decide)⟩, below4 m4 (Nat.le_refl _) _ _ _ _⟩
   ·have d6 : (C == 6) = false := by simpa using c6
    have hP : ∀ err : Int, err ≠ 0 → NextPost s i 0 ⟨#[]⟩ 0 err := fun err he => ⟨fun h => absurd h he, fun h => absurd (hC.symm.trans h) c3, fun h => absurd (hC.symm.trans h) c3, fun _ => by decide⟩
    have hS : ∀ (t : ByteArray) (en : Nat), t.size ≤ s.size → i < en → en ≤ s.size → NextPost s i 4 t en 0 := fun t en h1 h2 h3 => ⟨fun _ => ⟨h2, h3, h1⟩, fun h => absurd (hC.symm.trans h) c3, fun h => absurd (hC.symm.trans h) c3, fun _ => by decide⟩
    obtain ⟨m1, m2, m3, m4⟩ := Hk.out w1 hw1
    have ht := m3.text
    obtain ⟨n0, n1, n2, n3⟩ : w1.cell? ⟨w.heap.size, 0, none⟩ = some (.int .i64 0) ∧ w1.cell? ⟨w.heap.size, 1, none⟩ = some (.int .i64 0) ∧ w1.cell? ⟨w.heap.size, 2, none⟩ = some (.int .i64 0) ∧ w1.cell? ⟨w.heap.size, 3, none⟩ = some (.string ⟨#[]⟩) := ⟨m1 0, m1 1, m1 2, m1 3⟩
    clear m1
    by_cases c78 : C = 7 ∨ C = 8
    ·rcases c78 with rfl | rfl
     ·go_wp2_with fail
      refine (Tryz.strings_HasPrefix (s.extract (i + 1) s.size) ⟨#[61]⟩ w1).mono ?_
      rintro e w2 ⟨rfl, rfl⟩
      cases hp : Lib.hasPrefix (s.extract (i + 1) s.size).data.toList (⟨#[61]⟩ : ByteArray).data.toList with
      | true =>
       have hlen : i + 2 ≤ s.size := by
        rcases Nat.lt_or_ge s.size (i + 2) with hlt | hge
        ·exfalso
         have : (s.extract (i + 1) s.size).data.toList = [] := List.length_eq_zero_iff.1 (by rw [← Lib.size_eq]; simp; omega)
         rw [this] at hp
         revert hp; decide
        ·exact hge
       have Hp := Lib.hid hp
       clear hp
       go_wp2_with fail
       refine bodyPost_ret (v := .tuple #[.agg (tokCells 4 i 0 (s.extract i (i + 2))).toArray, .int .i64 ((i + 2 : Nat) : Int), .int .i64 0]) (by simp [results, tokCells, Tryz.results135, go_sem, n0, n1, n2, n3]) rfl ?_
       exact ⟨⟨4, i, 0, s.extract i (i + 2), i + 2, 0, rfl, hS _ _ (by simp; omega) (by omega) (by omega)⟩, below4 m4 (Nat.le_refl _) _ _ _ _⟩
      | false =>
       have Hp := Lib.hid hp
       clear hp
       go_wp2_with fail
       refine bodyPost_ret (v := .tuple #[.agg (tokCells 0 0 0 ⟨#[]⟩).toArray, .int .i64 (0 : Nat), .int .i64 3]) (by simp [results, tokCells, Tryz.results135, go_sem, n0, n1, n2, n3]) rfl ?_
       exact ⟨⟨0, 0, 0, ⟨#[]⟩, 0, 3, rfl, hP 3 (by decide)⟩, below4 m4 (Nat.le_refl _) _ _ _ _⟩
     ·go_wp2_with fail
      refine (Tryz.strings_HasPrefix (s.extract (i + 1) s.size) ⟨#[61]⟩ w1).mono ?_
      rintro e w2 ⟨rfl, rfl⟩
      cases hp : Lib.hasPrefix (s.extract (i + 1) s.size).data.toList (⟨#[61]⟩ : ByteArray).data.toList with
      | true =>
       have hlen : i + 2 ≤ s.size := by
        rcases Nat.lt_or_ge s.size (i + 2) with hlt | hge
        ·exfalso
         have : (s.extract (i + 1) s.size).data.toList = [] := List.length_eq_zero_iff.1 (by rw [← Lib.size_eq]; simp; omega)
         rw [this] at hp
         revert hp; decide
        ·exact hge
       have Hp := Lib.hid hp
       clear hp
       go_wp2_with fail
       refine bodyPost_ret (v := .tuple #[.agg (tokCells 4 i 0 (s.extract i (i + 2))).toArray, .int .i64 ((i + 2 : Nat) : Int), .int .i64 0]) (by simp [results, tokCells, Tryz.results135, go_sem, n0, n1, n2, n3]) rfl ?_
       exact ⟨⟨4, i, 0, s.extract i (i + 2), i + 2, 0, rfl, hS _ _ (by simp; omega) (by omega) (by omega)⟩, below4 m4 (Nat.le_refl _) _ _ _ _⟩
      | false =>
       have Hp := Lib.hid hp
       clear hp
       go_wp2_with fail
       refine bodyPost_ret (v := .tuple #[.agg (tokCells 4 i 0 (s.extract i (i + 1))).toArray, .int .i64 ((i + 1 : Nat) : Int), .int .i64 0]) (by simp [results, tokCells, Tryz.results135, go_sem, n0, n1, n2, n3]) rfl ?_
       exact ⟨⟨4, i, 0, s.extract i (i + 1), i + 1, 0, rfl, hS _ _ (by simp; omega) (by omega) (by omega)⟩, below4 m4 (Nat.le_refl _) _ _ _ _⟩
    ·have d7 : (C == 7) = false := by simp; omega
     have d8 : (C == 8) = false := by simp; omega
     by_cases c9 : C = 9
     ·subst c9
      go_wp2_with fail
      refine bodyPost_ret (v := .tuple #[.agg (tokCells 4 i 0 (s.extract i (i + 1))).toArray, .int .i64 ((i + 1 : Nat) : Int), .int .i64 0]) (by simp [results, tokCells, Tryz.results135, go_sem, n0, n1, n2, n3]) rfl ?_
      exact ⟨⟨4, i, 0, s.extract i (i + 1), i + 1, 0, rfl, hS _ _ (by simp; omega) (by omega) (by omega)⟩, below4 m4 (Nat.le_refl _) _ _ _ _⟩
     ·have d9 : (C == 9) = false := by simpa using c9
      go_wp2_with fail
      refine bodyPost_ret (v := .tuple #[.agg (tokCells 0 0 0 ⟨#[]⟩).toArray, .int .i64 (0 : Nat), .int .i64 3]) (by simp [results, tokCells, Tryz.results135, go_sem, n0, n1, n2, n3]) rfl ?_
      exact ⟨⟨0, 0, 0, ⟨#[]⟩, 0, 3, rfl, hP 3 (by decide)⟩, below4 m4 (Nat.le_refl _) _ _ _ _⟩

end Go.Proofs.YthachfkcgdfdfaaGreatDoor

/- A name by the lexer's classes; plain. -/
namespace Go.Proofs.YthachfkcgdfdfaaGreatDoor
open Go.RowKit Classical

theorem classOf_letter (c : Nat) : classOf c = 3 ↔ letterB (c : Int) = true := by
 unfold letterB classOf
 constructor
 ·intro h
  repeat' split at h
  all_goals first | omega | (simp; omega)
 ·intro h
  simp at h
  rw [if_pos (by omega)]
theorem classOf_word (c : Nat) : [3, 4, 5].contains (classOf c) = true ↔ wordB (c : Int) = true := by
 unfold wordB letterB digitB classOf
 constructor
 ·intro h
  repeat' split at h
  all_goals first | (simp; omega) | (simp at h)
 ·intro h
  simp at h
  by_cases h1 : 97 ≤ c ∧ c ≤ 122 ∨ 65 ≤ c ∧ c ≤ 90
  ·rw [if_pos h1]; rfl
  ·rw [if_neg h1]
   by_cases h2 : 48 ≤ c ∧ c ≤ 57
   ·rw [if_pos h2]; rfl
   ·rw [if_neg h2, if_pos (by omega)]; rfl

theorem takeWhile_self {α : Type} (p : α → Bool) : ∀ l : List α, (∀ c ∈ l, p c = true) → l.takeWhile p = l
 | [], _ => rfl
 | a :: l, h => by rw [List.takeWhile_cons, if_pos (h a (by simp)), takeWhile_self p l (fun c hc => h c (by simp [hc]))]

/-- A name: its first byte is a letter, all are letters, digits or '_', and it has at most 24. -/
theorem name_iff (l : List UInt8) : nameB l = true ↔ classAt l 0 = 3 ∧ whileF l [3, 4, 5] 0 = l.length ∧ l.length ≤ 24 := by
 have hw : whileF l [3, 4, 5] 0 = l.length ↔ ∀ c ∈ l, wordB (c.toNat : Int) = true := by
  unfold whileF
  rw [Nat.zero_add, List.drop_zero]
  constructor
  ·intro h c hc
   have he : l.takeWhile (fun c => [3, 4, 5].contains (classOf c.toNat)) = l := (List.takeWhile_prefix _).eq_of_length h
   rw [← classOf_word]
   have ha : (l.takeWhile fun c : UInt8 => [3, 4, 5].contains (classOf c.toNat)).all (fun c => [3, 4, 5].contains (classOf c.toNat)) = true := List.all_takeWhile
   rw [he] at ha
   exact List.all_eq_true.1 ha c hc
  ·intro h
   congr 1
   refine takeWhile_self _ _ (fun c hc => ?_)
   rw [classOf_word]
   exact h c hc
 unfold nameB
 simp only [Bool.and_eq_true, decide_eq_true_eq, List.all_eq_true]
 rw [hw]
 cases l with
 | nil => simp [classAt]
 | cons a l =>
  have hc : classAt (a :: l) 0 = 3 ↔ letterB (a.toNat : Int) = true := classOf_letter _
  rw [hc]
  simp
  constructor
  ·rintro ⟨⟨h1, h2⟩, h3⟩; exact ⟨h3, h1, h2⟩
  ·rintro ⟨h3, h1, h2⟩; exact ⟨⟨h1, h2⟩, h3⟩

end Go.Proofs.YthachfkcgdfdfaaGreatDoor

/- Walk: lexer.Lex, as far as names need it. -/
namespace Go.Proofs.YthachfkcgdfdfaaGreatDoor
open Go.RowKit Classical

structure Tok where
 kind : Int
 pos : Int
 num : Int
 text : ByteArray
def Tok.cells (t : Tok) : List Value := tokCells t.kind t.pos t.num t.text
def flatT (l : List Tok) : List Value := (l.map Tok.cells).flatten
theorem flatT_snoc (l : List Tok) (t : Tok) : flatT (l ++ [t]) = flatT l ++ t.cells := by simp [flatT]
/-- The tokens are one name: the whole text. -/
def oneName (s : ByteArray) (T : List Tok) : Prop := ∃ t, T = [t] ∧ t.kind = 1 ∧ t.text = s

/-- How far Lex has come. -/
def LexInv (s : ByteArray) (T : List Tok) (i : Nat) : Prop :=
 (T = [] ∧ (classAt (bl s) 0 ≠ 1 → classAt (bl s) 0 ≠ 2 → i = 0)) ∨ (oneName s T ∧ nameB (bl s) = true ∧ i = s.size) ∨ (T ≠ [] ∧ ¬ oneName s T ∧ nameB (bl s) = false)

theorem lex_err {s : ByteArray} {T : List Tok} {i : Nat} (h : LexInv s T i) (hi : i < s.size) {kind : Int} {text : ByteArray} {en : Nat} {err : Int} (hn : NextPost s i kind text en err) (he : err ≠ 0) : nameB (bl s) = false := by
 rcases h with ⟨_, h0⟩ | ⟨_, _, h3⟩ | ⟨_, _, h3⟩
 ·rw [← Bool.not_eq_true, name_iff]
  rintro ⟨h1, h2, h3⟩
  obtain rfl := h0 (by rw [h1]; decide) (by rw [h1]; decide)
  exact he (hn.2.1 h1 (by omega)).1
 ·omega
 ·exact h3
theorem extract_all {s : ByteArray} {a b : Nat} (hb : b ≤ s.size) (h : s.extract a b = s) (hs : 0 < s.size) : a = 0 ∧ b = s.size := by
 have := congrArg ByteArray.size h
 simp at this
 omega
theorem lex_step {s : ByteArray} {T : List Tok} {i : Nat} (h : LexInv s T i) (hi : i < s.size) {t : Tok} {en : Nat} (hn : NextPost s i t.kind t.text en 0) :
  LexInv s (T ++ [t]) en := by
 obtain ⟨h1, h2, h3, h4⟩ := hn
 obtain ⟨hlt, hle, _⟩ := h1 rfl
 rcases h with ⟨rfl, h0⟩ | ⟨_, _, h3⟩ | ⟨hne, hno, hnb⟩
 ·cases hb : nameB (bl s) with
  | true =>
   obtain ⟨c1, c2, c3⟩ := (name_iff _).1 hb
   obtain rfl := h0 (by rw [c1]; decide) (by rw [c1]; decide)
   obtain ⟨_, k1, k2, k3⟩ := h2 c1 (by omega)
   refine .inr (.inl ⟨⟨t, rfl, k1, ?_⟩, hb, by rw [k3, c2, bl_length]⟩)
   rw [k2, c2, bl_length]; simp
  | false =>
   refine .inr (.inr ⟨by simp, ?_, hb⟩)
   rintro ⟨t', e, k1, k2⟩
   obtain rfl : t = t' := by simpa using e
   have c1 : classAt (bl s) i = 3 := Classical.byContradiction fun hc => h4 hc k1
   have c2 : whileF (bl s) [3, 4, 5] i - i ≤ 24 := by
    rcases Nat.lt_or_ge 24 (whileF (bl s) [3, 4, 5] i - i) with h | h
    ·exact absurd rfl (h3 c1 h)
    ·exact h
   obtain ⟨_, _, k3, k4⟩ := h2 c1 c2
   obtain ⟨rfl, e2⟩ := extract_all (by have := whileF_le (bl s) [3, 4, 5] i (by rw [bl_length]; omega); rwa [bl_length] at this) (k3.symm.trans k2) (by omega)
   rw [← Bool.not_eq_true, name_iff] at hb
   exact hb ⟨c1, by rw [e2, bl_length], by rw [bl_length]; omega⟩
 ·omega
 ·refine .inr (.inr ⟨by simp, ?_, hnb⟩)
  rintro ⟨t', e, k1, k2⟩
  cases T with
  | nil => exact hne rfl
  | cons a r => simp at e
theorem lex_end {s : ByteArray} {T : List Tok} {i : Nat} (h : LexInv s T i) (hi : s.size ≤ i) : oneName s T ↔ nameB (bl s) = true := by
 rcases h with ⟨rfl, h0⟩ | ⟨h1, h2, _⟩ | ⟨_, h2, h3⟩
 ·constructor
  ·rintro ⟨t, e, _⟩; simp at e
  ·intro hb
   exfalso
   obtain ⟨c1, c2, c3⟩ := (name_iff _).1 hb
   obtain rfl := h0 (by rw [c1]; decide) (by rw [c1]; decide)
   have : bl s = [] := List.length_eq_zero_iff.1 (by rw [bl_length]; omega)
   rw [this] at c1
   revert c1; decide
 ·exact ⟨fun _ => h2, fun _ => h1⟩
 ·exact ⟨fun h => absurd h h2, fun h => by rw [h3] at h; exact absurd h (by decide)⟩
theorem lex_gap {s : ByteArray} {T : List Tok} {i g : Nat} (h : LexInv s T i) (hT : T ≠ []) (hg : i ≤ g) (hgs : g ≤ s.size) : LexInv s T g := by
 rcases h with ⟨h1, _⟩ | ⟨h1, h2, h3⟩ | h
 ·exact absurd h1 hT
 ·exact .inr (.inl ⟨h1, h2, by omega⟩)
 ·exact .inr (.inr h)

end Go.Proofs.YthachfkcgdfdfaaGreatDoor

/- Walk: lexer.Lex, as far as names need it. -/
namespace Go.Proofs.YthachfkcgdfdfaaGreatDoor
open Go.RowKit Classical

theorem fold_set_aux (d : Nat) : ∀ (l : List Value) (k : Nat) (Z : Array Value), ((l.zipIdx k).foldl (fun cs x => cs.setIfInBounds (d + x.2) x.1) Z).size = Z.size ∧
  ∀ j : Nat, (d + k + l.length ≤ Z.size) → ((l.zipIdx k).foldl (fun cs x => cs.setIfInBounds (d + x.2) x.1) Z)[j]? = if d + k ≤ j ∧ j < d + k + l.length then l[j - (d + k)]? else Z[j]?
 | [], k, Z => ⟨rfl, fun j _ => by rw [if_neg (by simp)]; rfl⟩
 | a :: l, k, Z => by
  obtain ⟨h1, h2⟩ := fold_set_aux d l (k + 1) (Z.setIfInBounds (d + k) a)
  refine ⟨by rw [List.zipIdx_cons, List.foldl_cons, h1]; simp, fun j hj => ?_⟩
  rw [List.zipIdx_cons, List.foldl_cons, h2 j (by simp at hj ⊢; omega)]
  simp only [List.length_cons] at hj ⊢
  by_cases e1 : j = d + k
  ·subst e1
   rw [if_neg (by omega), if_pos (by omega)]
   have : d + k < Z.size := by omega
   simp [this]
  ·by_cases e2 : d + (k + 1) ≤ j ∧ j < d + (k + 1) + l.length
   ·rw [if_pos e2, if_pos (by omega)]
    rw [show j - (d + k) = (j - (d + (k + 1))) + 1 from by omega, List.getElem?_cons_succ]
   ·rw [if_neg e2, if_neg (by omega)]
    simp [Array.getElem?_setIfInBounds]
    intro h; omega
theorem fold_set (C Z : Array Value) (hC : C.size = 256) (hZ : Z.size = 257) (F : Array Value) (hF : Array.foldl (fun cs (x : Value × Nat) => cs.setIfInBounds (1 + x.snd) x.fst) Z C.zipIdx 0 256 = F) :
  F.size = 257 ∧ F[0]? = Z[0]? ∧ ∀ c, c < 256 → F[1 + c]? = C[c]? := by
 have hl : F = (C.toList.zipIdx 0).foldl (fun cs (x : Value × Nat) => cs.setIfInBounds (1 + x.snd) x.fst) Z := by
  rw [← hF, show (256 : Nat) = C.zipIdx.size from by simp [hC], ← Array.foldl_toList, Array.toList_zipIdx]
 obtain ⟨h1, h2⟩ := fold_set_aux 1 C.toList 0 Z
 rw [← hl] at h1 h2
 have h3 : C.toList.length = 256 := by simpa using hC
 refine ⟨by rw [h1, hZ], ?_, fun c hc => ?_⟩
 ·rw [h2 0 (by omega), if_neg (by omega)]
 ·rw [h2 (1 + c) (by omega), if_pos (by omega)]
  simp

/-- What Lex returns, as far as names need it. -/
def LexPost (s : ByteArray) (w : World) (e : Ending) (w' : World) : Prop :=
 ∃ va c err off T, e = .returned (.tuple #[.slice va T.length c, .int .i64 err, .int .i64 off]) ∧ T.length ≤ 5000 ∧ RowAt w' w'.heap.size va (flatT T) ∧
  (nameB (bl s) = true ↔ err = 0 ∧ oneName s T) ∧ Below w.heap.size w w'

theorem info_tok : (Tryz.prog.info? 135).map (fun i => (i.zero, i.size, i.bytes)) = some (some (.agg #[.int .i64 0, .int .i64 0, .int .i64 0, .string ⟨#[]⟩]), 4, 40) := by kernel_rfl
set_option maxRecDepth 100000 in
set_option maxHeartbeats 2000000 in
theorem Lex_any (s : ByteArray) (hs : s.size ≤ maxLen) (w : World) :
  Calls Tryz.prog 81 #[.string s] w (LexPost s w) := by
 unfold maxLen at hs
 go_enter Tryz.func81, Tryz.ntmps81
 by_cases hl : s.size ≤ 20000
 ·have d1 : decide ((20000 : Int) < (s.size : Int)) = false := by simp; omega
  go_wp2_with fail
  refine (classes_any w).mono ?_
  rintro e w1 ⟨rfl, hb1⟩
  generalize hC : cellsI clsL = C
  have hCs : C.size = 256 := by rw [← hC]; rfl
  have hF := fold_set C (Tryz.zeroCells197.setIfInBounds 0 (.string s)) hCs (by simp) _ rfl
  have hFs := hF.1
  have HF := Lib.hid hF.2
  have HC := Lib.hid hC
  clear hC hF
  go_wp2_with fail
  generalize hF0 : Array.foldl (fun cs (x : Value × Nat) => cs.setIfInBounds (1 + x.snd) x.fst) (Tryz.zeroCells197.setIfInBounds 0 (.string s)) C.zipIdx 0 256 = F at *
  clear hF0
  have hrow : (w1.alloc (Obj.cells Tryz.zeroCells197 197)).heap[w1.heap.size]? = some (.cells Tryz.zeroCells197 197 (0, 0)) := heap_alloc_new w1 _
  have hzs : Tryz.zeroCells197.size = 257 := by kernel_rfl
  have hF0 : F[0]? = some (.string s) := by rw [HF.out.1]; simp [hzs]
  have hFc : ∀ c, c < 256 → F[1 + c]? = some (.int .i64 (classOf c)) := fun c hc => by
   rw [HF.out.2 c hc, ← HC.out, cellsI_get clsL c (by simp [clsL]; omega)]
   simp [clsL]
  have hone : ∀ v ∈ F.toList, v.oneCell' = true := fun v hv => by
   obtain ⟨j, hj⟩ := List.getElem?_of_mem hv
   rw [Array.getElem?_toList] at hj
   have hjl : j < 257 := by have := (Array.getElem?_eq_some_iff.1 hj).1; omega
   cases j with
   | zero => rw [hF0] at hj; cases hj; rfl
   | succ c => rw [Nat.add_comm, hFc c (by omega)] at hj; cases hj; rfl
  have hst := run_storeCells_from (P := Tryz.prog) w1.heap.size 197 F.toList 0 Tryz.zeroCells197 (w1.alloc (Obj.cells Tryz.zeroCells197 197)) hrow (by rw [hzs]; simp [hFs]) hone
  rw [hst]
  simp only [Result.andThen_ok]
  rw [Oper.upon_skip]
  have hB2 : Below w.heap.size w ((w1.alloc (Obj.cells Tryz.zeroCells197 197)).setRow w1.heap.size (Tryz.zeroCells197.toList.take 0 ++ F.toList).toArray) := below_setRow (hb1.alloc hb1.size _) hb1.size _
  have hR2 : Blk ((w1.alloc (Obj.cells Tryz.zeroCells197 197)).setRow w1.heap.size (Tryz.zeroCells197.toList.take 0 ++ F.toList).toArray) w1.heap.size F 197 := by
   have := setRow_heap _ w1.heap.size Tryz.zeroCells197 (Tryz.zeroCells197.toList.take 0 ++ F.toList).toArray 197 _ hrow
   have e : (Tryz.zeroCells197.toList.take 0 ++ F.toList).toArray = F := by simp
   rw [e] at this ⊢
   exact this
  generalize (w1.alloc (Obj.cells Tryz.zeroCells197 197)).setRow w1.heap.size (Tryz.zeroCells197.toList.take 0 ++ F.toList).toArray = W1 at hB2 hR2 ⊢
  have hsc : ScanAt W1 w1.heap.size s := ⟨(hR2.cell 0).trans hF0, fun c hc => (hR2.cell (1 + c)).trans (hFc c hc)⟩
  have hlt1 := hR2.lt
  have hge1 := hb1.size
  obtain ⟨sb, hsb⟩ : ∃ sb, w1.heap.size = sb := ⟨_, rfl⟩
  rw [hsb] at hsc hlt1 hge1 ⊢
  clear hst hrow hone hFc hF0 HF HC hFs hzs hCs hR2 hsb hb1
  have hsm : s.size ≤ maxLen := by unfold maxLen; omega
  go_wp2_with fail
  refine (gap_any sb s 0 (Nat.zero_le _) hsm W1 hsc hlt1).mono ?_
  rintro e w2 ⟨⟨g0, rfl, _, hg0, hg0'⟩, hb2⟩
  have hI0 : LexInv s [] g0 := .inl ⟨rfl, hg0'⟩
  have HI0 := Lib.hid hI0
  clear hI0 hg0'
  obtain ⟨i0, hi, hz0, hz1, hz2⟩ := info_parts info_tok
  go_wp2_with fail
  go_loopw [6, 7] (fun out i wr => ∃ (T : List Tok) (k : Nat), i = .int .i64 k ∧ k ≤ s.size ∧ T.length ≤ 5000 ∧ wr.ownsRow W1.heap.size 135 4 out T.length (flatT T) ∧ LexInv s T k ∧ Below W1.heap.size W1 wr) (fun _ i _ => s.size - (intOf i).toNat)
  case atStart => exact ⟨[], g0, rfl, hg0, by simp, World.ownsRow_nil _ _ _ _, HI0.out, hb2⟩
  case round =>
   obtain ⟨T, k, rfl, hk, hT, hown, hinv, hbw⟩ := hrel
   have Hown := Lib.hid hown
   have Hinv := Lib.hid hinv
   clear hown hinv
   have hbwW := hB2.trans (hbw.mono hB2.size)
   have hszw := hbw.size
   by_cases hks : k < s.size
   ·go_wp2_with fail
    refine (next_any sb s k hks (by omega) wr (hsc.below hbw hlt1) (by omega)).mono ?_
    rintro e w3 ⟨⟨kind, at_, n, text, en, err, rfl, hP⟩, hb3⟩
    have hbw3 := hbw.trans (hb3.mono hbw.size)
    have HP := Lib.hid hP
    have hbwW3 := hB2.trans (hbw3.mono hB2.size)
    clear hP
    unfold tokCells
    by_cases he : err = 0
    ·subst he
     by_cases hT5 : T.length = 5000
     ·have d5 : ((T.length : Int) == 5000) = true := by simp [hT5]
      obtain ⟨a, c, hav, hal, hra⟩ := RowAt.of_own Hown.out
      rw [hav]
      have Hno := Lib.hid (show nameB (bl s) = false by
       have h1 := lex_step (t := ⟨kind, at_, n, text⟩) Hinv.out hks HP.out
       rcases h1 with ⟨h2, _⟩ | ⟨⟨t, h2, _⟩, _⟩ | ⟨_, _, h3⟩
       ·simp at h2
       ·have := congrArg List.length h2
        simp at this; simp [this] at hT5
       ·exact h3)
      have HT5 := Lib.hid hT5
      clear hT5
      go_wp2_with fail
      go_ret3
      refine ⟨none, 0, 2, _, [], rfl, by simp, fun h => by simp [flatT] at h, ?_, ?_⟩
      ·rw [Hno.out]; simp
      ·exact hbwW3.alloc hbwW3.size _
     ·have d5 : ((T.length : Int) == 5000) = false := by simp; omega
      obtain ⟨a, c, hav, hal, hra⟩ := RowAt.of_own Hown.out
      subst hav
      have hT4 : T.length < 5000 := by omega
      clear hT5
      have hown3 := (own_below Hown.out hb3).alloc (.cells #[.int .i64 kind, .int .i64 at_, .int .i64 n, .string text] 135)
      have hs3 := hbw3.size
      have hs33 := hbwW3.size
      go_wp2_with (at_builtin; refine wpList_append_own _ rfl _ _ 131 rfl W1.heap.size 135 i0 _ 4 40 Tryz.underlying131 hi hz0 hz1 hz2 rfl (by decide) _ _ _ rfl (hown3.alloc _) ⟨w3.heap.size + 1, 0, none⟩ 1 1 [.int .i64 kind, .int .i64 at_, .int .i64 n, .string text] rfl rfl ?c1 ?c2 ?c3 ?c4 ?c5 ?_)
      case c1 =>
       have := cells_new (w3.alloc (.cells #[.int .i64 kind, .int .i64 at_, .int .i64 n, .string text] 135)) [.int .i64 kind, .int .i64 at_, .int .i64 n, .string text] 135
       simpa using this
      case c2 => simp [Value.oneCell']
      case c3 => unfold maxLen; omega
      case c4 => omega
      case c5 => simp; omega
      intro v' w4 hown4 hgrow4 _
      obtain ⟨g, cap, rfl⟩ := own_succ hown4
      have hb4 : Below W1.heap.size W1 w4 := ((hbw3.alloc hs3 _).alloc (by simp; omega) _).grown hgrow4 (by simp; omega) (fun k hk => (hown3.lt k hk).1)
      clear hgrow4 hown3 hra hal d5
      have hP := HP.out
      have hle : en ≤ s.size := (hP.1 rfl).2.1
      have hken : k < en := (hP.1 rfl).1
      clear hP
      have hscw4 := hsc.below hb4 hlt1
      go_wp2_with fail
      refine (gap_any sb s en hle hsm w4 hscw4 (by have := hb4.size; omega)).mono ?_
      rintro e w5 ⟨⟨g5, rfl, hg5, hg5', _⟩, hb5⟩
      go_wp2_with fail
      refine ⟨⟨T ++ [⟨kind, at_, n, text⟩], g5, rfl, hg5', ?_, ?_, ?_, hb4.trans (hb5.mono hb4.size)⟩, ?_⟩
      ·simp; omega
      ·rw [flatT_snoc]
       have := own_below hown4 hb5
       simpa [Tok.cells, tokCells] using this
      ·exact lex_gap (lex_step (t := ⟨kind, at_, n, text⟩) Hinv.out hks HP.out) (by simp) hg5 hg5'
      ·simp [intOf]; omega
    ·have e1 : (err == 0) = false := by simpa using he
     have e2 : (err != 0) = true := by simpa using he
     have He := Lib.hid he
     clear he
     go_wp2_with fail
     go_ret3
     refine ⟨none, 0, err, _, [], rfl, by simp, fun h => by simp [flatT] at h, ?_, ?_⟩
     ·rw [lex_err Hinv.out hks HP.out He.out]; simp [He.out]
     ·exact hbwW3.alloc hbwW3.size _
   ·have hinv := Lib.hid (lex_end Hinv.out (by omega))
    obtain ⟨a, c, hav, hal, hra⟩ := RowAt.of_own Hown.out
    subst hav
    have Hra := Lib.hid hra
    clear hra hal
    go_wp2_with fail
    go_ret3
    exact ⟨a, c, 0, 0, T, rfl, hT, Hra.out, by rw [← hinv.out]; simp, hbwW⟩
 ·have d1 : decide ((20000 : Int) < (s.size : Int)) = true := by simp; omega
  go_wp2_with fail
  go_ret3
  refine ⟨none, 0, 2, -1, [], rfl, by simp, fun h => by simp [flatT] at h, ?_, Below.refl _ _⟩
  constructor
  ·intro hb
   have := ((name_iff _).1 hb).2.2
   rw [bl_length] at this; omega
  ·rintro ⟨h, _⟩; exact absurd h (by decide)

end Go.Proofs.YthachfkcgdfdfaaGreatDoor
