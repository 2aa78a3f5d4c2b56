/- Walks: the lexer's gap. -/
import Derived.Test.YtielbaaaipkbdaaGreatDoorL3
import Derived.Test.YtielbaaaipkbdaaGreatDoorGL
import Derived.Lib.IndexLaws
namespace Go.Proofs.YtielbaaaipkbdaaGreatDoor
open Go.RowKit Classical

theorem whileF_ge (l : List UInt8) (cls : List Int) (i : Nat) : i ≤ whileF l cls i := by unfold whileF; omega
theorem whileF_le (l : List UInt8) (cls : List Int) (i : Nat) (h : i ≤ l.length) : whileF l cls i ≤ l.length := by
  have := (List.takeWhile_sublist (l := l.drop i) fun c => cls.contains (classOf c.toNat)).length_le
  rw [List.length_drop] at this
  unfold whileF; omega
theorem whileF_blank {l : List UInt8} {i : Nat} (hi : i ≤ l.length) (h : classAt l i ≠ 1) : whileF l [1] i = i := by
  by_cases hl : i < l.length
  · refine whileF_stop (c := l[i]) (List.getElem?_eq_getElem hl) ?_
    rw [classAt, List.getElem?_eq_getElem hl] at h
    simpa using h
  · exact whileF_end (by omega)

set_option maxRecDepth 100000 in
set_option maxHeartbeats 1000000 in
theorem gap_any (b : Nat) (s : ByteArray) (i : Nat) (hi : i ≤ s.size) (hs : s.size ≤ maxLen) (w : World) (h : ScanAt w b s) (hb : b < w.heap.size) :
    Calls Tryz.prog 132 #[.pointer (some ⟨b, 0, none⟩), .int .i64 i] w fun e w' =>
      (∃ g : Nat, e = .returned (.int .i64 g) ∧ i ≤ g ∧ g ≤ s.size ∧ (classAt (bl s) i ≠ 1 → classAt (bl s) i ≠ 2 → g = i)) ∧ Below w.heap.size w w' := by
  have hs2 := hs
  unfold maxLen at hs2
  have hone : ∀ w1 : World, RowAt (w1.alloc (.cells #[.int .i64 1] 3)) (w1.heap.size + 1) (some ⟨w1.heap.size, 0, none⟩) (nums [1]) := fun w1 _ =>
    ⟨_, 0, rfl, by omega, fun i x hx => by rw [Nat.zero_add]; exact Box.new w1 [.int .i64 1] 3 i x hx⟩
  have hW : ∀ (k : Nat) (w1 : World), k ≤ s.size → Below w.heap.size w w1 →
      Calls Tryz.prog 142 #[.pointer (some ⟨b, 0, none⟩), .int .i64 k, .slice (some ⟨w1.heap.size, 0, none⟩) 1 1] (w1.alloc (.cells #[.int .i64 1] 3)) fun e w' => e = .returned (.int .i64 (whileF (bl s) [1] k)) ∧ Below w.heap.size w w' :=
    fun k w1 hk hb1 => (while_any b s k [1] _ 1 (by decide) hk hs _ ((h.below hb1 hb).below ((Below.refl _ _).alloc (Nat.le_refl _) _) (Nat.lt_of_lt_of_le hb hb1.size)) _ (hone w1)).mono fun e w' ⟨he, q, hq⟩ => ⟨he, by rw [hq]; exact below_drewN' (hb1.alloc hb1.size _) q⟩
  go_enter Tryz.func132, Tryz.ntmps132
  go_wp2_with (go_at_call 142; refine (hW i w hi (Below.refl _ _)).mono ?_; rintro e w1 ⟨rfl, hb1⟩)
  go_loopw [1] (fun c1 wr => ∃ k : Nat, i ≤ k ∧ k ≤ s.size ∧ c1 = .int .i64 k ∧ (classAt (bl s) i ≠ 1 → classAt (bl s) i ≠ 2 → k = i) ∧ Below w.heap.size w wr) (fun c1 _ => s.size - (intOf c1).toNat)
  case atStart => exact ⟨whileF (bl s) [1] i, whileF_ge _ _ _, by have := whileF_le (bl s) [1] i (by rw [bl_length]; exact hi); rwa [bl_length] at this, rfl, fun h1 _ => whileF_blank (by rw [bl_length]; exact hi) h1, hb1⟩
  case round =>
    obtain ⟨k, hik, hks, rfl, hcl, hbr⟩ := hrel
    have Hcl := Lib.hid hcl
    have hsc := h.below hbr hb
    have ht := hsc.text
    clear hcl
    by_cases hc2 : classAt (bl s) k = 2
    · have d1 : (classAt (bl s) k == 2) = true := by simpa using hc2
      rcases Lib.indexByte_piece s k s.size 10 with hn | ⟨o, ho, hko⟩
      · have cI : ∀ w1 : World, Calls Tryz.prog 144 #[.string (s.extract k s.size), .int .u8 10] w1 fun e w' => e = .returned (.int .i64 (-1)) ∧ w' = w1 := fun w1 => (Tryz.strings_IndexByte (s.extract k s.size) 10 w1).mono fun e w' h => ⟨h.1.trans (by rw [show Lib.indexByte (s.extract k s.size).data.toList (10 : Int).toNat.toUInt8 = -1 from hn]), h.2⟩
        have Hc2 := Lib.hid hc2
        clear hn hc2
        go_wp2_with (first
          | (go_at_call 143; refine (at_any b s k hs _ hsc).mono ?_; rintro e w1 ⟨rfl, q1, rfl⟩)
          | (go_at_call 144; refine (cI _).mono ?_; rintro e w1 ⟨rfl, rfl⟩))
        go_ret
        refine ⟨⟨s.size, rfl, hi, Nat.le_refl _, fun h1 h2 => ?_⟩, below_drewN' hbr _⟩
        have := Hcl.out h1 h2
        subst this
        exact absurd Hc2.out h2
      · have cI : ∀ w1 : World, Calls Tryz.prog 144 #[.string (s.extract k s.size), .int .u8 10] w1 fun e w' => e = .returned (.int .i64 (o : Int)) ∧ w' = w1 := fun w1 => (Tryz.strings_IndexByte (s.extract k s.size) 10 w1).mono fun e w' h => ⟨h.1.trans (by rw [show Lib.indexByte (s.extract k s.size).data.toList (10 : Int).toNat.toUInt8 = o from ho]), h.2⟩
        have ho1 : 0 < o := by
          rcases Nat.eq_zero_or_pos o with rfl | h0
          · exfalso
            have h1 := (Lib.indexByte_some ho).1
            have h2 : (bl s)[k]? = some 10 := by
              rw [Lib.extract_data, List.getElem?_take] at h1
              split at h1
              · simpa [bl] using h1
              · simp at h1
            rw [classAt, h2] at hc2
            revert hc2
            decide
          · exact h0
        have Hc2 := Lib.hid hc2
        have Ho := Lib.hid ho
        clear ho hc2
        go_wp2_with (first
          | (go_at_call 143; refine (at_any b s k hs _ hsc).mono ?_; rintro e w1 ⟨rfl, q1, rfl⟩)
          | (go_at_call 144; refine (cI _).mono ?_; rintro e w1 ⟨rfl, rfl⟩)
          | (go_at_call 142; refine (hW (k + o) _ (by omega) (below_drewN' hbr _)).mono ?_; rintro e w1 ⟨rfl, hb2⟩))
        have hg := whileF_ge (bl s) [1] (k + o)
        have hl := whileF_le (bl s) [1] (k + o) (by rw [bl_length]; omega)
        rw [bl_length] at hl
        refine ⟨⟨whileF (bl s) [1] (k + o), by omega, hl, rfl, fun h1 h2 => ?_, hb2⟩, by simp [intOf]; omega⟩
        have := Hcl.out h1 h2
        subst this
        exact absurd Hc2.out h2
    · have d1 : (classAt (bl s) k == 2) = false := by simpa using hc2
      clear hc2
      go_wp2_with (first
          | (go_at_call 143; refine (at_any b s k hs _ hsc).mono ?_; rintro e w1 ⟨rfl, q1, rfl⟩))
      go_ret
      exact ⟨⟨k, rfl, hik, hks, Hcl.out⟩, below_drewN' hbr _⟩
end Go.Proofs.YtielbaaaipkbdaaGreatDoor
