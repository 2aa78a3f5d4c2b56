/- Walks: the order of arcs that compile sorts by (cmp.Or, Compile's function value). -/
import Derived.Test.YtielbaaaipkbdaaGreatDoorC1
import Derived.Test.YtielbaaaipkbdaaGreatDoorGX
import Derived.Sort.Statements
namespace Go.Proofs.YtielbaaaipkbdaaGreatDoor
open Go.RowKit Classical

/-- The order of two arcs as a number. -/
def cmpA (a b : Arc) : Int := orI [Lib.compareInt a.frm b.frm, Lib.compareInt a.inp b.inp, Lib.compareInt a.out b.out, Lib.compareInt a.to b.to]
theorem cmpI_cases (x y : Int) : (x < y ∧ Lib.compareInt x y = -1) ∨ (x = y ∧ Lib.compareInt x y = 0) ∨ (y < x ∧ Lib.compareInt x y = 1) := by
  unfold Lib.compareInt
  by_cases h1 : x < y
  · simp [h1]
  · by_cases h2 : y < x
    · simp [h1, h2]
    · right; left; simp [h1, h2]; omega
theorem cmpA_lt (a b : Arc) : cmpA a b < 0 ↔ a.lt b := by
  unfold cmpA Arc.lt orI orI orI orI orI
  rcases cmpI_cases a.frm b.frm with ⟨h1, e1⟩ | ⟨h1, e1⟩ | ⟨h1, e1⟩ <;> rw [e1]
  · simp; omega
  · rcases cmpI_cases a.inp b.inp with ⟨h2, e2⟩ | ⟨h2, e2⟩ | ⟨h2, e2⟩ <;> rw [e2]
    · simp; omega
    · rcases cmpI_cases a.out b.out with ⟨h3, e3⟩ | ⟨h3, e3⟩ | ⟨h3, e3⟩ <;> rw [e3]
      · simp; omega
      · rcases cmpI_cases a.to b.to with ⟨h4, e4⟩ | ⟨h4, e4⟩ | ⟨h4, e4⟩ <;> rw [e4] <;> simp <;> omega
      · simp; omega
    · simp; omega
  · simp; omega

set_option maxRecDepth 100000 in
set_option maxHeartbeats 2000000 in
theorem less_any (a b : Arc) (w : World) :
    Calls Tryz.prog 32 #[.agg #[.int .i64 a.frm, .int .i64 a.inp, .int .i64 a.out, .int .i64 a.to], .agg #[.int .i64 b.frm, .int .i64 b.inp, .int .i64 b.out, .int .i64 b.to]] w
      fun e w' => e = .returned (.int .i64 (cmpA a b)) ∧ ∃ o1 o2 o3, w' = (((w.alloc o1).alloc o2).drewN 1).alloc o3 := by
  obtain ⟨W1, hW1⟩ : ∃ W1 : World, W1 = (w.alloc (.cells #[.int .i64 a.frm, .int .i64 a.inp, .int .i64 a.out, .int .i64 a.to] 58)).alloc (.cells #[.int .i64 b.frm, .int .i64 b.inp, .int .i64 b.out, .int .i64 b.to] 58) := ⟨_, rfl⟩
  have ha : Blk W1 w.heap.size #[.int .i64 a.frm, .int .i64 a.inp, .int .i64 a.out, .int .i64 a.to] 58 := by rw [hW1]; exact (Blk.new _ _ _).alloc _
  have hb : Blk W1 (w.heap.size + 1) #[.int .i64 b.frm, .int .i64 b.inp, .int .i64 b.out, .int .i64 b.to] 58 := by
    rw [hW1]; have := Blk.new (w.alloc (.cells #[.int .i64 a.frm, .int .i64 a.inp, .int .i64 a.out, .int .i64 a.to] 58)) #[.int .i64 b.frm, .int .i64 b.inp, .int .i64 b.out, .int .i64 b.to] 58; simpa using this
  have a0 := ha.cell 0
  have a1 := ha.cell 1
  have a2 := ha.cell 2
  have a3 := ha.cell 3
  have b0 := hb.cell 0
  have b1 := hb.cell 1
  have b2 := hb.cell 2
  have b3 := hb.cell 3
  simp only [List.getElem?_toArray, List.getElem?_cons_zero, List.getElem?_cons_succ] at a0 a1 a2 a3 b0 b1 b2 b3
  have HW1 := Lib.hid hW1
  clear hW1 ha hb
  go_enter Tryz.func32, Tryz.ntmps32
  go_wp2_with fail
  rw [← HW1.out]
  refine wp_region_still_tail 20 (by kernel_rfl) (by kernel_rfl) ?_
  simp only [List.take_succ_cons, List.take_zero, List.drop_succ_cons, List.drop_zero]
  repeat (first | still_step | still_call (Tryz.cmp_Compare_int _ _ _))
  refine wpStill_nil ?_
  change wpList _ _ _ _ _ W1.drew
  obtain ⟨c1, h1⟩ : ∃ z, Lib.compareInt a.frm b.frm = z := ⟨_, rfl⟩
  obtain ⟨c2, h2⟩ : ∃ z, Lib.compareInt a.inp b.inp = z := ⟨_, rfl⟩
  obtain ⟨c3, h3⟩ : ∃ z, Lib.compareInt a.out b.out = z := ⟨_, rfl⟩
  obtain ⟨c4, h4⟩ : ∃ z, Lib.compareInt a.to b.to = z := ⟨_, rfl⟩
  rw [h1, h2, h3, h4]
  have Hc := Lib.hid (show cmpA a b = orI [c1, c2, c3, c4] from by rw [cmpA, h1, h2, h3, h4])
  clear h1 h2 h3 h4 a0 a1 a2 a3 b0 b1 b2 b3
  have hrow : RowAt (W1.drew.alloc (.cells (nums [c1, c2, c3, c4]).toArray 3)) (W1.drew.heap.size + 1) (some ⟨W1.drew.heap.size, 0, none⟩) (nums [c1, c2, c3, c4]) := fun _ =>
    ⟨_, 0, rfl, by omega, fun i x hx => by rw [Nat.zero_add]; exact Box.new W1.drew (nums [c1, c2, c3, c4]) 3 i x hx⟩
  have qo := Or_any [c1, c2, c3, c4] _ 4 _ (by simp [maxLen]) _ hrow
  have HQ := Lib.hid qo
  clear qo hrow
  go_wp2_with fail
  refine HQ.out.mono ?_
  rintro e w2 ⟨rfl, hw2⟩
  have Hw2 := Lib.hid hw2
  clear hw2
  go_wp2_with fail
  go_ret
  exact ⟨ret_int Hc.out.symm, _, _, _, by rw [Hw2.out, HW1.out]; rfl⟩

end Go.Proofs.YtielbaaaipkbdaaGreatDoor
