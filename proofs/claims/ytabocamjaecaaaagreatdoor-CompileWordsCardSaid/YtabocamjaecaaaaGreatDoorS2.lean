/- Walks: cmp.Compare at texts, machine.shorter, slices.Backward at arcs, machine.Least. -/
import Derived.Test.YtabocamjaecaaaaGreatDoorS1
import Derived.Test.YtabocamjaecaaaaGreatDoorGX
import Derived.Test.YtabocamjaecaaaaGreatDoorGK
import Derived.Test.YtabocamjaecaaaaGreatDoorGE
import Derived.Sort.Walk0
namespace Go.Proofs.YtabocamjaecaaaaGreatDoor
open Go.RowKit Go.Sort Classical

def cmpS (a b : ByteArray) : Int := if Op.bytesLess a.toList b.toList = true then -1 else if (a.toList == b.toList) = true then 0 else 1
theorem bless {a b : ByteArray} : Op.bytesLess a.toList b.toList = true ↔ bl a < bl b := by
 rw [bytesLess_eq, decide_eq_true_eq, ByteArray.toList_eq, ByteArray.toList_eq]
 rfl
theorem cmpS_lt {a b : ByteArray} : cmpS a b < 0 ↔ bl a < bl b := by
 unfold cmpS
 by_cases h : Op.bytesLess a.toList b.toList = true
 ·rw [if_pos h]
  exact ⟨fun _ => bless.1 h, fun _ => by omega⟩
 ·rw [if_neg h]
  refine ⟨fun e => ?_, fun e => absurd (bless.2 e) h⟩
  split at e <;> omega
theorem cmpS_eq {a b : ByteArray} : cmpS a b = 0 ↔ a = b := by
 unfold cmpS
 split
 ·rename_i h
  have h := bless.1 h
  refine ⟨fun e => by simp at e, fun e => ?_⟩
  subst e
  exact absurd h (List.lt_irrefl _)
 ·split
  ·rename_i h
   rw [beq_iff_eq, ByteArray.toList_eq, ByteArray.toList_eq] at h
   exact ⟨fun _ => bl_inj h, fun _ => rfl⟩
  ·rename_i h
   refine ⟨fun e => by simp at e, fun e => ?_⟩
   subst e
   simp at h
theorem cmpS_small (a b : ByteArray) : -1 ≤ cmpS a b ∧ cmpS a b ≤ 1 := by
 unfold cmpS
 split
 ·omega
 ·split <;> omega
theorem isNaNs_any (s : ByteArray) (w : World) : Calls Tryz.prog 81 #[.string s] w fun e w' => e = .returned (.bool false) ∧ w' = w := by
 go_enter Tryz.func81, Tryz.ntmps81
 go_wp2
 go_ret
 exact ⟨by simp, rfl⟩
set_option maxRecDepth 100000 in
set_option maxHeartbeats 1000000 in
theorem cmpS_any (a b : ByteArray) (w : World) : Calls Tryz.prog 56 #[.string a, .string b] w fun e w' => e = .returned (.int .i64 (cmpS a b)) ∧ w' = w := by
 go_enter Tryz.func56, Tryz.ntmps56
 have hn := fun s w => isNaNs_any s w
 go_wp2_with fail
 refine (hn _ _).mono ?_
 rintro e w' ⟨rfl, hw⟩
 subst hw
 go_wp2_with fail
 refine (hn _ _).mono ?_
 rintro e w' ⟨rfl, hw⟩
 subst hw
 go_wp2_with fail
 all_goals go_ret
 all_goals refine ⟨?_, rfl⟩
 all_goals unfold cmpS
 all_goals simp_all
/-- The order of two texts, compared by length. -/
def shortS (a b : ByteArray) : Int := orI [(a.size : Int) - b.size, cmpS a b]
theorem shortS_lt {a b : ByteArray} : shortS a b < 0 ↔ Short (bl a) (bl b) := by
 unfold shortS Short
 rw [bl_length, bl_length, ← cmpS_lt]
 simp only [orI]
 split
 ·split <;> omega
 ·omega
theorem shortS_eq {a b : ByteArray} : shortS a b = 0 ↔ a = b := by
 unfold shortS
 simp only [orI]
 constructor
 ·intro h
  by_cases e : (a.size : Int) - b.size = 0
  ·rw [if_pos e] at h
   by_cases e2 : cmpS a b = 0
   ·exact cmpS_eq.1 e2
   ·rw [if_neg e2] at h; exact absurd h e2
  ·rw [if_neg e] at h; exact absurd h e
 ·rintro rfl
  simp [cmpS_eq.2]
set_option maxRecDepth 100000 in
set_option maxHeartbeats 1000000 in
theorem shorter_any (a b : ByteArray) (ha : a.size ≤ maxLen) (hb : b.size ≤ maxLen) (w : World) : Calls Tryz.prog 32 #[.string a, .string b] w fun e w' => e = .returned (.int .i64 (shortS a b)) ∧ ∃ o, w' = w.alloc o := by
 unfold maxLen at ha hb
 have e1 : IntKind.i64.wrap ((a.size : Int) - b.size) = (a.size : Int) - b.size := IntWalk.i64_in _ (by omega)
 have hn := cmpS_any a b w
 go_enter Tryz.func32, Tryz.ntmps32
 go_wp2_with fail
 refine hn.mono ?_
 rintro e w' ⟨rfl, hw⟩
 subst hw
 have hrow : RowAt (w'.alloc (.cells (nums [(a.size : Int) - b.size, cmpS a b]).toArray 3)) (w'.heap.size + 1) (some ⟨w'.heap.size, 0, none⟩) (nums [(a.size : Int) - b.size, cmpS a b]) := fun _ =>
  ⟨_, 0, rfl, by omega, fun i x hx => by rw [Nat.zero_add]; exact Box.new w' (nums [(a.size : Int) - b.size, cmpS a b]) 3 i x hx⟩
 have HQ := Lib.hid (Or_any [(a.size : Int) - b.size, cmpS a b] _ 2 _ (by simp [maxLen]) _ hrow)
 clear hrow hn
 go_wp2_with fail
 refine HQ.out.mono ?_
 rintro e w2 ⟨rfl, hw2⟩
 have Hw2 := Lib.hid hw2
 clear hw2
 go_wp2
 go_ret
 exact ⟨rfl, _, Hw2.out⟩
end Go.Proofs.YtabocamjaecaaaaGreatDoor
