/- Proved: the tied card of WordsSplit: for every text and number of blanks the law gazetteerlaw17.WordsSplit returns true and does not panic. No condition is added. -/
import Derived.Test.YthachfkcgdfdfaaGreatDoorP02
import Derived.Test.YthachfkcgdfdfaaGreatDoorP32
namespace Go.Proofs.YthachfkcgdfdfaaGreatDoor
open Go.ChangeShapes Go.WideShapes Go.ChangeAt Go.RowKit Go.Joins Go.Deep
set_option maxRecDepth 100000

theorem said17 : Rows.WordsSplitSaid :=
 OpenClaim.holds_of_cond 4 Tryz.f4 rfl rfl rfl rfl rfl rfl rfl ⟨rfl, rfl, rfl, rfl, rfl⟩ rfl rfl rfl rfl rfl (by kernel_rfl) Tryz.func4 facts17
  (of_decide_eq_true (by kernel_rfl)) (by unfold Func.isWrapper; first | (rw [if_pos (by decide +kernel)]; kernel_rfl) | (rw [if_neg (by decide +kernel)]; exact ⟨rfl, rfl⟩))
  (fun os started H enc _ F => by rw [OpenClaim.pre_eq_preRow]; exact lifted17 os started H enc F)

theorem plain17 (f : FuncId) (fn : Func) (hf : Tryz.pinned.checked.prog.funcNamed "gazetteer/gazetteerlaw17.WordsSplit" = some f) (hfn : Tryz.pinned.checked.prog.funcs[f]? = some fn) :
  true = Tryz.pinned.checked.prog.looks [] ∧ ∀ (j : Nat) t, fn.params[j]? = some t → Tryz.pinned.checked.prog.wantsStandIn t = false := by
 obtain rfl : f = 4 := Option.some.inj ((show Tryz.prog.funcNamed "gazetteer/gazetteerlaw17.WordsSplit" = some 4 by kernel_rfl).symm.trans hf) |>.symm
 obtain rfl : fn = Tryz.f4 := (Option.some.inj (Tryz.func4.symm.trans hfn)).symm
 refine ⟨by kernel_rfl, fun j t ht => ?_⟩
 rw [Tryz.params4] at ht
 have : t = 9 ∨ t = 5 := by simpa using Array.mem_of_getElem? ht
 rcases this with rfl | rfl
 ·exact (show Tryz.prog.wantsStandIn 9 = false by kernel_rfl)
 ·exact (show Tryz.prog.wantsStandIn 5 = false by kernel_rfl)

/-- The card. -/
theorem wordsSplit_card : Rows.WordsSplitCardSaid :=
 Claim7.holds_tied_plain_at .later [] _ _ _ _ said17 (fun _ h => by cases h) (by kernel_rfl) (fun _ h => by cases h) wordsSplit_row_tie rfl ⟨rfl, rfl⟩ (by kernel_rfl) rfl plain17 (by kernel_rfl)
#print axioms wordsSplit_card
end Go.Proofs.YthachfkcgdfdfaaGreatDoor
