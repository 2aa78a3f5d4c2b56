/- Proved: the tied card of WordsMore: at every argument the law gazetteerlaw17.WordsMore returns true and does not panic. No condition is added. -/
import Derived.Test.YthachfkcgdfdfaaGreatDoorS21
import Derived.Test.YthachfkcgdfdfaaGreatDoorQ20a
import Derived.Test.YthachfkcgdfdfaaGreatDoorQF20
namespace Go.Proofs.YthachfkcgdfdfaaGreatDoor
open Go.ChangeShapes Go.WideShapes Go.ChangeAt Go.RowKit Go.Joins Go.Deep
set_option maxRecDepth 100000

theorem said20 : Rows.WordsMoreSaid :=
 OpenClaim.holds_of_cond 7 Tryz.f7 rfl rfl rfl rfl rfl rfl rfl ⟨rfl, rfl, rfl, rfl, rfl⟩ rfl rfl rfl rfl rfl (by kernel_rfl) Tryz.func7 facts20
  (of_decide_eq_true (by kernel_rfl)) (by unfold Func.isWrapper; first | (rw [if_pos (by decide +kernel)]; kernel_rfl) | (rw [if_neg (by decide +kernel)]; exact ⟨rfl, rfl⟩))
  (fun os started H enc _ F => by rw [OpenClaim.pre_eq_preRow]; exact lifted20 os started H enc F)

theorem plain20 (f : FuncId) (fn : Func) (hf : Tryz.pinned.checked.prog.funcNamed "gazetteer/gazetteerlaw17.WordsMore" = some f) (hfn : Tryz.pinned.checked.prog.funcs[f]? = some fn) :
  true = Tryz.pinned.checked.prog.looks [] ∧ ∀ (j : Nat) t, fn.params[j]? = some t → Tryz.pinned.checked.prog.wantsStandIn t = false := by
 obtain rfl : f = 7 := Option.some.inj ((show Tryz.prog.funcNamed "gazetteer/gazetteerlaw17.WordsMore" = some 7 by kernel_rfl).symm.trans hf) |>.symm
 obtain rfl : fn = Tryz.f7 := (Option.some.inj (Tryz.func7.symm.trans hfn)).symm
 refine ⟨by kernel_rfl, fun j t ht => ?_⟩
 rw [Tryz.params7] at ht
 have : t = 28 ∨ t = 29 ∨ t = 54 := by simpa using Array.mem_of_getElem? ht
 rcases this with rfl | rfl | rfl
 ·exact (show Tryz.prog.wantsStandIn 28 = false by kernel_rfl)
 ·exact (show Tryz.prog.wantsStandIn 29 = false by kernel_rfl)
 ·exact (show Tryz.prog.wantsStandIn 54 = false by kernel_rfl)

/-- The card. -/
theorem wordsMore_card : Rows.WordsMoreCardSaid :=
 Claim7.holds_tied_plain_at .later [] _ _ _ _ said20 (fun _ h => by cases h) (by kernel_rfl) (fun _ h => by cases h) wordsMore_row_tie rfl ⟨rfl, rfl⟩ (by kernel_rfl) rfl plain20 (by kernel_rfl)
#print axioms wordsMore_card
end Go.Proofs.YthachfkcgdfdfaaGreatDoor
