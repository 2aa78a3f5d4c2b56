/- Proved: the tied card of WordsJoin: at every argument the law gazetteerlaw17.WordsJoin returns true and does not panic. No condition is added. -/
import Derived.Test.YthachfkcgdfdfaaGreatDoorS21
import Derived.Test.YthachfkcgdfdfaaGreatDoorQ21a
import Derived.Test.YthachfkcgdfdfaaGreatDoorQF21
namespace Go.Proofs.YthachfkcgdfdfaaGreatDoor
open Go.ChangeShapes Go.WideShapes Go.ChangeAt Go.RowKit Go.Joins Go.Deep
set_option maxRecDepth 100000

theorem said21 : Rows.WordsJoinSaid :=
 OpenClaim.holds_of_cond 8 Tryz.f8 rfl rfl rfl rfl rfl rfl rfl ⟨rfl, rfl, rfl, rfl, rfl⟩ rfl rfl rfl rfl rfl (by kernel_rfl) Tryz.func8 facts21
  (of_decide_eq_true (by kernel_rfl)) (by unfold Func.isWrapper; first | (rw [if_pos (by decide +kernel)]; kernel_rfl) | (rw [if_neg (by decide +kernel)]; exact ⟨rfl, rfl⟩))
  (fun os started H enc _ F => by rw [OpenClaim.pre_eq_preRow]; exact lifted21 os started H enc F)

theorem plain21 (f : FuncId) (fn : Func) (hf : Tryz.pinned.checked.prog.funcNamed "gazetteer/gazetteerlaw17.WordsJoin" = some f) (hfn : Tryz.pinned.checked.prog.funcs[f]? = some fn) :
  true = Tryz.pinned.checked.prog.looks [] ∧ ∀ (j : Nat) t, fn.params[j]? = some t → Tryz.pinned.checked.prog.wantsStandIn t = false := by
 obtain rfl : f = 8 := Option.some.inj ((show Tryz.prog.funcNamed "gazetteer/gazetteerlaw17.WordsJoin" = some 8 by kernel_rfl).symm.trans hf) |>.symm
 obtain rfl : fn = Tryz.f8 := (Option.some.inj (Tryz.func8.symm.trans hfn)).symm
 refine ⟨by kernel_rfl, fun j t ht => ?_⟩
 rw [Tryz.params8] at ht
 have : t = 28 ∨ t = 29 ∨ t = 29 := by simpa using Array.mem_of_getElem? ht
 rcases this with rfl | rfl | rfl
 ·exact (show Tryz.prog.wantsStandIn 28 = false by kernel_rfl)
 ·exact (show Tryz.prog.wantsStandIn 29 = false by kernel_rfl)
 ·exact (show Tryz.prog.wantsStandIn 29 = false by kernel_rfl)

/-- The card. -/
theorem wordsJoin_card : Rows.WordsJoinCardSaid :=
 Claim7.holds_tied_plain_at .later [] _ _ _ _ said21 (fun _ h => by cases h) (by kernel_rfl) (fun _ h => by cases h) wordsJoin_row_tie rfl ⟨rfl, rfl⟩ (by kernel_rfl) rfl plain21 (by kernel_rfl)
#print axioms wordsJoin_card
end Go.Proofs.YthachfkcgdfdfaaGreatDoor
