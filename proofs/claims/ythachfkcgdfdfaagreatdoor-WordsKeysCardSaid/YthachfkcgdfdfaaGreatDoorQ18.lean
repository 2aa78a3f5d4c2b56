/- Proved: the tied card of WordsKeys: at every argument the law gazetteerlaw17.WordsKeys returns true and does not panic. No condition is added. -/
import Derived.Test.YthachfkcgdfdfaaGreatDoorS18
import Derived.Test.YthachfkcgdfdfaaGreatDoorQ18a
import Derived.Test.YthachfkcgdfdfaaGreatDoorQF18
namespace Go.Proofs.YthachfkcgdfdfaaGreatDoor
open Go.ChangeShapes Go.WideShapes Go.ChangeAt Go.RowKit Go.Joins Go.Deep
set_option maxRecDepth 100000

theorem said18 : Rows.WordsKeysSaid :=
 OpenClaim.holds_of_cond 5 Tryz.f5 rfl rfl rfl rfl rfl rfl rfl ⟨rfl, rfl, rfl, rfl, rfl⟩ rfl rfl rfl rfl rfl (by kernel_rfl) Tryz.func5 facts18
  (of_decide_eq_true (by kernel_rfl)) (by unfold Func.isWrapper; first | (rw [if_pos (by decide +kernel)]; kernel_rfl) | (rw [if_neg (by decide +kernel)]; exact ⟨rfl, rfl⟩))
  (fun os started H enc _ F => by rw [OpenClaim.pre_eq_preRow]; exact lifted18 os started H enc F)

theorem plain18 (f : FuncId) (fn : Func) (hf : Tryz.pinned.checked.prog.funcNamed "gazetteer/gazetteerlaw17.WordsKeys" = some f) (hfn : Tryz.pinned.checked.prog.funcs[f]? = some fn) :
  true = Tryz.pinned.checked.prog.looks [] ∧ ∀ (j : Nat) t, fn.params[j]? = some t → Tryz.pinned.checked.prog.wantsStandIn t = false := by
 obtain rfl : f = 5 := Option.some.inj ((show Tryz.prog.funcNamed "gazetteer/gazetteerlaw17.WordsKeys" = some 5 by kernel_rfl).symm.trans hf) |>.symm
 obtain rfl : fn = Tryz.f5 := (Option.some.inj (Tryz.func5.symm.trans hfn)).symm
 refine ⟨by kernel_rfl, fun j t ht => ?_⟩
 rw [Tryz.params5] at ht
 have : t = 25 ∨ t = 27 := by simpa using Array.mem_of_getElem? ht
 rcases this with rfl | rfl
 ·exact (show Tryz.prog.wantsStandIn 25 = false by kernel_rfl)
 ·exact (show Tryz.prog.wantsStandIn 27 = false by kernel_rfl)

/-- The card. -/
theorem wordsKeys_card : Rows.WordsKeysCardSaid :=
 Claim7.holds_tied_plain_at .later [] _ _ _ _ said18 (fun _ h => by cases h) (by kernel_rfl) (fun _ h => by cases h) wordsKeys_row_tie rfl ⟨rfl, rfl⟩ (by kernel_rfl) rfl plain18 (by kernel_rfl)
#print axioms wordsKeys_card
end Go.Proofs.YthachfkcgdfdfaaGreatDoor
