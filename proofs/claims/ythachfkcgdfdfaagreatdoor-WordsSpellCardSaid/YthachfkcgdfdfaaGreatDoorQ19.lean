/- Proved: the tied card of WordsSpell: at every argument the law gazetteerlaw17.WordsSpell returns true and does not panic. No condition is added. -/
import Derived.Test.YthachfkcgdfdfaaGreatDoorS21
import Derived.Test.YthachfkcgdfdfaaGreatDoorQ19a
import Derived.Test.YthachfkcgdfdfaaGreatDoorQF19
namespace Go.Proofs.YthachfkcgdfdfaaGreatDoor
open Go.ChangeShapes Go.WideShapes Go.ChangeAt Go.RowKit Go.Joins Go.Deep
set_option maxRecDepth 100000

theorem said19 : Rows.WordsSpellSaid :=
 OpenClaim.holds_of_cond 6 Tryz.f6 rfl rfl rfl rfl rfl rfl rfl ⟨rfl, rfl, rfl, rfl, rfl⟩ rfl rfl rfl rfl rfl (by kernel_rfl) Tryz.func6 facts19
  (of_decide_eq_true (by kernel_rfl)) (by unfold Func.isWrapper; first | (rw [if_pos (by decide +kernel)]; kernel_rfl) | (rw [if_neg (by decide +kernel)]; exact ⟨rfl, rfl⟩))
  (fun os started H enc _ F => by rw [OpenClaim.pre_eq_preRow]; exact lifted19 os started H enc F)

theorem plain19 (f : FuncId) (fn : Func) (hf : Tryz.pinned.checked.prog.funcNamed "gazetteer/gazetteerlaw17.WordsSpell" = some f) (hfn : Tryz.pinned.checked.prog.funcs[f]? = some fn) :
  true = Tryz.pinned.checked.prog.looks [] ∧ ∀ (j : Nat) t, fn.params[j]? = some t → Tryz.pinned.checked.prog.wantsStandIn t = false := by
 obtain rfl : f = 6 := Option.some.inj ((show Tryz.prog.funcNamed "gazetteer/gazetteerlaw17.WordsSpell" = some 6 by kernel_rfl).symm.trans hf) |>.symm
 obtain rfl : fn = Tryz.f6 := (Option.some.inj (Tryz.func6.symm.trans hfn)).symm
 refine ⟨by kernel_rfl, fun j t ht => ?_⟩
 rw [Tryz.params6] at ht
 have : t = 28 ∨ t = 29 := by simpa using Array.mem_of_getElem? ht
 rcases this with rfl | rfl
 ·exact (show Tryz.prog.wantsStandIn 28 = false by kernel_rfl)
 ·exact (show Tryz.prog.wantsStandIn 29 = false by kernel_rfl)

/-- The card. -/
theorem wordsSpell_card : Rows.WordsSpellCardSaid :=
 Claim7.holds_tied_plain_at .later [] _ _ _ _ said19 (fun _ h => by cases h) (by kernel_rfl) (fun _ h => by cases h) wordsSpell_row_tie rfl ⟨rfl, rfl⟩ (by kernel_rfl) rfl plain19 (by kernel_rfl)
#print axioms wordsSpell_card
end Go.Proofs.YthachfkcgdfdfaaGreatDoor
