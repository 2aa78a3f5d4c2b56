/- Proved: the tied card of WordsMatchesReference: at every argument the law gazetteerlaw17.WordsMatchesReference returns true and does not panic. No condition is added. -/
import Derived.Test.YtmhdgddjeadjjaaGreatDoorP05
import Derived.Test.YtmhdgddjeadjjaaGreatDoorP43
namespace Go.Proofs.YtmhdgddjeadjjaaGreatDoor
open _root_.List Go.Lib _root_.Nat Go.World _root_.Int Go.Proofs.Tryz
section
open Go.ChangeShapes Go.WideShapes Go.ChangeAt Go.RowKit Go.Joins Go.Deep
set_option maxRecDepth 100000
theorem EL:Rows.WordsMatchesReferenceSaid:=
 OpenClaim.holds_of_cond 3 f3 rfl rfl rfl rfl rfl rfl rfl ⟨rfl,rfl,rfl,rfl,rfl⟩ rfl rfl rfl rfl rfl (by kernel_rfl) func3 facts22
  (of_decide_eq_true (by kernel_rfl)) (by unfold Func.isWrapper;first |(rw[if_pos (by decide+kernel)];kernel_rfl) |(rw[if_neg (by decide+kernel)];exact⟨rfl,rfl⟩))
  (fun os started H enc _ F=>by rw[OpenClaim.pre_eq_preRow];exact C7 os started H enc F)
theorem Ee (f:FuncId)(fn:Func)(c:Tryz.pinned.checked.prog.funcNamed "gazetteer/gazetteerlaw17.WordsMatchesReference" =some f)(a:Tryz.pinned.checked.prog.funcs[f]?=some fn):
  true=Tryz.pinned.checked.prog.looks []/\∀(j:Nat) t,fn.params[j]?=some t->Tryz.pinned.checked.prog.wantsStandIn t=false:=by
 obtain rfl:f=3:=Option.some.inj ((show prog.funcNamed "gazetteer/gazetteerlaw17.WordsMatchesReference" =some 3 by kernel_rfl).symm.trans c) |>.symm;obtain rfl:fn=f3:=(Option.some.inj (func3.symm.trans a)).symm;refine⟨by kernel_rfl,fun j t b=>?_⟩;rw[params3]at b;have:t=25∨t=27∨t=9∨t=28∨t=29:=by simpa using Array.mem_of_getElem? b
 rcases this with rfl |rfl |rfl |rfl |rfl
 .exact(show prog.wantsStandIn 25=false by kernel_rfl)
 .exact(show prog.wantsStandIn 27=false by kernel_rfl)
 .exact(show prog.wantsStandIn 9=false by kernel_rfl)
 .exact(show prog.wantsStandIn 28=false by kernel_rfl)
 .exact(show prog.wantsStandIn 29=false by kernel_rfl)
theorem wordsMatchesReference_card:Rows.WordsMatchesReferenceCardSaid:=
 Claim7.holds_tied_plain_at .later [] _ _ _ _ EL (fun _ h=>by cases h) (by kernel_rfl) (fun _ h=>by cases h) wordsMatchesReference_row_tie rfl ⟨rfl,rfl⟩ (by kernel_rfl) rfl Ee (by kernel_rfl)
#print axioms wordsMatchesReference_card
end
end Go.Proofs.YtmhdgddjeadjjaaGreatDoor
