/- QF22 -/
import Derived.Test.YtmhdgddjeadjjaaGreatDoorRows
import Derived.JoinedOf
/- The closed facts of the card of WordsMatchesReference, each a lemma of its own (printed by mkq17.py). -/
namespace Go.Proofs.YtmhdgddjeadjjaaGreatDoor
open Go

theorem and_t {a b : Bool} (h : a = true) (k : b = true) : (a && b) = true := by rw [h, k]; rfl

set_option maxHeartbeats 4000000 in
theorem facts22 : joinedFacts Tryz.prog 3 Tryz.f3 Rows.wordsMatchesReferenceSpec Rows.wordsMatchesReferenceRow = true := by
 unfold joinedFacts
 repeat' with_reducible refine and_t ?_ ?_
 all_goals as_aux_lemma => kernel_rfl
#print axioms facts22
end Go.Proofs.YtmhdgddjeadjjaaGreatDoor
