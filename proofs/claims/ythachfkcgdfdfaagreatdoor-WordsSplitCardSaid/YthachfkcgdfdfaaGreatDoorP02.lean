/- QF17 -/
import Derived.Test.YthachfkcgdfdfaaGreatDoorRows
import Derived.JoinedOf
import Derived.KernelRfl
/- The closed facts of the card of WordsSplit, each a lemma of its own (printed by mkq17.py). -/
namespace Go.Proofs.YthachfkcgdfdfaaGreatDoor
open Go

theorem and_t {a b : Bool} (h : a = true) (k : b = true) : (a && b) = true := by rw [h, k]; rfl

set_option maxHeartbeats 4000000 in
theorem facts17 : joinedFacts Tryz.prog 4 Tryz.f4 Rows.wordsSplitSpec Rows.wordsSplitRow = true := by
 unfold joinedFacts
 repeat' with_reducible refine and_t ?_ ?_
 all_goals as_aux_lemma => kernel_rfl
#print axioms facts17
end Go.Proofs.YthachfkcgdfdfaaGreatDoor
