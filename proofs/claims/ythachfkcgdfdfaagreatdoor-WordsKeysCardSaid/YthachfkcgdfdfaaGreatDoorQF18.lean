/- The closed facts of the card of WordsKeys, each a lemma of its own (printed by mkq17.py). -/
import Derived.Test.YthachfkcgdfdfaaGreatDoorS18
import Derived.Test.YthachfkcgdfdfaaGreatDoorRows
import Derived.JoinedOf
import Derived.KernelRfl
namespace Go.Proofs.YthachfkcgdfdfaaGreatDoor
open Go

theorem and_t {a b : Bool} (h : a = true) (k : b = true) : (a && b) = true := by rw [h, k]; rfl

set_option maxHeartbeats 4000000 in
theorem facts18 : joinedFacts Tryz.prog 5 Tryz.f5 Rows.wordsKeysSpec Rows.wordsKeysRow = true := by
 unfold joinedFacts
 repeat' with_reducible refine and_t ?_ ?_
 all_goals as_aux_lemma => kernel_rfl
#print axioms facts18
end Go.Proofs.YthachfkcgdfdfaaGreatDoor
