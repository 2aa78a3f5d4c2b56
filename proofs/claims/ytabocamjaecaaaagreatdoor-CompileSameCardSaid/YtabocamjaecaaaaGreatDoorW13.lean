/- Walks of the reference's machine of rules (gazetteerref13): byteAt, begins. -/
import Derived.Test.YtabocamjaecaaaaGreatDoorGX
import Derived.Test.YtabocamjaecaaaaGreatDoorGV
import Derived.Test.YtabocamjaecaaaaGreatDoorGS
import Derived.Test.YtabocamjaecaaaaGreatDoorI2
namespace Go.Proofs.YtabocamjaecaaaaGreatDoor
open Go.RowKit Classical

theorem wrap64_u8 (c : UInt8) : wrap64 (c.toNat : Int) = c.toNat := by
 have := c.toNat_lt
 unfold wrap64
 omega
theorem readGo_le (L : List (List UInt8)) : ∀ (f : Nat) (t : List UInt8) (o : Nat) (acc : List Int), (readGo L f t o acc).letters.length ≤ acc.length + f := by
 intro f
 induction f with
 | zero =>
  intro t o acc
  rw [readGo]
  repeat' split
  all_goals simp
 | succ f ih =>
  intro t o acc
  rw [readGo]
  split
  ·simp
  ·split
   ·simp
   ·refine Nat.le_trans (ih _ _ _) ?_
    simp; omega
theorem readL_le (L : List (List UInt8)) (t : List UInt8) : (readL L t).letters.length ≤ 24 := by
 unfold readL
 split
 ·simp
 ·simpa using readGo_le L 24 t 0 []

def Rul.l (r : Rul) : RulL := ⟨bl r.src, bl r.dst, bl r.nxt, r.fin⟩

end Go.Proofs.YtabocamjaecaaaaGreatDoor
