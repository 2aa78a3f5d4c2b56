/- W11b · W11c -/
import Derived.Test.YtabocamjaecaaaaGreatDoorGW
/- Walks of the reference's rules (gazetteerref11), second part. -/
import Derived.Test.YtabocamjaecaaaaGreatDoorI2
import Derived.Test.YtabocamjaecaaaaGreatDoorAB
namespace Go.Proofs.YtabocamjaecaaaaGreatDoor
open Go.RowKit Classical

def Rul.ok (r : Rul) : Prop := Plain11 r.src 1 9 ∧ Plain11 r.dst 0 9 ∧ Plain11 r.nxt 0 30 ∧ ¬ (r.fin = true ∧ bl r.nxt ≠ [])
def Formed11 (R : Ruls) : Prop :=
 nameB (bl R.src) = true ∧ nameB (bl R.dst) = true ∧ 1 ≤ R.list.length ∧ R.list.length ≤ 80 ∧ (∀ r ∈ R.list, r.ok) ∧ R.list.Nodup

end Go.Proofs.YtabocamjaecaaaaGreatDoor

/- Walk of the reference's 'Valid' on rules (gazetteerref11). -/
namespace Go.Proofs.YtabocamjaecaaaaGreatDoor
open Go.RowKit Classical

def Rul.lettered (A B : Alph) (r : Rul) : Prop := LettersOk A.bls (bl r.src) 3 ∧ LettersOk B.bls (bl r.dst) 3 ∧ LettersOk A.bls (bl r.nxt) 10
def Valid11 (R : Ruls) (A B : Alph) : Prop :=
 Formed11 R ∧ Valid10 A ∧ Valid10 B ∧ R.src = A.name ∧ R.dst = B.name ∧ ∀ r ∈ R.list, r.lettered A B

theorem bytes_ne {a b : ByteArray} : (!a.toList == b.toList) = true ↔ a ≠ b := by
 rw [ByteArray.toList_eq, ByteArray.toList_eq, Bool.not_eq_true', beq_eq_false_iff_ne]
 exact ⟨fun h e => h (by rw [e]), fun h e => h (bl_inj e)⟩

end Go.Proofs.YtabocamjaecaaaaGreatDoor
