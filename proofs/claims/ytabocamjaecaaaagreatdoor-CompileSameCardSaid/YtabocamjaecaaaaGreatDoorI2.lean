/- Walks of the reference's alphabets and rules: At, Letters, plain. -/
import Derived.Test.YtabocamjaecaaaaGreatDoorGW
namespace Go.Proofs.YtabocamjaecaaaaGreatDoor
open Go.RowKit Classical

end Go.Proofs.YtabocamjaecaaaaGreatDoor
