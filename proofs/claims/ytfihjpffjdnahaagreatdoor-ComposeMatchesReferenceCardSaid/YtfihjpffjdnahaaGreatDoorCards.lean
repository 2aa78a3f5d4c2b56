/-
  DERIVED. GIVEN WITH THE SEED: THE CARDS: each row of YtfihjpffjdnahaaGreatDoorRows.lean that lists a variable, with what it lists TIED to the program's text (the seventh form; the later family's looks); each row that meets fmt, with fmt's text TOLD by the authors' own Lean function (tested against real Go, not proved from fmt's source: count such statements apart). THE CARD IS WHAT COUNTS. Prove the row's statement (the work); the ties are given (YtfihjpffjdnahaaGreatDoorTie.lean); close each card by the builder's one call (the guide's Derived/Test/ToyasCard.lean, 'card_holds'). Laid BY PROGRAM, IN A SANDBOX (cutbox-door.mjs). By AI agents, Wed Nov 11 2026. No macro, syntax, notation, axiom, sorry.
-/
import Derived.Test.YtfihjpffjdnahaaGreatDoorRows
import GoSem.ClaimSeven
namespace Go.Proofs.YtfihjpffjdnahaaGreatDoor
namespace Rows

/-- THE TIED CARD OF 'gazetteerlaw14.ComposeMatchesReference'. -/
def composeMatchesReferenceCard : Claim7 := { stood := { row := composeMatchesReferenceRow, standIns := [], harness := (true, "21324ee08dc274f8bbfb836ece2ce020a3bc1081ce083a0f9f7af931a6678ffd"), looks := true }, kinds := [], alts := [], laidByText := true, laidKinds := [.data, .data, .data, .sentinel, .sentinel], laidTests := true, laidLooks := .later }
def ComposeMatchesReferenceCardSaid : Prop := Claim7.holds Tryz.pinned (.plain (OpenSpec.ofChange composeMatchesReferenceSpec)) composeMatchesReferenceCard

/-- THE SECOND FORM's CARD OF 'gazetteerlaw14.ComposeMatchesReference'. -/
def composeMatchesReferenceUptoCard : Claim7 := { stood := { row := composeMatchesReferenceUptoRow, standIns := [], harness := (true, "21324ee08dc274f8bbfb836ece2ce020a3bc1081ce083a0f9f7af931a6678ffd"), looks := true }, kinds := [], alts := [], laidByText := true, laidKinds := [.data, .data, .data, .sentinel, .sentinel], laidTests := true, laidLooks := .later }
def ComposeMatchesReferenceUptoCardSaid : Prop := Claim7.holds Tryz.pinned (.plain (OpenSpec.upto composeMatchesReferenceSpec)) composeMatchesReferenceUptoCard
end Rows
end Go.Proofs.YtfihjpffjdnahaaGreatDoor
