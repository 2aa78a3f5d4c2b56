/-
  DERIVED. GIVEN WITH THE SEED: THE CARDS: each row of YtmhdgddjeadjjaaGreatDoorRows.lean that lists a variable, with what it lists TIED to the program's text (the seventh form; the later family's looks); each row that meets fmt, with fmt's text TOLD by the authors' own Lean function (tested against real Go, not proved from fmt's source: count such statements apart). THE CARD IS WHAT COUNTS. Prove the row's statement (the work); the ties are given (YtmhdgddjeadjjaaGreatDoorTie.lean); close each card by the builder's one call (the guide's Derived/Test/ToyasCard.lean, 'card_holds'). Laid BY PROGRAM, IN A SANDBOX (cutbox-door.mjs). By AI agents, Wed Nov 11 2026. No macro, syntax, notation, axiom, sorry.
-/
import Derived.Test.YtmhdgddjeadjjaaGreatDoorRows
import GoSem.ClaimSeven
namespace Go.Proofs.YtmhdgddjeadjjaaGreatDoor
namespace Rows

/-- THE TIED CARD OF 'gazetteerlaw17.WordsMatchesReference'. -/
def wordsMatchesReferenceCard : Claim7 := { stood := { row := wordsMatchesReferenceRow, standIns := [], harness := (true, "cfb95d8e98bb677a5ca2d1b609539f2ef068180ec57dd446c7814c9fada255de"), looks := true }, kinds := [], alts := [], laidByText := true, laidKinds := [.data, .data, .data, .data, .sentinel, .sentinel, .pinned], laidTests := true, laidLooks := .later }
def WordsMatchesReferenceCardSaid : Prop := Claim7.holds Tryz.pinned (.plain (OpenSpec.ofChange wordsMatchesReferenceSpec)) wordsMatchesReferenceCard

/-- THE SECOND FORM's CARD OF 'gazetteerlaw17.WordsMatchesReference'. -/
def wordsMatchesReferenceUptoCard : Claim7 := { stood := { row := wordsMatchesReferenceUptoRow, standIns := [], harness := (true, "cfb95d8e98bb677a5ca2d1b609539f2ef068180ec57dd446c7814c9fada255de"), looks := true }, kinds := [], alts := [], laidByText := true, laidKinds := [.data, .data, .data, .data, .sentinel, .sentinel, .pinned], laidTests := true, laidLooks := .later }
def WordsMatchesReferenceUptoCardSaid : Prop := Claim7.holds Tryz.pinned (.plain (OpenSpec.upto wordsMatchesReferenceSpec)) wordsMatchesReferenceUptoCard
end Rows
end Go.Proofs.YtmhdgddjeadjjaaGreatDoor
