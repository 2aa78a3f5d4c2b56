/-
  DERIVED. GIVEN WITH THE SEED: THE CARDS: each row of YtgaldlecnfekaaaGreatDoorRows.lean that lists a variable, with what it lists TIED to the program's text (the seventh form; the later family's looks); each row that meets fmt, with fmt's text TOLD by the authors' own Lean function (tested against real Go, not proved from fmt's source: count such statements apart). THE CARD IS WHAT COUNTS. Prove the row's statement (the work); the ties are given (YtgaldlecnfekaaaGreatDoorTie.lean); close each card by the builder's one call (the guide's Derived/Test/ToyasCard.lean, 'card_holds'). Laid BY PROGRAM, IN A SANDBOX (cutbox-door.mjs). By AI agents, Wed Nov 11 2026. No macro, syntax, notation, axiom, sorry.
-/
import Derived.Test.YtgaldlecnfekaaaGreatDoorRows
import GoSem.ClaimSeven
namespace Go.Proofs.YtgaldlecnfekaaaGreatDoor
namespace Rows

/-- THE TIED CARD OF 'gazetteerlaw14.ComposeMatchesReference'. -/
def composeMatchesReferenceCard : Claim7 := { stood := { row := composeMatchesReferenceRow, standIns := [], harness := (true, "fca9de98170d663c7d2ce5b48809110bc0a9af22a4e524a6eb76ef61aef773f1"), looks := true }, kinds := [], alts := [], laidByText := true, laidKinds := [.data, .data, .data, .sentinel, .sentinel], laidTests := true, laidLooks := .later }
def ComposeMatchesReferenceCardSaid : Prop := Claim7.holds Tryz.pinned (.plain (OpenSpec.ofChange composeMatchesReferenceSpec)) composeMatchesReferenceCard

/-- THE TIED CARD OF 'gazetteerlaw14.ComposeJoins'. -/
def composeJoinsCard : Claim7 := { stood := { row := composeJoinsRow, standIns := [], harness := (true, "fca9de98170d663c7d2ce5b48809110bc0a9af22a4e524a6eb76ef61aef773f1"), looks := true }, kinds := [], alts := [], laidByText := true, laidKinds := [.data, .data, .data, .sentinel, .sentinel], laidTests := true, laidLooks := .later }
def ComposeJoinsCardSaid : Prop := Claim7.holds Tryz.pinned (.plain (OpenSpec.ofChange composeJoinsSpec)) composeJoinsCard

/-- THE TIED CARD OF 'gazetteerlaw14.ComposeThree'. -/
def composeThreeCard : Claim7 := { stood := { row := composeThreeRow, standIns := [], harness := (true, "fca9de98170d663c7d2ce5b48809110bc0a9af22a4e524a6eb76ef61aef773f1"), looks := true }, kinds := [], alts := [], laidByText := true, laidKinds := [.data, .data, .data, .sentinel, .sentinel], laidTests := true, laidLooks := .later }
def ComposeThreeCardSaid : Prop := Claim7.holds Tryz.pinned (.plain (OpenSpec.ofChange composeThreeSpec)) composeThreeCard

/-- THE TIED CARD OF 'gazetteerlaw14.ComposeUnites'. -/
def composeUnitesCard : Claim7 := { stood := { row := composeUnitesRow, standIns := [], harness := (true, "fca9de98170d663c7d2ce5b48809110bc0a9af22a4e524a6eb76ef61aef773f1"), looks := true }, kinds := [], alts := [], laidByText := true, laidKinds := [.data, .data, .data, .sentinel, .sentinel], laidTests := true, laidLooks := .later }
def ComposeUnitesCardSaid : Prop := Claim7.holds Tryz.pinned (.plain (OpenSpec.ofChange composeUnitesSpec)) composeUnitesCard

/-- THE TIED CARD OF 'gazetteerlaw14.ComposeForm'. -/
def composeFormCard : Claim7 := { stood := { row := composeFormRow, standIns := [], harness := (true, "fca9de98170d663c7d2ce5b48809110bc0a9af22a4e524a6eb76ef61aef773f1"), looks := true }, kinds := [], alts := [], laidByText := true, laidKinds := [.data, .data, .data, .sentinel, .sentinel], laidTests := true, laidLooks := .later }
def ComposeFormCardSaid : Prop := Claim7.holds Tryz.pinned (.plain (OpenSpec.ofChange composeFormSpec)) composeFormCard

/-- THE TIED CARD OF 'gazetteerlaw14.ComposeInverts'. -/
def composeInvertsCard : Claim7 := { stood := { row := composeInvertsRow, standIns := [], harness := (true, "fca9de98170d663c7d2ce5b48809110bc0a9af22a4e524a6eb76ef61aef773f1"), looks := true }, kinds := [], alts := [], laidByText := true, laidKinds := [.data, .data, .data, .sentinel, .sentinel], laidTests := true, laidLooks := .later }
def ComposeInvertsCardSaid : Prop := Claim7.holds Tryz.pinned (.plain (OpenSpec.ofChange composeInvertsSpec)) composeInvertsCard

/-- THE TIED CARD OF 'gazetteerlaw14.ComposeCopies'. -/
def composeCopiesCard : Claim7 := { stood := { row := composeCopiesRow, standIns := [], harness := (true, "fca9de98170d663c7d2ce5b48809110bc0a9af22a4e524a6eb76ef61aef773f1"), looks := true }, kinds := [], alts := [], laidByText := true, laidKinds := [.data, .data, .data, .sentinel, .sentinel], laidTests := true, laidLooks := .later }
def ComposeCopiesCardSaid : Prop := Claim7.holds Tryz.pinned (.plain (OpenSpec.ofChange composeCopiesSpec)) composeCopiesCard

/-- THE TIED CARD OF 'gazetteerlaw13.CompileWords'. -/
def compileWordsCard : Claim7 := { stood := { row := compileWordsRow, standIns := [], harness := (true, "fca9de98170d663c7d2ce5b48809110bc0a9af22a4e524a6eb76ef61aef773f1"), looks := true }, kinds := [], alts := [], laidByText := true, laidKinds := [.data, .data, .data, .sentinel, .sentinel], laidTests := true, laidLooks := .later }
def CompileWordsCardSaid : Prop := Claim7.holds Tryz.pinned (.plain (OpenSpec.ofChange compileWordsSpec)) compileWordsCard

/-- THE TIED CARD OF 'gazetteerlaw13.CompileSame'. -/
def compileSameCard : Claim7 := { stood := { row := compileSameRow, standIns := [], harness := (true, "fca9de98170d663c7d2ce5b48809110bc0a9af22a4e524a6eb76ef61aef773f1"), looks := true }, kinds := [], alts := [], laidByText := true, laidKinds := [.data, .data, .data, .sentinel, .sentinel], laidTests := true, laidLooks := .later }
def CompileSameCardSaid : Prop := Claim7.holds Tryz.pinned (.plain (OpenSpec.ofChange compileSameSpec)) compileSameCard

/-- THE SECOND FORM's CARD OF 'gazetteerlaw14.ComposeMatchesReference'. -/
def composeMatchesReferenceUptoCard : Claim7 := { stood := { row := composeMatchesReferenceUptoRow, standIns := [], harness := (true, "fca9de98170d663c7d2ce5b48809110bc0a9af22a4e524a6eb76ef61aef773f1"), looks := true }, kinds := [], alts := [], laidByText := true, laidKinds := [.data, .data, .data, .sentinel, .sentinel], laidTests := true, laidLooks := .later }
def ComposeMatchesReferenceUptoCardSaid : Prop := Claim7.holds Tryz.pinned (.plain (OpenSpec.upto composeMatchesReferenceSpec)) composeMatchesReferenceUptoCard

/-- THE SECOND FORM's CARD OF 'gazetteerlaw14.ComposeJoins'. -/
def composeJoinsUptoCard : Claim7 := { stood := { row := composeJoinsUptoRow, standIns := [], harness := (true, "fca9de98170d663c7d2ce5b48809110bc0a9af22a4e524a6eb76ef61aef773f1"), looks := true }, kinds := [], alts := [], laidByText := true, laidKinds := [.data, .data, .data, .sentinel, .sentinel], laidTests := true, laidLooks := .later }
def ComposeJoinsUptoCardSaid : Prop := Claim7.holds Tryz.pinned (.plain (OpenSpec.upto composeJoinsSpec)) composeJoinsUptoCard

/-- THE SECOND FORM's CARD OF 'gazetteerlaw14.ComposeThree'. -/
def composeThreeUptoCard : Claim7 := { stood := { row := composeThreeUptoRow, standIns := [], harness := (true, "fca9de98170d663c7d2ce5b48809110bc0a9af22a4e524a6eb76ef61aef773f1"), looks := true }, kinds := [], alts := [], laidByText := true, laidKinds := [.data, .data, .data, .sentinel, .sentinel], laidTests := true, laidLooks := .later }
def ComposeThreeUptoCardSaid : Prop := Claim7.holds Tryz.pinned (.plain (OpenSpec.upto composeThreeSpec)) composeThreeUptoCard

/-- THE SECOND FORM's CARD OF 'gazetteerlaw14.ComposeUnites'. -/
def composeUnitesUptoCard : Claim7 := { stood := { row := composeUnitesUptoRow, standIns := [], harness := (true, "fca9de98170d663c7d2ce5b48809110bc0a9af22a4e524a6eb76ef61aef773f1"), looks := true }, kinds := [], alts := [], laidByText := true, laidKinds := [.data, .data, .data, .sentinel, .sentinel], laidTests := true, laidLooks := .later }
def ComposeUnitesUptoCardSaid : Prop := Claim7.holds Tryz.pinned (.plain (OpenSpec.upto composeUnitesSpec)) composeUnitesUptoCard

/-- THE SECOND FORM's CARD OF 'gazetteerlaw14.ComposeForm'. -/
def composeFormUptoCard : Claim7 := { stood := { row := composeFormUptoRow, standIns := [], harness := (true, "fca9de98170d663c7d2ce5b48809110bc0a9af22a4e524a6eb76ef61aef773f1"), looks := true }, kinds := [], alts := [], laidByText := true, laidKinds := [.data, .data, .data, .sentinel, .sentinel], laidTests := true, laidLooks := .later }
def ComposeFormUptoCardSaid : Prop := Claim7.holds Tryz.pinned (.plain (OpenSpec.upto composeFormSpec)) composeFormUptoCard

/-- THE SECOND FORM's CARD OF 'gazetteerlaw14.ComposeInverts'. -/
def composeInvertsUptoCard : Claim7 := { stood := { row := composeInvertsUptoRow, standIns := [], harness := (true, "fca9de98170d663c7d2ce5b48809110bc0a9af22a4e524a6eb76ef61aef773f1"), looks := true }, kinds := [], alts := [], laidByText := true, laidKinds := [.data, .data, .data, .sentinel, .sentinel], laidTests := true, laidLooks := .later }
def ComposeInvertsUptoCardSaid : Prop := Claim7.holds Tryz.pinned (.plain (OpenSpec.upto composeInvertsSpec)) composeInvertsUptoCard

/-- THE SECOND FORM's CARD OF 'gazetteerlaw14.ComposeCopies'. -/
def composeCopiesUptoCard : Claim7 := { stood := { row := composeCopiesUptoRow, standIns := [], harness := (true, "fca9de98170d663c7d2ce5b48809110bc0a9af22a4e524a6eb76ef61aef773f1"), looks := true }, kinds := [], alts := [], laidByText := true, laidKinds := [.data, .data, .data, .sentinel, .sentinel], laidTests := true, laidLooks := .later }
def ComposeCopiesUptoCardSaid : Prop := Claim7.holds Tryz.pinned (.plain (OpenSpec.upto composeCopiesSpec)) composeCopiesUptoCard

/-- THE SECOND FORM's CARD OF 'gazetteerlaw13.CompileWords'. -/
def compileWordsUptoCard : Claim7 := { stood := { row := compileWordsUptoRow, standIns := [], harness := (true, "fca9de98170d663c7d2ce5b48809110bc0a9af22a4e524a6eb76ef61aef773f1"), looks := true }, kinds := [], alts := [], laidByText := true, laidKinds := [.data, .data, .data, .sentinel, .sentinel], laidTests := true, laidLooks := .later }
def CompileWordsUptoCardSaid : Prop := Claim7.holds Tryz.pinned (.plain (OpenSpec.upto compileWordsSpec)) compileWordsUptoCard

/-- THE SECOND FORM's CARD OF 'gazetteerlaw13.CompileSame'. -/
def compileSameUptoCard : Claim7 := { stood := { row := compileSameUptoRow, standIns := [], harness := (true, "fca9de98170d663c7d2ce5b48809110bc0a9af22a4e524a6eb76ef61aef773f1"), looks := true }, kinds := [], alts := [], laidByText := true, laidKinds := [.data, .data, .data, .sentinel, .sentinel], laidTests := true, laidLooks := .later }
def CompileSameUptoCardSaid : Prop := Claim7.holds Tryz.pinned (.plain (OpenSpec.upto compileSameSpec)) compileSameUptoCard
end Rows
end Go.Proofs.YtgaldlecnfekaaaGreatDoor
