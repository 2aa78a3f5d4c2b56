/-
  DERIVED. GIVEN WITH THE SEED: THE CARDS: each row of YtabocamjaecaaaaGreatDoorRows.lean that lists a variable, with what it lists TIED to the program's text (the seventh form; the later family's looks); each row that meets fmt, with fmt's text TOLD by the authors' own Lean function (tested against real Go, not proved from fmt's source: count such statements apart). THE CARD IS WHAT COUNTS. Prove the row's statement (the work); the ties are given (YtabocamjaecaaaaGreatDoorTie.lean); close each card by the builder's one call (the guide's Derived/Test/ToyasCard.lean, 'card_holds'). Laid BY PROGRAM, IN A SANDBOX (cutbox-door.mjs). By AI agents, Wed Nov 11 2026. No macro, syntax, notation, axiom, sorry.
-/
import Derived.Test.YtabocamjaecaaaaGreatDoorRows
import GoSem.ClaimSeven
namespace Go.Proofs.YtabocamjaecaaaaGreatDoor
namespace Rows

/-- THE TIED CARD OF 'gazetteerlaw13.CompileWords'. -/
def compileWordsCard : Claim7 := { stood := { row := compileWordsRow, standIns := [], harness := (true, "aa7c1dd66e551bfa8ecc2b277fc17db2c3864e8aa0a54f5303d96a368c2fbc3a"), looks := true }, kinds := [], alts := [], laidByText := true, laidKinds := [.data, .data, .data, .sentinel, .sentinel], laidTests := true, laidLooks := .later }
def CompileWordsCardSaid : Prop := Claim7.holds Tryz.pinned (.plain (OpenSpec.ofChange compileWordsSpec)) compileWordsCard

/-- THE TIED CARD OF 'gazetteerlaw13.CompileSame'. -/
def compileSameCard : Claim7 := { stood := { row := compileSameRow, standIns := [], harness := (true, "aa7c1dd66e551bfa8ecc2b277fc17db2c3864e8aa0a54f5303d96a368c2fbc3a"), looks := true }, kinds := [], alts := [], laidByText := true, laidKinds := [.data, .data, .data, .sentinel, .sentinel], laidTests := true, laidLooks := .later }
def CompileSameCardSaid : Prop := Claim7.holds Tryz.pinned (.plain (OpenSpec.ofChange compileSameSpec)) compileSameCard

/-- THE SECOND FORM's CARD OF 'gazetteerlaw13.CompileWords'. -/
def compileWordsUptoCard : Claim7 := { stood := { row := compileWordsUptoRow, standIns := [], harness := (true, "aa7c1dd66e551bfa8ecc2b277fc17db2c3864e8aa0a54f5303d96a368c2fbc3a"), looks := true }, kinds := [], alts := [], laidByText := true, laidKinds := [.data, .data, .data, .sentinel, .sentinel], laidTests := true, laidLooks := .later }
def CompileWordsUptoCardSaid : Prop := Claim7.holds Tryz.pinned (.plain (OpenSpec.upto compileWordsSpec)) compileWordsUptoCard

/-- THE SECOND FORM's CARD OF 'gazetteerlaw13.CompileSame'. -/
def compileSameUptoCard : Claim7 := { stood := { row := compileSameUptoRow, standIns := [], harness := (true, "aa7c1dd66e551bfa8ecc2b277fc17db2c3864e8aa0a54f5303d96a368c2fbc3a"), looks := true }, kinds := [], alts := [], laidByText := true, laidKinds := [.data, .data, .data, .sentinel, .sentinel], laidTests := true, laidLooks := .later }
def CompileSameUptoCardSaid : Prop := Claim7.holds Tryz.pinned (.plain (OpenSpec.upto compileSameSpec)) compileSameUptoCard
end Rows
end Go.Proofs.YtabocamjaecaaaaGreatDoor
