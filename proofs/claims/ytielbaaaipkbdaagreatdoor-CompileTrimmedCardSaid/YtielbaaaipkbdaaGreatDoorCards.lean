/-
  DERIVED. GIVEN WITH THE SEED: THE CARDS: each row of YtielbaaaipkbdaaGreatDoorRows.lean that lists a variable, with what it lists TIED to the program's text (the seventh form; the later family's looks); each row that meets fmt, with fmt's text TOLD by the authors' own Lean function (tested against real Go, not proved from fmt's source: count such statements apart). THE CARD IS WHAT COUNTS. Prove the row's statement (the work); the ties are given (YtielbaaaipkbdaaGreatDoorTie.lean); close each card by the builder's one call (the guide's Derived/Test/ToyasCard.lean, 'card_holds'). Laid BY PROGRAM, IN A SANDBOX (cutbox-door.mjs). By AI agents, Wed Nov 11 2026. No macro, syntax, notation, axiom, sorry.
-/
import Derived.Test.YtielbaaaipkbdaaGreatDoorRows
import GoSem.ClaimSeven
namespace Go.Proofs.YtielbaaaipkbdaaGreatDoor
namespace Rows

/-- THE TIED CARD OF 'gazetteerlaw13.CompileMatchesReference'. -/
def compileMatchesReferenceCard : Claim7 := { stood := { row := compileMatchesReferenceRow, standIns := [], harness := (true, "6dfb46c2d212e92cb3562626549baaf5fb76485e0a7e3a0ac96a9c4464a99370"), looks := true }, kinds := [], alts := [], laidByText := true, laidKinds := [.data, .data, .data, .sentinel, .sentinel], laidTests := true, laidLooks := .later }
def CompileMatchesReferenceCardSaid : Prop := Claim7.holds Tryz.pinned (.plain (OpenSpec.ofChange compileMatchesReferenceSpec)) compileMatchesReferenceCard

/-- THE TIED CARD OF 'gazetteerlaw13.CompileMore'. -/
def compileMoreCard : Claim7 := { stood := { row := compileMoreRow, standIns := [], harness := (true, "6dfb46c2d212e92cb3562626549baaf5fb76485e0a7e3a0ac96a9c4464a99370"), looks := true }, kinds := [], alts := [], laidByText := true, laidKinds := [.data, .data, .data, .sentinel, .sentinel], laidTests := true, laidLooks := .later }
def CompileMoreCardSaid : Prop := Claim7.holds Tryz.pinned (.plain (OpenSpec.ofChange compileMoreSpec)) compileMoreCard

/-- THE TIED CARD OF 'gazetteerlaw13.CompileParts'. -/
def compilePartsCard : Claim7 := { stood := { row := compilePartsRow, standIns := [], harness := (true, "6dfb46c2d212e92cb3562626549baaf5fb76485e0a7e3a0ac96a9c4464a99370"), looks := true }, kinds := [], alts := [], laidByText := true, laidKinds := [.data, .data, .data, .sentinel, .sentinel], laidTests := true, laidLooks := .later }
def CompilePartsCardSaid : Prop := Claim7.holds Tryz.pinned (.plain (OpenSpec.ofChange compilePartsSpec)) compilePartsCard

/-- THE TIED CARD OF 'gazetteerlaw13.CompileBack'. -/
def compileBackCard : Claim7 := { stood := { row := compileBackRow, standIns := [], harness := (true, "6dfb46c2d212e92cb3562626549baaf5fb76485e0a7e3a0ac96a9c4464a99370"), looks := true }, kinds := [], alts := [], laidByText := true, laidKinds := [.data, .data, .data, .sentinel, .sentinel], laidTests := true, laidLooks := .later }
def CompileBackCardSaid : Prop := Claim7.holds Tryz.pinned (.plain (OpenSpec.ofChange compileBackSpec)) compileBackCard

/-- THE TIED CARD OF 'gazetteerlaw13.CompileWords'. -/
def compileWordsCard : Claim7 := { stood := { row := compileWordsRow, standIns := [], harness := (true, "6dfb46c2d212e92cb3562626549baaf5fb76485e0a7e3a0ac96a9c4464a99370"), looks := true }, kinds := [], alts := [], laidByText := true, laidKinds := [.data, .data, .data, .sentinel, .sentinel], laidTests := true, laidLooks := .later }
def CompileWordsCardSaid : Prop := Claim7.holds Tryz.pinned (.plain (OpenSpec.ofChange compileWordsSpec)) compileWordsCard

/-- THE TIED CARD OF 'gazetteerlaw13.CompileSame'. -/
def compileSameCard : Claim7 := { stood := { row := compileSameRow, standIns := [], harness := (true, "6dfb46c2d212e92cb3562626549baaf5fb76485e0a7e3a0ac96a9c4464a99370"), looks := true }, kinds := [], alts := [], laidByText := true, laidKinds := [.data, .data, .data, .sentinel, .sentinel], laidTests := true, laidLooks := .later }
def CompileSameCardSaid : Prop := Claim7.holds Tryz.pinned (.plain (OpenSpec.ofChange compileSameSpec)) compileSameCard

/-- THE TIED CARD OF 'gazetteerlaw13.CompileTrimmed'. -/
def compileTrimmedCard : Claim7 := { stood := { row := compileTrimmedRow, standIns := [], harness := (true, "6dfb46c2d212e92cb3562626549baaf5fb76485e0a7e3a0ac96a9c4464a99370"), looks := true }, kinds := [], alts := [], laidByText := true, laidKinds := [.data, .data, .data, .sentinel, .sentinel], laidTests := true, laidLooks := .later }
def CompileTrimmedCardSaid : Prop := Claim7.holds Tryz.pinned (.plain (OpenSpec.ofChange compileTrimmedSpec)) compileTrimmedCard

/-- THE SECOND FORM's CARD OF 'gazetteerlaw13.CompileMatchesReference'. -/
def compileMatchesReferenceUptoCard : Claim7 := { stood := { row := compileMatchesReferenceUptoRow, standIns := [], harness := (true, "6dfb46c2d212e92cb3562626549baaf5fb76485e0a7e3a0ac96a9c4464a99370"), looks := true }, kinds := [], alts := [], laidByText := true, laidKinds := [.data, .data, .data, .sentinel, .sentinel], laidTests := true, laidLooks := .later }
def CompileMatchesReferenceUptoCardSaid : Prop := Claim7.holds Tryz.pinned (.plain (OpenSpec.upto compileMatchesReferenceSpec)) compileMatchesReferenceUptoCard

/-- THE SECOND FORM's CARD OF 'gazetteerlaw13.CompileMore'. -/
def compileMoreUptoCard : Claim7 := { stood := { row := compileMoreUptoRow, standIns := [], harness := (true, "6dfb46c2d212e92cb3562626549baaf5fb76485e0a7e3a0ac96a9c4464a99370"), looks := true }, kinds := [], alts := [], laidByText := true, laidKinds := [.data, .data, .data, .sentinel, .sentinel], laidTests := true, laidLooks := .later }
def CompileMoreUptoCardSaid : Prop := Claim7.holds Tryz.pinned (.plain (OpenSpec.upto compileMoreSpec)) compileMoreUptoCard

/-- THE SECOND FORM's CARD OF 'gazetteerlaw13.CompileParts'. -/
def compilePartsUptoCard : Claim7 := { stood := { row := compilePartsUptoRow, standIns := [], harness := (true, "6dfb46c2d212e92cb3562626549baaf5fb76485e0a7e3a0ac96a9c4464a99370"), looks := true }, kinds := [], alts := [], laidByText := true, laidKinds := [.data, .data, .data, .sentinel, .sentinel], laidTests := true, laidLooks := .later }
def CompilePartsUptoCardSaid : Prop := Claim7.holds Tryz.pinned (.plain (OpenSpec.upto compilePartsSpec)) compilePartsUptoCard

/-- THE SECOND FORM's CARD OF 'gazetteerlaw13.CompileBack'. -/
def compileBackUptoCard : Claim7 := { stood := { row := compileBackUptoRow, standIns := [], harness := (true, "6dfb46c2d212e92cb3562626549baaf5fb76485e0a7e3a0ac96a9c4464a99370"), looks := true }, kinds := [], alts := [], laidByText := true, laidKinds := [.data, .data, .data, .sentinel, .sentinel], laidTests := true, laidLooks := .later }
def CompileBackUptoCardSaid : Prop := Claim7.holds Tryz.pinned (.plain (OpenSpec.upto compileBackSpec)) compileBackUptoCard

/-- THE SECOND FORM's CARD OF 'gazetteerlaw13.CompileWords'. -/
def compileWordsUptoCard : Claim7 := { stood := { row := compileWordsUptoRow, standIns := [], harness := (true, "6dfb46c2d212e92cb3562626549baaf5fb76485e0a7e3a0ac96a9c4464a99370"), looks := true }, kinds := [], alts := [], laidByText := true, laidKinds := [.data, .data, .data, .sentinel, .sentinel], laidTests := true, laidLooks := .later }
def CompileWordsUptoCardSaid : Prop := Claim7.holds Tryz.pinned (.plain (OpenSpec.upto compileWordsSpec)) compileWordsUptoCard

/-- THE SECOND FORM's CARD OF 'gazetteerlaw13.CompileSame'. -/
def compileSameUptoCard : Claim7 := { stood := { row := compileSameUptoRow, standIns := [], harness := (true, "6dfb46c2d212e92cb3562626549baaf5fb76485e0a7e3a0ac96a9c4464a99370"), looks := true }, kinds := [], alts := [], laidByText := true, laidKinds := [.data, .data, .data, .sentinel, .sentinel], laidTests := true, laidLooks := .later }
def CompileSameUptoCardSaid : Prop := Claim7.holds Tryz.pinned (.plain (OpenSpec.upto compileSameSpec)) compileSameUptoCard

/-- THE SECOND FORM's CARD OF 'gazetteerlaw13.CompileTrimmed'. -/
def compileTrimmedUptoCard : Claim7 := { stood := { row := compileTrimmedUptoRow, standIns := [], harness := (true, "6dfb46c2d212e92cb3562626549baaf5fb76485e0a7e3a0ac96a9c4464a99370"), looks := true }, kinds := [], alts := [], laidByText := true, laidKinds := [.data, .data, .data, .sentinel, .sentinel], laidTests := true, laidLooks := .later }
def CompileTrimmedUptoCardSaid : Prop := Claim7.holds Tryz.pinned (.plain (OpenSpec.upto compileTrimmedSpec)) compileTrimmedUptoCard
end Rows
end Go.Proofs.YtielbaaaipkbdaaGreatDoor
