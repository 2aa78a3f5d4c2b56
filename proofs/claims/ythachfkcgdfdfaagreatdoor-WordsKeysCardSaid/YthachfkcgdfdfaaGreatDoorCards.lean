/-
  DERIVED. GIVEN WITH THE SEED: THE CARDS: each row of YthachfkcgdfdfaaGreatDoorRows.lean that lists a variable, with what it lists TIED to the program's text (the seventh form; the later family's looks); each row that meets fmt, with fmt's text TOLD by the authors' own Lean function (tested against real Go, not proved from fmt's source: count such statements apart). THE CARD IS WHAT COUNTS. Prove the row's statement (the work); the ties are given (YthachfkcgdfdfaaGreatDoorTie.lean); close each card by the builder's one call (the guide's Derived/Test/ToyasCard.lean, 'card_holds'). Laid BY PROGRAM, IN A SANDBOX (cutbox-door.mjs). By AI agents, Wed Nov 11 2026. No macro, syntax, notation, axiom, sorry.
-/
import Derived.Test.YthachfkcgdfdfaaGreatDoorRows
import GoSem.ClaimSeven
namespace Go.Proofs.YthachfkcgdfdfaaGreatDoor
namespace Rows

/-- THE TIED CARD OF 'gazetteerlaw17.WordsMatchesReference'. -/
def wordsMatchesReferenceCard : Claim7 := { stood := { row := wordsMatchesReferenceRow, standIns := [], harness := (true, "f468916f57224351ca93947f8cd3f0c32ec214dca5c773733b5631006feae016"), looks := true }, kinds := [], alts := [], laidByText := true, laidKinds := [.data, .data, .data, .data, .sentinel, .sentinel, .pinned], laidTests := true, laidLooks := .later }
def WordsMatchesReferenceCardSaid : Prop := Claim7.holds Tryz.pinned (.plain (OpenSpec.ofChange wordsMatchesReferenceSpec)) wordsMatchesReferenceCard

/-- THE TIED CARD OF 'gazetteerlaw17.WordsSplit'. -/
def wordsSplitCard : Claim7 := { stood := { row := wordsSplitRow, standIns := [], harness := (true, "f468916f57224351ca93947f8cd3f0c32ec214dca5c773733b5631006feae016"), looks := true }, kinds := [], alts := [], laidByText := true, laidKinds := [.data, .data, .data, .data, .sentinel, .sentinel, .pinned], laidTests := true, laidLooks := .later }
def WordsSplitCardSaid : Prop := Claim7.holds Tryz.pinned (.plain (OpenSpec.ofChange wordsSplitSpec)) wordsSplitCard

/-- THE TIED CARD OF 'gazetteerlaw17.WordsKeys'. -/
def wordsKeysCard : Claim7 := { stood := { row := wordsKeysRow, standIns := [], harness := (true, "f468916f57224351ca93947f8cd3f0c32ec214dca5c773733b5631006feae016"), looks := true }, kinds := [], alts := [], laidByText := true, laidKinds := [.data, .data, .data, .data, .sentinel, .sentinel, .pinned], laidTests := true, laidLooks := .later }
def WordsKeysCardSaid : Prop := Claim7.holds Tryz.pinned (.plain (OpenSpec.ofChange wordsKeysSpec)) wordsKeysCard

/-- THE TIED CARD OF 'gazetteerlaw17.WordsSpell'. -/
def wordsSpellCard : Claim7 := { stood := { row := wordsSpellRow, standIns := [], harness := (true, "f468916f57224351ca93947f8cd3f0c32ec214dca5c773733b5631006feae016"), looks := true }, kinds := [], alts := [], laidByText := true, laidKinds := [.data, .data, .data, .data, .sentinel, .sentinel, .pinned], laidTests := true, laidLooks := .later }
def WordsSpellCardSaid : Prop := Claim7.holds Tryz.pinned (.plain (OpenSpec.ofChange wordsSpellSpec)) wordsSpellCard

/-- THE TIED CARD OF 'gazetteerlaw17.WordsMore'. -/
def wordsMoreCard : Claim7 := { stood := { row := wordsMoreRow, standIns := [], harness := (true, "f468916f57224351ca93947f8cd3f0c32ec214dca5c773733b5631006feae016"), looks := true }, kinds := [], alts := [], laidByText := true, laidKinds := [.data, .data, .data, .data, .sentinel, .sentinel, .pinned], laidTests := true, laidLooks := .later }
def WordsMoreCardSaid : Prop := Claim7.holds Tryz.pinned (.plain (OpenSpec.ofChange wordsMoreSpec)) wordsMoreCard

/-- THE TIED CARD OF 'gazetteerlaw17.WordsJoin'. -/
def wordsJoinCard : Claim7 := { stood := { row := wordsJoinRow, standIns := [], harness := (true, "f468916f57224351ca93947f8cd3f0c32ec214dca5c773733b5631006feae016"), looks := true }, kinds := [], alts := [], laidByText := true, laidKinds := [.data, .data, .data, .data, .sentinel, .sentinel, .pinned], laidTests := true, laidLooks := .later }
def WordsJoinCardSaid : Prop := Claim7.holds Tryz.pinned (.plain (OpenSpec.ofChange wordsJoinSpec)) wordsJoinCard

/-- THE SECOND FORM's CARD OF 'gazetteerlaw17.WordsMatchesReference'. -/
def wordsMatchesReferenceUptoCard : Claim7 := { stood := { row := wordsMatchesReferenceUptoRow, standIns := [], harness := (true, "f468916f57224351ca93947f8cd3f0c32ec214dca5c773733b5631006feae016"), looks := true }, kinds := [], alts := [], laidByText := true, laidKinds := [.data, .data, .data, .data, .sentinel, .sentinel, .pinned], laidTests := true, laidLooks := .later }
def WordsMatchesReferenceUptoCardSaid : Prop := Claim7.holds Tryz.pinned (.plain (OpenSpec.upto wordsMatchesReferenceSpec)) wordsMatchesReferenceUptoCard

/-- THE SECOND FORM's CARD OF 'gazetteerlaw17.WordsSplit'. -/
def wordsSplitUptoCard : Claim7 := { stood := { row := wordsSplitUptoRow, standIns := [], harness := (true, "f468916f57224351ca93947f8cd3f0c32ec214dca5c773733b5631006feae016"), looks := true }, kinds := [], alts := [], laidByText := true, laidKinds := [.data, .data, .data, .data, .sentinel, .sentinel, .pinned], laidTests := true, laidLooks := .later }
def WordsSplitUptoCardSaid : Prop := Claim7.holds Tryz.pinned (.plain (OpenSpec.upto wordsSplitSpec)) wordsSplitUptoCard

/-- THE SECOND FORM's CARD OF 'gazetteerlaw17.WordsKeys'. -/
def wordsKeysUptoCard : Claim7 := { stood := { row := wordsKeysUptoRow, standIns := [], harness := (true, "f468916f57224351ca93947f8cd3f0c32ec214dca5c773733b5631006feae016"), looks := true }, kinds := [], alts := [], laidByText := true, laidKinds := [.data, .data, .data, .data, .sentinel, .sentinel, .pinned], laidTests := true, laidLooks := .later }
def WordsKeysUptoCardSaid : Prop := Claim7.holds Tryz.pinned (.plain (OpenSpec.upto wordsKeysSpec)) wordsKeysUptoCard

/-- THE SECOND FORM's CARD OF 'gazetteerlaw17.WordsSpell'. -/
def wordsSpellUptoCard : Claim7 := { stood := { row := wordsSpellUptoRow, standIns := [], harness := (true, "f468916f57224351ca93947f8cd3f0c32ec214dca5c773733b5631006feae016"), looks := true }, kinds := [], alts := [], laidByText := true, laidKinds := [.data, .data, .data, .data, .sentinel, .sentinel, .pinned], laidTests := true, laidLooks := .later }
def WordsSpellUptoCardSaid : Prop := Claim7.holds Tryz.pinned (.plain (OpenSpec.upto wordsSpellSpec)) wordsSpellUptoCard

/-- THE SECOND FORM's CARD OF 'gazetteerlaw17.WordsMore'. -/
def wordsMoreUptoCard : Claim7 := { stood := { row := wordsMoreUptoRow, standIns := [], harness := (true, "f468916f57224351ca93947f8cd3f0c32ec214dca5c773733b5631006feae016"), looks := true }, kinds := [], alts := [], laidByText := true, laidKinds := [.data, .data, .data, .data, .sentinel, .sentinel, .pinned], laidTests := true, laidLooks := .later }
def WordsMoreUptoCardSaid : Prop := Claim7.holds Tryz.pinned (.plain (OpenSpec.upto wordsMoreSpec)) wordsMoreUptoCard

/-- THE SECOND FORM's CARD OF 'gazetteerlaw17.WordsJoin'. -/
def wordsJoinUptoCard : Claim7 := { stood := { row := wordsJoinUptoRow, standIns := [], harness := (true, "f468916f57224351ca93947f8cd3f0c32ec214dca5c773733b5631006feae016"), looks := true }, kinds := [], alts := [], laidByText := true, laidKinds := [.data, .data, .data, .data, .sentinel, .sentinel, .pinned], laidTests := true, laidLooks := .later }
def WordsJoinUptoCardSaid : Prop := Claim7.holds Tryz.pinned (.plain (OpenSpec.upto wordsJoinSpec)) wordsJoinUptoCard
end Rows
end Go.Proofs.YthachfkcgdfdfaaGreatDoor
