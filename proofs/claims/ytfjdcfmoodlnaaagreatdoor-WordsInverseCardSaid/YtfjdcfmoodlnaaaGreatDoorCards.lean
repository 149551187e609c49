/-
  DERIVED. GIVEN WITH THE SEED: THE CARDS: each row of YtfjdcfmoodlnaaaGreatDoorRows.lean that lists a variable, with what it lists TIED to the program's text (the seventh form; the later family's looks); each row that meets fmt, with fmt's text TOLD by the authors' own Lean function (tested against real Go, not proved from fmt's source: count such statements apart). THE CARD IS WHAT COUNTS. Prove the row's statement (the work); the ties are given (YtfjdcfmoodlnaaaGreatDoorTie.lean); close each card by the builder's one call (the guide's Derived/Test/ToyasCard.lean, 'card_holds'). Laid BY PROGRAM, IN A SANDBOX (cutbox-door.mjs). By AI agents, Wed Nov 11 2026. No macro, syntax, notation, axiom, sorry.
-/
import Derived.Test.YtfjdcfmoodlnaaaGreatDoorRows
import GoSem.ClaimSeven
namespace Go.Proofs.YtfjdcfmoodlnaaaGreatDoor
namespace Rows

/-- THE TIED CARD OF 'bookendlaw01.WordsLists'. -/
def wordsListsCard : Claim7 := { stood := { row := wordsListsRow, standIns := [], harness := (true, "d1be62eed224ba0a1bf3830a299aab1a64dde10a4d7fa055a2347312c0c37d0d"), looks := true }, kinds := [], alts := [], laidByText := true, laidKinds := [.data, .data, .data, .data, .sentinel, .sentinel, .data, .pinned], laidTests := true, laidLooks := .later }
def WordsListsCardSaid : Prop := Claim7.holds Tryz.pinned (.plain (OpenSpec.ofChange wordsListsSpec)) wordsListsCard

/-- THE TIED CARD OF 'bookendlaw01.WordsKnown'. -/
def wordsKnownCard : Claim7 := { stood := { row := wordsKnownRow, standIns := [], harness := (true, "d1be62eed224ba0a1bf3830a299aab1a64dde10a4d7fa055a2347312c0c37d0d"), looks := true }, kinds := [], alts := [], laidByText := true, laidKinds := [.data, .data, .data, .data, .sentinel, .sentinel, .data, .pinned], laidTests := true, laidLooks := .later }
def WordsKnownCardSaid : Prop := Claim7.holds Tryz.pinned (.plain (OpenSpec.ofChange wordsKnownSpec)) wordsKnownCard

/-- THE TIED CARD OF 'bookendlaw01.WordsInverse'. -/
def wordsInverseCard : Claim7 := { stood := { row := wordsInverseRow, standIns := [], harness := (true, "d1be62eed224ba0a1bf3830a299aab1a64dde10a4d7fa055a2347312c0c37d0d"), looks := true }, kinds := [], alts := [], laidByText := true, laidKinds := [.data, .data, .data, .data, .sentinel, .sentinel, .data, .pinned], laidTests := true, laidLooks := .later }
def WordsInverseCardSaid : Prop := Claim7.holds Tryz.pinned (.plain (OpenSpec.ofChange wordsInverseSpec)) wordsInverseCard

/-- THE SECOND FORM's CARD OF 'bookendlaw01.WordsLists'. -/
def wordsListsUptoCard : Claim7 := { stood := { row := wordsListsUptoRow, standIns := [], harness := (true, "d1be62eed224ba0a1bf3830a299aab1a64dde10a4d7fa055a2347312c0c37d0d"), looks := true }, kinds := [], alts := [], laidByText := true, laidKinds := [.data, .data, .data, .data, .sentinel, .sentinel, .data, .pinned], laidTests := true, laidLooks := .later }
def WordsListsUptoCardSaid : Prop := Claim7.holds Tryz.pinned (.plain (OpenSpec.upto wordsListsSpec)) wordsListsUptoCard

/-- THE SECOND FORM's CARD OF 'bookendlaw01.WordsKnown'. -/
def wordsKnownUptoCard : Claim7 := { stood := { row := wordsKnownUptoRow, standIns := [], harness := (true, "d1be62eed224ba0a1bf3830a299aab1a64dde10a4d7fa055a2347312c0c37d0d"), looks := true }, kinds := [], alts := [], laidByText := true, laidKinds := [.data, .data, .data, .data, .sentinel, .sentinel, .data, .pinned], laidTests := true, laidLooks := .later }
def WordsKnownUptoCardSaid : Prop := Claim7.holds Tryz.pinned (.plain (OpenSpec.upto wordsKnownSpec)) wordsKnownUptoCard

/-- THE SECOND FORM's CARD OF 'bookendlaw01.WordsInverse'. -/
def wordsInverseUptoCard : Claim7 := { stood := { row := wordsInverseUptoRow, standIns := [], harness := (true, "d1be62eed224ba0a1bf3830a299aab1a64dde10a4d7fa055a2347312c0c37d0d"), looks := true }, kinds := [], alts := [], laidByText := true, laidKinds := [.data, .data, .data, .data, .sentinel, .sentinel, .data, .pinned], laidTests := true, laidLooks := .later }
def WordsInverseUptoCardSaid : Prop := Claim7.holds Tryz.pinned (.plain (OpenSpec.upto wordsInverseSpec)) wordsInverseUptoCard
end Rows
end Go.Proofs.YtfjdcfmoodlnaaaGreatDoor
