/-
  DERIVED. GIVEN WITH THE SEED: THE CARDS: each row of YtkbfjficmdgjpaaGreatDoorRows.lean that lists a variable, with what it lists TIED to the program's text (the seventh form; the later family's looks); each row that meets fmt, with fmt's text TOLD by the authors' own Lean function (tested against real Go, not proved from fmt's source: count such statements apart). THE CARD IS WHAT COUNTS. Prove the row's statement (the work); the ties are given (YtkbfjficmdgjpaaGreatDoorTie.lean); close each card by the builder's one call (the guide's Derived/Test/ToyasCard.lean, 'card_holds'). Laid BY PROGRAM, IN A SANDBOX (cutbox-door.mjs). By AI agents, Wed Nov 11 2026. No macro, syntax, notation, axiom, sorry.
-/
import Derived.Test.YtkbfjficmdgjpaaGreatDoorRows
import GoSem.ClaimSeven
namespace Go.Proofs.YtkbfjficmdgjpaaGreatDoor
namespace Rows

/-- THE TIED CARD OF 'bookendlaw08.RunsTexts'. -/
def runsTextsCard : Claim7 := { stood := { row := runsTextsRow, standIns := [], harness := (true, "19089ab7b5b4fb9b8cd2a28ced83197c8958882106369579b673b10032117b00"), looks := true }, kinds := [], alts := [], laidByText := true, laidKinds := [.data, .data, .data, .data, .sentinel, .sentinel, .data, .pinned], laidTests := true, laidLooks := .later }
def RunsTextsCardSaid : Prop := Claim7.holds Tryz.pinned (.plain (OpenSpec.ofChange runsTextsSpec)) runsTextsCard

/-- THE SECOND FORM's CARD OF 'bookendlaw08.RunsTexts'. -/
def runsTextsUptoCard : Claim7 := { stood := { row := runsTextsUptoRow, standIns := [], harness := (true, "19089ab7b5b4fb9b8cd2a28ced83197c8958882106369579b673b10032117b00"), looks := true }, kinds := [], alts := [], laidByText := true, laidKinds := [.data, .data, .data, .data, .sentinel, .sentinel, .data, .pinned], laidTests := true, laidLooks := .later }
def RunsTextsUptoCardSaid : Prop := Claim7.holds Tryz.pinned (.plain (OpenSpec.upto runsTextsSpec)) runsTextsUptoCard
end Rows
end Go.Proofs.YtkbfjficmdgjpaaGreatDoor
