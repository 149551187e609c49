/-
  DERIVED. GIVEN WITH THE SEED: THE CARDS: each row of YtidclkojekodpaaGreatDoorRows.lean that lists a variable, with what it lists TIED to the program's text (the seventh form; the later family's looks); each row that meets fmt, with fmt's text TOLD by the authors' own Lean function (tested against real Go, not proved from fmt's source: count such statements apart). THE CARD IS WHAT COUNTS. Prove the row's statement (the work); the ties are given (YtidclkojekodpaaGreatDoorTie.lean); close each card by the builder's one call (the guide's Derived/Test/ToyasCard.lean, 'card_holds'). Laid BY PROGRAM, IN A SANDBOX (cutbox-door.mjs). By AI agents, Wed Nov 11 2026. No macro, syntax, notation, axiom, sorry.
-/
import Derived.Test.YtidclkojekodpaaGreatDoorRows
import GoSem.ClaimSeven
namespace Go.Proofs.YtidclkojekodpaaGreatDoor
namespace Rows

/-- THE TIED CARD OF 'bookendlaw23.HandlesTexts'. -/
def handlesTextsCard : Claim7 := { stood := { row := handlesTextsRow, standIns := [], harness := (true, "8c8ecef8d7c683fed497f64a9ad64a23dcaa9634183d34d57671aa6f529a87c9"), looks := true }, kinds := [], alts := [], laidByText := true, laidKinds := [.data, .data, .data, .data, .sentinel, .sentinel, .data, .pinned], laidTests := true, laidLooks := .later }
def HandlesTextsCardSaid : Prop := Claim7.holds Tryz.pinned (.plain (OpenSpec.ofChange handlesTextsSpec)) handlesTextsCard

/-- THE SECOND FORM's CARD OF 'bookendlaw23.HandlesTexts'. -/
def handlesTextsUptoCard : Claim7 := { stood := { row := handlesTextsUptoRow, standIns := [], harness := (true, "8c8ecef8d7c683fed497f64a9ad64a23dcaa9634183d34d57671aa6f529a87c9"), looks := true }, kinds := [], alts := [], laidByText := true, laidKinds := [.data, .data, .data, .data, .sentinel, .sentinel, .data, .pinned], laidTests := true, laidLooks := .later }
def HandlesTextsUptoCardSaid : Prop := Claim7.holds Tryz.pinned (.plain (OpenSpec.upto handlesTextsSpec)) handlesTextsUptoCard
end Rows
end Go.Proofs.YtidclkojekodpaaGreatDoor
