/-
  DERIVED. GIVEN WITH THE SEED: THE CARDS: each row of YtcgpkcaaojkpcaaGreatDoorRows.lean that lists a variable, with what it lists TIED to the program's text (the seventh form; the later family's looks); each row that meets fmt, with fmt's text TOLD by the authors' own Lean function (tested against real Go, not proved from fmt's source: count such statements apart). THE CARD IS WHAT COUNTS. Prove the row's statement (the work); the ties are given (YtcgpkcaaojkpcaaGreatDoorTie.lean); close each card by the builder's one call (the guide's Derived/Test/ToyasCard.lean, 'card_holds'). Laid BY PROGRAM, IN A SANDBOX (cutbox-door.mjs). By AI agents, Wed Nov 11 2026. No macro, syntax, notation, axiom, sorry.
-/
import Derived.Test.YtcgpkcaaojkpcaaGreatDoorRows
import GoSem.ClaimSeven
namespace Go.Proofs.YtcgpkcaaojkpcaaGreatDoor
namespace Rows

/-- THE TIED CARD OF 'bookendlaw03.EntriesTexts'. -/
def entriesTextsCard : Claim7 := { stood := { row := entriesTextsRow, standIns := [], harness := (true, "9a1ab977502031446f11539c7c92c4a1adc7c99be7f4700fbb70d63d3510c557"), looks := true }, kinds := [], alts := [], laidByText := true, laidKinds := [.data, .data, .data, .data, .sentinel, .sentinel, .data, .pinned], laidTests := true, laidLooks := .later }
def EntriesTextsCardSaid : Prop := Claim7.holds Tryz.pinned (.plain (OpenSpec.ofChange entriesTextsSpec)) entriesTextsCard

/-- THE SECOND FORM's CARD OF 'bookendlaw03.EntriesTexts'. -/
def entriesTextsUptoCard : Claim7 := { stood := { row := entriesTextsUptoRow, standIns := [], harness := (true, "9a1ab977502031446f11539c7c92c4a1adc7c99be7f4700fbb70d63d3510c557"), looks := true }, kinds := [], alts := [], laidByText := true, laidKinds := [.data, .data, .data, .data, .sentinel, .sentinel, .data, .pinned], laidTests := true, laidLooks := .later }
def EntriesTextsUptoCardSaid : Prop := Claim7.holds Tryz.pinned (.plain (OpenSpec.upto entriesTextsSpec)) entriesTextsUptoCard
end Rows
end Go.Proofs.YtcgpkcaaojkpcaaGreatDoor
