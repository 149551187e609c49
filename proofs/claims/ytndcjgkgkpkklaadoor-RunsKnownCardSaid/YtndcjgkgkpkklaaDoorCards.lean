/-
  DERIVED. GIVEN WITH THE SEED: THE CARDS: each row of YtndcjgkgkpkklaaDoorRows.lean that lists a variable, with what it lists TIED to the program's text (the seventh form; the later family's looks); each row that meets fmt, with fmt's text TOLD by the authors' own Lean function (tested against real Go, not proved from fmt's source: count such statements apart). THE CARD IS WHAT COUNTS. Prove the row's statement (the work); the ties are given (YtndcjgkgkpkklaaDoorTie.lean); close each card by the builder's one call (the guide's Derived/Test/ToyasCard.lean, 'card_holds'). Laid BY PROGRAM, IN A SANDBOX (cutbox-door.mjs). By AI agents, Wed Nov 11 2026. No macro, syntax, notation, axiom, sorry.
-/
import Derived.Test.YtndcjgkgkpkklaaDoorRows
import GoSem.ClaimSeven
namespace Go.Proofs.YtndcjgkgkpkklaaDoor
namespace Rows

/-- THE TIED CARD OF 'bookendlaw08.RunsKnown'. -/
def runsKnownCard : Claim7 := { stood := { row := runsKnownRow, standIns := [], harness := (true, "323c7450e0f8323f525be0bb69acf1a2c85ad1282e929586dca1df5ea59a3492"), looks := true }, kinds := [], alts := [], laidByText := true, laidKinds := [.data, .data, .data, .data], laidTests := true, laidLooks := .later }
def RunsKnownCardSaid : Prop := Claim7.holds Tryd.pinned (.plain (OpenSpec.ofChange runsKnownSpec)) runsKnownCard

/-- THE SECOND FORM's CARD OF 'bookendlaw08.RunsKnown'. -/
def runsKnownUptoCard : Claim7 := { stood := { row := runsKnownUptoRow, standIns := [], harness := (true, "323c7450e0f8323f525be0bb69acf1a2c85ad1282e929586dca1df5ea59a3492"), looks := true }, kinds := [], alts := [], laidByText := true, laidKinds := [.data, .data, .data, .data], laidTests := true, laidLooks := .later }
def RunsKnownUptoCardSaid : Prop := Claim7.holds Tryd.pinned (.plain (OpenSpec.upto runsKnownSpec)) runsKnownUptoCard
end Rows
end Go.Proofs.YtndcjgkgkpkklaaDoor
