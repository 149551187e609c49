/-
  DERIVED. GIVEN WITH THE SEED: THE CARDS: each row of YtldccffbjohokaaDoorRows.lean that lists a variable, with what it lists TIED to the program's text (the seventh form; the later family's looks); each row that meets fmt, with fmt's text TOLD by the authors' own Lean function (tested against real Go, not proved from fmt's source: count such statements apart). THE CARD IS WHAT COUNTS. Prove the row's statement (the work); the ties are given (YtldccffbjohokaaDoorTie.lean); close each card by the builder's one call (the guide's Derived/Test/ToyasCard.lean, 'card_holds'). Laid BY PROGRAM, IN A SANDBOX (cutbox-door.mjs). By AI agents, Wed Nov 11 2026. No macro, syntax, notation, axiom, sorry.
-/
import Derived.Test.YtldccffbjohokaaDoorRows
import GoSem.ClaimSeven
namespace Go.Proofs.YtldccffbjohokaaDoor
namespace Rows

/-- THE TIED CARD OF 'bookendlaw02.KeysNexts'. -/
def keysNextsCard : Claim7 := { stood := { row := keysNextsRow, standIns := [], harness := (true, "c5ef42a251ff20f245ee235b1e009f7636a6d7d61d205e4d976f154dbc201f74"), looks := false }, kinds := [], alts := [], laidByText := true, laidKinds := [.data, .pinned], laidTests := true, laidLooks := .later }
def KeysNextsCardSaid : Prop := Claim7.holds Tryd.pinned (.plain (OpenSpec.ofChange keysNextsSpec)) keysNextsCard

/-- THE TIED CARD OF 'bookendlaw02.KeysOrders'. -/
def keysOrdersCard : Claim7 := { stood := { row := keysOrdersRow, standIns := [], harness := (true, "c5ef42a251ff20f245ee235b1e009f7636a6d7d61d205e4d976f154dbc201f74"), looks := false }, kinds := [], alts := [], laidByText := true, laidKinds := [.data, .pinned], laidTests := true, laidLooks := .later }
def KeysOrdersCardSaid : Prop := Claim7.holds Tryd.pinned (.plain (OpenSpec.ofChange keysOrdersSpec)) keysOrdersCard

/-- THE TIED CARD OF 'bookendlaw02.KeysLeast'. -/
def keysLeastCard : Claim7 := { stood := { row := keysLeastRow, standIns := [], harness := (true, "c5ef42a251ff20f245ee235b1e009f7636a6d7d61d205e4d976f154dbc201f74"), looks := false }, kinds := [], alts := [], laidByText := true, laidKinds := [.data, .pinned], laidTests := true, laidLooks := .later }
def KeysLeastCardSaid : Prop := Claim7.holds Tryd.pinned (.plain (OpenSpec.ofChange keysLeastSpec)) keysLeastCard

/-- THE TIED CARD OF 'bookendlaw02.KeysSorted'. -/
def keysSortedCard : Claim7 := { stood := { row := keysSortedRow, standIns := [], harness := (true, "c5ef42a251ff20f245ee235b1e009f7636a6d7d61d205e4d976f154dbc201f74"), looks := false }, kinds := [], alts := [], laidByText := true, laidKinds := [.data, .pinned], laidTests := true, laidLooks := .later }
def KeysSortedCardSaid : Prop := Claim7.holds Tryd.pinned (.plain (OpenSpec.ofChange keysSortedSpec)) keysSortedCard

/-- THE TIED CARD OF 'bookendlaw02.KeysTexts'. -/
def keysTextsCard : Claim7 := { stood := { row := keysTextsRow, standIns := [], harness := (true, "c5ef42a251ff20f245ee235b1e009f7636a6d7d61d205e4d976f154dbc201f74"), looks := false }, kinds := [], alts := [], laidByText := true, laidKinds := [.data, .pinned], laidTests := true, laidLooks := .later }
def KeysTextsCardSaid : Prop := Claim7.holds Tryd.pinned (.plain (OpenSpec.ofChange keysTextsSpec)) keysTextsCard

/-- THE TIED CARD OF 'bookendlaw02.KeysRanges'. -/
def keysRangesCard : Claim7 := { stood := { row := keysRangesRow, standIns := [], harness := (true, "c5ef42a251ff20f245ee235b1e009f7636a6d7d61d205e4d976f154dbc201f74"), looks := false }, kinds := [], alts := [], laidByText := true, laidKinds := [.data, .pinned], laidTests := true, laidLooks := .later }
def KeysRangesCardSaid : Prop := Claim7.holds Tryd.pinned (.plain (OpenSpec.ofChange keysRangesSpec)) keysRangesCard

/-- THE TIED CARD OF 'bookendlaw02.KeysMeets'. -/
def keysMeetsCard : Claim7 := { stood := { row := keysMeetsRow, standIns := [], harness := (true, "c5ef42a251ff20f245ee235b1e009f7636a6d7d61d205e4d976f154dbc201f74"), looks := false }, kinds := [], alts := [], laidByText := true, laidKinds := [.data, .pinned], laidTests := true, laidLooks := .later }
def KeysMeetsCardSaid : Prop := Claim7.holds Tryd.pinned (.plain (OpenSpec.ofChange keysMeetsSpec)) keysMeetsCard

/-- THE TIED CARD OF 'bookendlaw02.KeysKnown'. -/
def keysKnownCard : Claim7 := { stood := { row := keysKnownRow, standIns := [], harness := (true, "c5ef42a251ff20f245ee235b1e009f7636a6d7d61d205e4d976f154dbc201f74"), looks := false }, kinds := [], alts := [], laidByText := true, laidKinds := [.data, .pinned], laidTests := true, laidLooks := .later }
def KeysKnownCardSaid : Prop := Claim7.holds Tryd.pinned (.plain (OpenSpec.ofChange keysKnownSpec)) keysKnownCard

/-- THE SECOND FORM's CARD OF 'bookendlaw02.KeysNexts'. -/
def keysNextsUptoCard : Claim7 := { stood := { row := keysNextsUptoRow, standIns := [], harness := (true, "c5ef42a251ff20f245ee235b1e009f7636a6d7d61d205e4d976f154dbc201f74"), looks := false }, kinds := [], alts := [], laidByText := true, laidKinds := [.data, .pinned], laidTests := true, laidLooks := .later }
def KeysNextsUptoCardSaid : Prop := Claim7.holds Tryd.pinned (.plain (OpenSpec.upto keysNextsSpec)) keysNextsUptoCard

/-- THE SECOND FORM's CARD OF 'bookendlaw02.KeysOrders'. -/
def keysOrdersUptoCard : Claim7 := { stood := { row := keysOrdersUptoRow, standIns := [], harness := (true, "c5ef42a251ff20f245ee235b1e009f7636a6d7d61d205e4d976f154dbc201f74"), looks := false }, kinds := [], alts := [], laidByText := true, laidKinds := [.data, .pinned], laidTests := true, laidLooks := .later }
def KeysOrdersUptoCardSaid : Prop := Claim7.holds Tryd.pinned (.plain (OpenSpec.upto keysOrdersSpec)) keysOrdersUptoCard

/-- THE SECOND FORM's CARD OF 'bookendlaw02.KeysLeast'. -/
def keysLeastUptoCard : Claim7 := { stood := { row := keysLeastUptoRow, standIns := [], harness := (true, "c5ef42a251ff20f245ee235b1e009f7636a6d7d61d205e4d976f154dbc201f74"), looks := false }, kinds := [], alts := [], laidByText := true, laidKinds := [.data, .pinned], laidTests := true, laidLooks := .later }
def KeysLeastUptoCardSaid : Prop := Claim7.holds Tryd.pinned (.plain (OpenSpec.upto keysLeastSpec)) keysLeastUptoCard

/-- THE SECOND FORM's CARD OF 'bookendlaw02.KeysSorted'. -/
def keysSortedUptoCard : Claim7 := { stood := { row := keysSortedUptoRow, standIns := [], harness := (true, "c5ef42a251ff20f245ee235b1e009f7636a6d7d61d205e4d976f154dbc201f74"), looks := false }, kinds := [], alts := [], laidByText := true, laidKinds := [.data, .pinned], laidTests := true, laidLooks := .later }
def KeysSortedUptoCardSaid : Prop := Claim7.holds Tryd.pinned (.plain (OpenSpec.upto keysSortedSpec)) keysSortedUptoCard

/-- THE SECOND FORM's CARD OF 'bookendlaw02.KeysTexts'. -/
def keysTextsUptoCard : Claim7 := { stood := { row := keysTextsUptoRow, standIns := [], harness := (true, "c5ef42a251ff20f245ee235b1e009f7636a6d7d61d205e4d976f154dbc201f74"), looks := false }, kinds := [], alts := [], laidByText := true, laidKinds := [.data, .pinned], laidTests := true, laidLooks := .later }
def KeysTextsUptoCardSaid : Prop := Claim7.holds Tryd.pinned (.plain (OpenSpec.upto keysTextsSpec)) keysTextsUptoCard

/-- THE SECOND FORM's CARD OF 'bookendlaw02.KeysRanges'. -/
def keysRangesUptoCard : Claim7 := { stood := { row := keysRangesUptoRow, standIns := [], harness := (true, "c5ef42a251ff20f245ee235b1e009f7636a6d7d61d205e4d976f154dbc201f74"), looks := false }, kinds := [], alts := [], laidByText := true, laidKinds := [.data, .pinned], laidTests := true, laidLooks := .later }
def KeysRangesUptoCardSaid : Prop := Claim7.holds Tryd.pinned (.plain (OpenSpec.upto keysRangesSpec)) keysRangesUptoCard

/-- THE SECOND FORM's CARD OF 'bookendlaw02.KeysMeets'. -/
def keysMeetsUptoCard : Claim7 := { stood := { row := keysMeetsUptoRow, standIns := [], harness := (true, "c5ef42a251ff20f245ee235b1e009f7636a6d7d61d205e4d976f154dbc201f74"), looks := false }, kinds := [], alts := [], laidByText := true, laidKinds := [.data, .pinned], laidTests := true, laidLooks := .later }
def KeysMeetsUptoCardSaid : Prop := Claim7.holds Tryd.pinned (.plain (OpenSpec.upto keysMeetsSpec)) keysMeetsUptoCard

/-- THE SECOND FORM's CARD OF 'bookendlaw02.KeysKnown'. -/
def keysKnownUptoCard : Claim7 := { stood := { row := keysKnownUptoRow, standIns := [], harness := (true, "c5ef42a251ff20f245ee235b1e009f7636a6d7d61d205e4d976f154dbc201f74"), looks := false }, kinds := [], alts := [], laidByText := true, laidKinds := [.data, .pinned], laidTests := true, laidLooks := .later }
def KeysKnownUptoCardSaid : Prop := Claim7.holds Tryd.pinned (.plain (OpenSpec.upto keysKnownSpec)) keysKnownUptoCard
end Rows
end Go.Proofs.YtldccffbjohokaaDoor
