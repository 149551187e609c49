/-
  DERIVED. GIVEN WITH THE SEED: THE CARDS: each row of YtbdiiopmjaeaaaaDoorRows.lean that lists a variable, with what it lists TIED to the program's text (the seventh form; the later family's looks); each row that meets fmt, with fmt's text TOLD by the authors' own Lean function (tested against real Go, not proved from fmt's source: count such statements apart). THE CARD IS WHAT COUNTS. Prove the row's statement (the work); the ties are given (YtbdiiopmjaeaaaaDoorTie.lean); close each card by the builder's one call (the guide's Derived/Test/ToyasCard.lean, 'card_holds'). Laid BY PROGRAM, IN A SANDBOX (cutbox-door.mjs). By AI agents, Wed Nov 11 2026. No macro, syntax, notation, axiom, sorry.
-/
import Derived.Test.YtbdiiopmjaeaaaaDoorRows
import GoSem.ClaimSeven
namespace Go.Proofs.YtbdiiopmjaeaaaaDoor
namespace Rows

/-- THE TIED CARD OF 'bookendlaw03.EntriesPairs'. -/
def entriesPairsCard : Claim7 := { stood := { row := entriesPairsRow, standIns := [], harness := (true, "9b076bd0ae2ef1a07c8efef746df4a1987da79d03cc93def7a6a62bbf94cf6f9"), looks := false }, kinds := [], alts := [], laidByText := true, laidKinds := [.data, .data, .data, .data], laidTests := true, laidLooks := .later }
def EntriesPairsCardSaid : Prop := Claim7.holds Tryd.pinned (.plain (OpenSpec.ofChange entriesPairsSpec)) entriesPairsCard

/-- THE TIED CARD OF 'bookendlaw03.EntriesSorted'. -/
def entriesSortedCard : Claim7 := { stood := { row := entriesSortedRow, standIns := [], harness := (true, "9b076bd0ae2ef1a07c8efef746df4a1987da79d03cc93def7a6a62bbf94cf6f9"), looks := false }, kinds := [], alts := [], laidByText := true, laidKinds := [.data, .data, .data, .data], laidTests := true, laidLooks := .later }
def EntriesSortedCardSaid : Prop := Claim7.holds Tryd.pinned (.plain (OpenSpec.ofChange entriesSortedSpec)) entriesSortedCard

/-- THE TIED CARD OF 'bookendlaw03.EntriesNewest'. -/
def entriesNewestCard : Claim7 := { stood := { row := entriesNewestRow, standIns := [], harness := (true, "9b076bd0ae2ef1a07c8efef746df4a1987da79d03cc93def7a6a62bbf94cf6f9"), looks := false }, kinds := [], alts := [], laidByText := true, laidKinds := [.data, .data, .data, .data], laidTests := true, laidLooks := .later }
def EntriesNewestCardSaid : Prop := Claim7.holds Tryd.pinned (.plain (OpenSpec.ofChange entriesNewestSpec)) entriesNewestCard

/-- THE TIED CARD OF 'bookendlaw03.EntriesSorts'. -/
def entriesSortsCard : Claim7 := { stood := { row := entriesSortsRow, standIns := [], harness := (true, "9b076bd0ae2ef1a07c8efef746df4a1987da79d03cc93def7a6a62bbf94cf6f9"), looks := false }, kinds := [], alts := [], laidByText := true, laidKinds := [.data, .data, .data, .data], laidTests := true, laidLooks := .later }
def EntriesSortsCardSaid : Prop := Claim7.holds Tryd.pinned (.plain (OpenSpec.ofChange entriesSortsSpec)) entriesSortsCard

/-- THE TIED CARD OF 'bookendlaw03.EntriesLists'. -/
def entriesListsCard : Claim7 := { stood := { row := entriesListsRow, standIns := [], harness := (true, "9b076bd0ae2ef1a07c8efef746df4a1987da79d03cc93def7a6a62bbf94cf6f9"), looks := false }, kinds := [], alts := [], laidByText := true, laidKinds := [.data, .data, .data, .data], laidTests := true, laidLooks := .later }
def EntriesListsCardSaid : Prop := Claim7.holds Tryd.pinned (.plain (OpenSpec.ofChange entriesListsSpec)) entriesListsCard

/-- THE TIED CARD OF 'bookendlaw03.EntriesKnown'. -/
def entriesKnownCard : Claim7 := { stood := { row := entriesKnownRow, standIns := [], harness := (true, "9b076bd0ae2ef1a07c8efef746df4a1987da79d03cc93def7a6a62bbf94cf6f9"), looks := false }, kinds := [], alts := [], laidByText := true, laidKinds := [.data, .data, .data, .data], laidTests := true, laidLooks := .later }
def EntriesKnownCardSaid : Prop := Claim7.holds Tryd.pinned (.plain (OpenSpec.ofChange entriesKnownSpec)) entriesKnownCard

/-- THE TIED CARD OF 'bookendlaw03.EntriesLayers'. -/
def entriesLayersCard : Claim7 := { stood := { row := entriesLayersRow, standIns := [], harness := (true, "9b076bd0ae2ef1a07c8efef746df4a1987da79d03cc93def7a6a62bbf94cf6f9"), looks := false }, kinds := [], alts := [], laidByText := true, laidKinds := [.data, .data, .data, .data], laidTests := true, laidLooks := .later }
def EntriesLayersCardSaid : Prop := Claim7.holds Tryd.pinned (.plain (OpenSpec.ofChange entriesLayersSpec)) entriesLayersCard

/-- THE SECOND FORM's CARD OF 'bookendlaw03.EntriesPairs'. -/
def entriesPairsUptoCard : Claim7 := { stood := { row := entriesPairsUptoRow, standIns := [], harness := (true, "9b076bd0ae2ef1a07c8efef746df4a1987da79d03cc93def7a6a62bbf94cf6f9"), looks := false }, kinds := [], alts := [], laidByText := true, laidKinds := [.data, .data, .data, .data], laidTests := true, laidLooks := .later }
def EntriesPairsUptoCardSaid : Prop := Claim7.holds Tryd.pinned (.plain (OpenSpec.upto entriesPairsSpec)) entriesPairsUptoCard

/-- THE SECOND FORM's CARD OF 'bookendlaw03.EntriesSorted'. -/
def entriesSortedUptoCard : Claim7 := { stood := { row := entriesSortedUptoRow, standIns := [], harness := (true, "9b076bd0ae2ef1a07c8efef746df4a1987da79d03cc93def7a6a62bbf94cf6f9"), looks := false }, kinds := [], alts := [], laidByText := true, laidKinds := [.data, .data, .data, .data], laidTests := true, laidLooks := .later }
def EntriesSortedUptoCardSaid : Prop := Claim7.holds Tryd.pinned (.plain (OpenSpec.upto entriesSortedSpec)) entriesSortedUptoCard

/-- THE SECOND FORM's CARD OF 'bookendlaw03.EntriesNewest'. -/
def entriesNewestUptoCard : Claim7 := { stood := { row := entriesNewestUptoRow, standIns := [], harness := (true, "9b076bd0ae2ef1a07c8efef746df4a1987da79d03cc93def7a6a62bbf94cf6f9"), looks := false }, kinds := [], alts := [], laidByText := true, laidKinds := [.data, .data, .data, .data], laidTests := true, laidLooks := .later }
def EntriesNewestUptoCardSaid : Prop := Claim7.holds Tryd.pinned (.plain (OpenSpec.upto entriesNewestSpec)) entriesNewestUptoCard

/-- THE SECOND FORM's CARD OF 'bookendlaw03.EntriesSorts'. -/
def entriesSortsUptoCard : Claim7 := { stood := { row := entriesSortsUptoRow, standIns := [], harness := (true, "9b076bd0ae2ef1a07c8efef746df4a1987da79d03cc93def7a6a62bbf94cf6f9"), looks := false }, kinds := [], alts := [], laidByText := true, laidKinds := [.data, .data, .data, .data], laidTests := true, laidLooks := .later }
def EntriesSortsUptoCardSaid : Prop := Claim7.holds Tryd.pinned (.plain (OpenSpec.upto entriesSortsSpec)) entriesSortsUptoCard

/-- THE SECOND FORM's CARD OF 'bookendlaw03.EntriesLists'. -/
def entriesListsUptoCard : Claim7 := { stood := { row := entriesListsUptoRow, standIns := [], harness := (true, "9b076bd0ae2ef1a07c8efef746df4a1987da79d03cc93def7a6a62bbf94cf6f9"), looks := false }, kinds := [], alts := [], laidByText := true, laidKinds := [.data, .data, .data, .data], laidTests := true, laidLooks := .later }
def EntriesListsUptoCardSaid : Prop := Claim7.holds Tryd.pinned (.plain (OpenSpec.upto entriesListsSpec)) entriesListsUptoCard

/-- THE SECOND FORM's CARD OF 'bookendlaw03.EntriesKnown'. -/
def entriesKnownUptoCard : Claim7 := { stood := { row := entriesKnownUptoRow, standIns := [], harness := (true, "9b076bd0ae2ef1a07c8efef746df4a1987da79d03cc93def7a6a62bbf94cf6f9"), looks := false }, kinds := [], alts := [], laidByText := true, laidKinds := [.data, .data, .data, .data], laidTests := true, laidLooks := .later }
def EntriesKnownUptoCardSaid : Prop := Claim7.holds Tryd.pinned (.plain (OpenSpec.upto entriesKnownSpec)) entriesKnownUptoCard

/-- THE SECOND FORM's CARD OF 'bookendlaw03.EntriesLayers'. -/
def entriesLayersUptoCard : Claim7 := { stood := { row := entriesLayersUptoRow, standIns := [], harness := (true, "9b076bd0ae2ef1a07c8efef746df4a1987da79d03cc93def7a6a62bbf94cf6f9"), looks := false }, kinds := [], alts := [], laidByText := true, laidKinds := [.data, .data, .data, .data], laidTests := true, laidLooks := .later }
def EntriesLayersUptoCardSaid : Prop := Claim7.holds Tryd.pinned (.plain (OpenSpec.upto entriesLayersSpec)) entriesLayersUptoCard
end Rows
end Go.Proofs.YtbdiiopmjaeaaaaDoor
