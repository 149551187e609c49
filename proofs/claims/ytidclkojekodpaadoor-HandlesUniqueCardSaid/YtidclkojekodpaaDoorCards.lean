/-
  DERIVED. GIVEN WITH THE SEED: THE CARDS: each row of YtidclkojekodpaaDoorRows.lean that lists a variable, with what it lists TIED to the program's text (the seventh form; the later family's looks); each row that meets fmt, with fmt's text TOLD by the authors' own Lean function (tested against real Go, not proved from fmt's source: count such statements apart). THE CARD IS WHAT COUNTS. Prove the row's statement (the work); the ties are given (YtidclkojekodpaaDoorTie.lean); close each card by the builder's one call (the guide's Derived/Test/ToyasCard.lean, 'card_holds'). Laid BY PROGRAM, IN A SANDBOX (cutbox-door.mjs). By AI agents, Wed Nov 11 2026. No macro, syntax, notation, axiom, sorry.
-/
import Derived.Test.YtidclkojekodpaaDoorRows
import GoSem.ClaimSeven
namespace Go.Proofs.YtidclkojekodpaaDoor
namespace Rows

/-- THE TIED CARD OF 'bookendlaw23.HandlesLooks'. -/
def handlesLooksCard : Claim7 := { stood := { row := handlesLooksRow, standIns := [], harness := (true, "a94268c852ceb7a27a8abdb9845d33ddb8afe7dc95f8dba0abb6e26a06f1800a"), looks := true }, kinds := [], alts := [], laidByText := true, laidKinds := [.data, .data, .data], laidTests := true, laidLooks := .later }
def HandlesLooksCardSaid : Prop := Claim7.holds Tryd.pinned (.plain (OpenSpec.ofChange handlesLooksSpec)) handlesLooksCard

/-- THE TIED CARD OF 'bookendlaw23.HandlesLeast'. -/
def handlesLeastCard : Claim7 := { stood := { row := handlesLeastRow, standIns := [], harness := (true, "a94268c852ceb7a27a8abdb9845d33ddb8afe7dc95f8dba0abb6e26a06f1800a"), looks := true }, kinds := [], alts := [], laidByText := true, laidKinds := [.data, .data, .data], laidTests := true, laidLooks := .later }
def HandlesLeastCardSaid : Prop := Claim7.holds Tryd.pinned (.plain (OpenSpec.ofChange handlesLeastSpec)) handlesLeastCard

/-- THE TIED CARD OF 'bookendlaw23.HandlesApart'. -/
def handlesApartCard : Claim7 := { stood := { row := handlesApartRow, standIns := [], harness := (true, "a94268c852ceb7a27a8abdb9845d33ddb8afe7dc95f8dba0abb6e26a06f1800a"), looks := true }, kinds := [], alts := [], laidByText := true, laidKinds := [.data, .data, .data], laidTests := true, laidLooks := .later }
def HandlesApartCardSaid : Prop := Claim7.holds Tryd.pinned (.plain (OpenSpec.ofChange handlesApartSpec)) handlesApartCard

/-- THE TIED CARD OF 'bookendlaw23.HandlesTables'. -/
def handlesTablesCard : Claim7 := { stood := { row := handlesTablesRow, standIns := [], harness := (true, "a94268c852ceb7a27a8abdb9845d33ddb8afe7dc95f8dba0abb6e26a06f1800a"), looks := true }, kinds := [], alts := [], laidByText := true, laidKinds := [.data, .data, .data], laidTests := true, laidLooks := .later }
def HandlesTablesCardSaid : Prop := Claim7.holds Tryd.pinned (.plain (OpenSpec.ofChange handlesTablesSpec)) handlesTablesCard

/-- THE TIED CARD OF 'bookendlaw23.HandlesUnique'. -/
def handlesUniqueCard : Claim7 := { stood := { row := handlesUniqueRow, standIns := [], harness := (true, "a94268c852ceb7a27a8abdb9845d33ddb8afe7dc95f8dba0abb6e26a06f1800a"), looks := true }, kinds := [], alts := [], laidByText := true, laidKinds := [.data, .data, .data], laidTests := true, laidLooks := .later }
def HandlesUniqueCardSaid : Prop := Claim7.holds Tryd.pinned (.plain (OpenSpec.ofChange handlesUniqueSpec)) handlesUniqueCard

/-- THE TIED CARD OF 'bookendlaw23.HandlesKnown'. -/
def handlesKnownCard : Claim7 := { stood := { row := handlesKnownRow, standIns := [], harness := (true, "a94268c852ceb7a27a8abdb9845d33ddb8afe7dc95f8dba0abb6e26a06f1800a"), looks := true }, kinds := [], alts := [], laidByText := true, laidKinds := [.data, .data, .data], laidTests := true, laidLooks := .later }
def HandlesKnownCardSaid : Prop := Claim7.holds Tryd.pinned (.plain (OpenSpec.ofChange handlesKnownSpec)) handlesKnownCard

/-- THE SECOND FORM's CARD OF 'bookendlaw23.HandlesLooks'. -/
def handlesLooksUptoCard : Claim7 := { stood := { row := handlesLooksUptoRow, standIns := [], harness := (true, "a94268c852ceb7a27a8abdb9845d33ddb8afe7dc95f8dba0abb6e26a06f1800a"), looks := true }, kinds := [], alts := [], laidByText := true, laidKinds := [.data, .data, .data], laidTests := true, laidLooks := .later }
def HandlesLooksUptoCardSaid : Prop := Claim7.holds Tryd.pinned (.plain (OpenSpec.upto handlesLooksSpec)) handlesLooksUptoCard

/-- THE SECOND FORM's CARD OF 'bookendlaw23.HandlesLeast'. -/
def handlesLeastUptoCard : Claim7 := { stood := { row := handlesLeastUptoRow, standIns := [], harness := (true, "a94268c852ceb7a27a8abdb9845d33ddb8afe7dc95f8dba0abb6e26a06f1800a"), looks := true }, kinds := [], alts := [], laidByText := true, laidKinds := [.data, .data, .data], laidTests := true, laidLooks := .later }
def HandlesLeastUptoCardSaid : Prop := Claim7.holds Tryd.pinned (.plain (OpenSpec.upto handlesLeastSpec)) handlesLeastUptoCard

/-- THE SECOND FORM's CARD OF 'bookendlaw23.HandlesApart'. -/
def handlesApartUptoCard : Claim7 := { stood := { row := handlesApartUptoRow, standIns := [], harness := (true, "a94268c852ceb7a27a8abdb9845d33ddb8afe7dc95f8dba0abb6e26a06f1800a"), looks := true }, kinds := [], alts := [], laidByText := true, laidKinds := [.data, .data, .data], laidTests := true, laidLooks := .later }
def HandlesApartUptoCardSaid : Prop := Claim7.holds Tryd.pinned (.plain (OpenSpec.upto handlesApartSpec)) handlesApartUptoCard

/-- THE SECOND FORM's CARD OF 'bookendlaw23.HandlesTables'. -/
def handlesTablesUptoCard : Claim7 := { stood := { row := handlesTablesUptoRow, standIns := [], harness := (true, "a94268c852ceb7a27a8abdb9845d33ddb8afe7dc95f8dba0abb6e26a06f1800a"), looks := true }, kinds := [], alts := [], laidByText := true, laidKinds := [.data, .data, .data], laidTests := true, laidLooks := .later }
def HandlesTablesUptoCardSaid : Prop := Claim7.holds Tryd.pinned (.plain (OpenSpec.upto handlesTablesSpec)) handlesTablesUptoCard

/-- THE SECOND FORM's CARD OF 'bookendlaw23.HandlesUnique'. -/
def handlesUniqueUptoCard : Claim7 := { stood := { row := handlesUniqueUptoRow, standIns := [], harness := (true, "a94268c852ceb7a27a8abdb9845d33ddb8afe7dc95f8dba0abb6e26a06f1800a"), looks := true }, kinds := [], alts := [], laidByText := true, laidKinds := [.data, .data, .data], laidTests := true, laidLooks := .later }
def HandlesUniqueUptoCardSaid : Prop := Claim7.holds Tryd.pinned (.plain (OpenSpec.upto handlesUniqueSpec)) handlesUniqueUptoCard

/-- THE SECOND FORM's CARD OF 'bookendlaw23.HandlesKnown'. -/
def handlesKnownUptoCard : Claim7 := { stood := { row := handlesKnownUptoRow, standIns := [], harness := (true, "a94268c852ceb7a27a8abdb9845d33ddb8afe7dc95f8dba0abb6e26a06f1800a"), looks := true }, kinds := [], alts := [], laidByText := true, laidKinds := [.data, .data, .data], laidTests := true, laidLooks := .later }
def HandlesKnownUptoCardSaid : Prop := Claim7.holds Tryd.pinned (.plain (OpenSpec.upto handlesKnownSpec)) handlesKnownUptoCard
end Rows
end Go.Proofs.YtidclkojekodpaaDoor
