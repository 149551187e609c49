/-
  NARROWER THAN 'FOR EVERY INPUT', by the rows' own cells (each row's printed sentence says how): KeysNexts: laid · KeysOrders: laid · KeysLeast: laid · KeysSorted: laid · KeysTexts: laid · KeysRanges: laid · KeysMeets: laid · KeysKnown: laid.
  DERIVED. THE GIVEN ROWS OF THIS SEAT. 8 by the template 'for every input the law returns true; each argument reads behind the call as it read before'; 0 by the template 'total and deterministic' (their statements: YtldccffbjohokaaDoorTotals.lean).
  GIVEN WITH THE SEED: the statements are not yours to turn. If you find one false, say at which input.
  Laid BY PROGRAM, IN A SANDBOX (cutbox-rows.mjs): the forced cells as the released guide's own fill.sh prints them over the translation 19cd36e7acb38209… (all of the seat's roots in one cut). By AI agents, Wed Nov 11 2026. No macro, syntax, notation, axiom, sorry.
-/
import Derived.Test.YtldccffbjohokaaDoorChecked
import GoSem.PinnedTables
import GoSem.Claim
import GoSem.ClaimJoined
import GoSem.ClaimMapViews
import Derived.JoinedTies
import Derived.KernelRfl
namespace Go.Proofs.YtldccffbjohokaaDoor
/- THE CELL 'sum', in the pinned program and in every row, IS THE sha256 OF THE DUMP (.gsa) THAT YtldccffbjohokaaDoorProg.lean LOADS. Nothing in Lean hashes anything: it is a label: what it is worth is what the hold of that sum in a sandbox is worth. -/
noncomputable def Tryd.pinned : Pinned := { name := "ytldccffbjohokaadoor", sum := "19cd36e7acb3820924c61becffb7117eeda1197437d623c3c4bd1c47396eb7c7", checked := Tryd.checked }
namespace Rows
def none {H : Type} : Left H := { results := [], args := [] }

/- WHAT THE LISTED PACKAGE-LEVEL VARIABLES READ AS WHEN THE CALL BEGINS. Each datum BY PROGRAM (the guide's laid-datum.mjs) off the statement by which the dump's own 'gosem.cut.vars' lays the variable. In a bare row this is a premise. The card (YtldccffbjohokaaDoorCards.lean) ties it to the program's text. -/
def laid_unicode_utf8_acceptRanges {H : Type} : DataW H := .agg [.agg [.lit (.int .u8 128), .lit (.int .u8 191)], .agg [.lit (.int .u8 160), .lit (.int .u8 191)], .agg [.lit (.int .u8 128), .lit (.int .u8 159)], .agg [.lit (.int .u8 144), .lit (.int .u8 191)], .agg [.lit (.int .u8 128), .lit (.int .u8 143)], .agg [.lit (.int .u8 0), .lit (.int .u8 0)], .agg [.lit (.int .u8 0), .lit (.int .u8 0)], .agg [.lit (.int .u8 0), .lit (.int .u8 0)], .agg [.lit (.int .u8 0), .lit (.int .u8 0)], .agg [.lit (.int .u8 0), .lit (.int .u8 0)], .agg [.lit (.int .u8 0), .lit (.int .u8 0)], .agg [.lit (.int .u8 0), .lit (.int .u8 0)], .agg [.lit (.int .u8 0), .lit (.int .u8 0)], .agg [.lit (.int .u8 0), .lit (.int .u8 0)], .agg [.lit (.int .u8 0), .lit (.int .u8 0)], .agg [.lit (.int .u8 0), .lit (.int .u8 0)]]
/-- One of Go's own tables, pinned by name: the form's constant. -/
def laid_unicode_utf8_first : DataW Unit := Go.Pinned.utf8First

/-- 'bookendlaw02.KeysNexts': WHATEVER THE INPUT: true; the input reads as it did. -/
def keysNextsSpec : ChangeSpec := { name := "keysNexts", fn := fun _ => fun
  | [d1, d2] => { results := [.lit (.bool true)], args := [d1, d2] }
  | _ => none }
def keysNextsRow : OpenClaim := { program := "ytldccffbjohokaadoor", sum := "19cd36e7acb3820924c61becffb7117eeda1197437d623c3c4bd1c47396eb7c7", func := "bookend/bookendlaw02.KeysNexts", spec := "keysNexts", inPlace := ["internal/bytealg.abigen_runtime_cmpstring", "internal/abi.NoEscape"], named := ["unicode/utf8.first", "unicode/utf8.acceptRanges"], apart := false, laid := [("unicode/utf8.acceptRanges", laid_unicode_utf8_acceptRanges), ("unicode/utf8.first", laid_unicode_utf8_first)] }
def KeysNextsSaid : Prop := keysNextsRow.holds Tryd.pinned (OpenSpec.ofChange keysNextsSpec)

/-- ITS FALSE NEIGHBOUR: 'it returns false'. Refute it at one input. -/
def keysNextsWrong : ChangeSpec := { name := "keysNexts", fn := fun _ => fun
  | [d1, d2] => { results := [.lit (.bool false)], args := [d1, d2] }
  | _ => none }
def KeysNextsWrongFalsely : Prop := keysNextsRow.holds Tryd.pinned (OpenSpec.ofChange keysNextsWrong)

/-- 'bookendlaw02.KeysOrders': WHATEVER THE INPUT: true; the input reads as it did. -/
def keysOrdersSpec : ChangeSpec := { name := "keysOrders", fn := fun _ => fun
  | [d1, d2] => { results := [.lit (.bool true)], args := [d1, d2] }
  | _ => none }
def keysOrdersRow : OpenClaim := { program := "ytldccffbjohokaadoor", sum := "19cd36e7acb3820924c61becffb7117eeda1197437d623c3c4bd1c47396eb7c7", func := "bookend/bookendlaw02.KeysOrders", spec := "keysOrders", inPlace := ["internal/bytealg.abigen_runtime_cmpstring", "internal/abi.NoEscape"], named := ["unicode/utf8.first", "unicode/utf8.acceptRanges"], apart := false, laid := [("unicode/utf8.acceptRanges", laid_unicode_utf8_acceptRanges), ("unicode/utf8.first", laid_unicode_utf8_first)] }
def KeysOrdersSaid : Prop := keysOrdersRow.holds Tryd.pinned (OpenSpec.ofChange keysOrdersSpec)

/-- ITS FALSE NEIGHBOUR: 'it returns false'. Refute it at one input. -/
def keysOrdersWrong : ChangeSpec := { name := "keysOrders", fn := fun _ => fun
  | [d1, d2] => { results := [.lit (.bool false)], args := [d1, d2] }
  | _ => none }
def KeysOrdersWrongFalsely : Prop := keysOrdersRow.holds Tryd.pinned (OpenSpec.ofChange keysOrdersWrong)

/-- 'bookendlaw02.KeysLeast': WHATEVER THE INPUT: true; the input reads as it did. -/
def keysLeastSpec : ChangeSpec := { name := "keysLeast", fn := fun _ => fun
  | [d1, d2, d3] => { results := [.lit (.bool true)], args := [d1, d2, d3] }
  | _ => none }
def keysLeastRow : OpenClaim := { program := "ytldccffbjohokaadoor", sum := "19cd36e7acb3820924c61becffb7117eeda1197437d623c3c4bd1c47396eb7c7", func := "bookend/bookendlaw02.KeysLeast", spec := "keysLeast", inPlace := ["internal/bytealg.abigen_runtime_cmpstring", "internal/abi.NoEscape"], named := ["unicode/utf8.first", "unicode/utf8.acceptRanges"], apart := false, laid := [("unicode/utf8.acceptRanges", laid_unicode_utf8_acceptRanges), ("unicode/utf8.first", laid_unicode_utf8_first)] }
def KeysLeastSaid : Prop := keysLeastRow.holds Tryd.pinned (OpenSpec.ofChange keysLeastSpec)

/-- ITS FALSE NEIGHBOUR: 'it returns false'. Refute it at one input. -/
def keysLeastWrong : ChangeSpec := { name := "keysLeast", fn := fun _ => fun
  | [d1, d2, d3] => { results := [.lit (.bool false)], args := [d1, d2, d3] }
  | _ => none }
def KeysLeastWrongFalsely : Prop := keysLeastRow.holds Tryd.pinned (OpenSpec.ofChange keysLeastWrong)

/-- 'bookendlaw02.KeysSorted': WHATEVER THE INPUT: true; the input reads as it did. -/
def keysSortedSpec : ChangeSpec := { name := "keysSorted", fn := fun _ => fun
  | [d1, d2, d3] => { results := [.lit (.bool true)], args := [d1, d2, d3] }
  | _ => none }
def keysSortedRow : OpenClaim := { program := "ytldccffbjohokaadoor", sum := "19cd36e7acb3820924c61becffb7117eeda1197437d623c3c4bd1c47396eb7c7", func := "bookend/bookendlaw02.KeysSorted", spec := "keysSorted", inPlace := ["internal/bytealg.abigen_runtime_cmpstring", "internal/abi.NoEscape"], named := ["unicode/utf8.first", "unicode/utf8.acceptRanges"], apart := false, laid := [("unicode/utf8.acceptRanges", laid_unicode_utf8_acceptRanges), ("unicode/utf8.first", laid_unicode_utf8_first)] }
def KeysSortedSaid : Prop := keysSortedRow.holds Tryd.pinned (OpenSpec.ofChange keysSortedSpec)

/-- ITS FALSE NEIGHBOUR: 'it returns false'. Refute it at one input. -/
def keysSortedWrong : ChangeSpec := { name := "keysSorted", fn := fun _ => fun
  | [d1, d2, d3] => { results := [.lit (.bool false)], args := [d1, d2, d3] }
  | _ => none }
def KeysSortedWrongFalsely : Prop := keysSortedRow.holds Tryd.pinned (OpenSpec.ofChange keysSortedWrong)

/-- 'bookendlaw02.KeysTexts': WHATEVER THE INPUT: true; the input reads as it did. -/
def keysTextsSpec : ChangeSpec := { name := "keysTexts", fn := fun _ => fun
  | [d1, d2] => { results := [.lit (.bool true)], args := [d1, d2] }
  | _ => none }
def keysTextsRow : OpenClaim := { program := "ytldccffbjohokaadoor", sum := "19cd36e7acb3820924c61becffb7117eeda1197437d623c3c4bd1c47396eb7c7", func := "bookend/bookendlaw02.KeysTexts", spec := "keysTexts", inPlace := ["internal/bytealg.abigen_runtime_cmpstring", "internal/abi.NoEscape", "internal/bytealg.IndexByteString"], named := ["unicode/utf8.first", "unicode/utf8.acceptRanges"], apart := false, laid := [("unicode/utf8.acceptRanges", laid_unicode_utf8_acceptRanges), ("unicode/utf8.first", laid_unicode_utf8_first)] }
def KeysTextsSaid : Prop := keysTextsRow.holds Tryd.pinned (OpenSpec.ofChange keysTextsSpec)

/-- ITS FALSE NEIGHBOUR: 'it returns false'. Refute it at one input. -/
def keysTextsWrong : ChangeSpec := { name := "keysTexts", fn := fun _ => fun
  | [d1, d2] => { results := [.lit (.bool false)], args := [d1, d2] }
  | _ => none }
def KeysTextsWrongFalsely : Prop := keysTextsRow.holds Tryd.pinned (OpenSpec.ofChange keysTextsWrong)

/-- 'bookendlaw02.KeysRanges': WHATEVER THE INPUT: true; the input reads as it did. -/
def keysRangesSpec : ChangeSpec := { name := "keysRanges", fn := fun _ => fun
  | [d1, d2, d3] => { results := [.lit (.bool true)], args := [d1, d2, d3] }
  | _ => none }
def keysRangesRow : OpenClaim := { program := "ytldccffbjohokaadoor", sum := "19cd36e7acb3820924c61becffb7117eeda1197437d623c3c4bd1c47396eb7c7", func := "bookend/bookendlaw02.KeysRanges", spec := "keysRanges", inPlace := ["internal/bytealg.abigen_runtime_cmpstring", "internal/abi.NoEscape"], named := ["unicode/utf8.first", "unicode/utf8.acceptRanges"], apart := false, laid := [("unicode/utf8.acceptRanges", laid_unicode_utf8_acceptRanges), ("unicode/utf8.first", laid_unicode_utf8_first)] }
def KeysRangesSaid : Prop := keysRangesRow.holds Tryd.pinned (OpenSpec.ofChange keysRangesSpec)

/-- ITS FALSE NEIGHBOUR: 'it returns false'. Refute it at one input. -/
def keysRangesWrong : ChangeSpec := { name := "keysRanges", fn := fun _ => fun
  | [d1, d2, d3] => { results := [.lit (.bool false)], args := [d1, d2, d3] }
  | _ => none }
def KeysRangesWrongFalsely : Prop := keysRangesRow.holds Tryd.pinned (OpenSpec.ofChange keysRangesWrong)

/-- 'bookendlaw02.KeysMeets': WHATEVER THE INPUT: true; the input reads as it did. -/
def keysMeetsSpec : ChangeSpec := { name := "keysMeets", fn := fun _ => fun
  | [d1, d2, d3] => { results := [.lit (.bool true)], args := [d1, d2, d3] }
  | _ => none }
def keysMeetsRow : OpenClaim := { program := "ytldccffbjohokaadoor", sum := "19cd36e7acb3820924c61becffb7117eeda1197437d623c3c4bd1c47396eb7c7", func := "bookend/bookendlaw02.KeysMeets", spec := "keysMeets", inPlace := ["internal/bytealg.abigen_runtime_cmpstring", "internal/abi.NoEscape"], named := ["unicode/utf8.first", "unicode/utf8.acceptRanges"], apart := false, laid := [("unicode/utf8.acceptRanges", laid_unicode_utf8_acceptRanges), ("unicode/utf8.first", laid_unicode_utf8_first)] }
def KeysMeetsSaid : Prop := keysMeetsRow.holds Tryd.pinned (OpenSpec.ofChange keysMeetsSpec)

/-- ITS FALSE NEIGHBOUR: 'it returns false'. Refute it at one input. -/
def keysMeetsWrong : ChangeSpec := { name := "keysMeets", fn := fun _ => fun
  | [d1, d2, d3] => { results := [.lit (.bool false)], args := [d1, d2, d3] }
  | _ => none }
def KeysMeetsWrongFalsely : Prop := keysMeetsRow.holds Tryd.pinned (OpenSpec.ofChange keysMeetsWrong)

/-- 'bookendlaw02.KeysKnown': WHATEVER THE INPUT: true; the input reads as it did. -/
def keysKnownSpec : ChangeSpec := { name := "keysKnown", fn := fun _ => fun
  | [] => { results := [.lit (.bool true)], args := [] }
  | _ => none }
def keysKnownRow : OpenClaim := { program := "ytldccffbjohokaadoor", sum := "19cd36e7acb3820924c61becffb7117eeda1197437d623c3c4bd1c47396eb7c7", func := "bookend/bookendlaw02.KeysKnown", spec := "keysKnown", inPlace := ["internal/bytealg.abigen_runtime_cmpstring", "internal/bytealg.IndexByteString", "internal/abi.NoEscape"], named := ["unicode/utf8.first", "unicode/utf8.acceptRanges"], apart := false, laid := [("unicode/utf8.acceptRanges", laid_unicode_utf8_acceptRanges), ("unicode/utf8.first", laid_unicode_utf8_first)] }
def KeysKnownSaid : Prop := keysKnownRow.holds Tryd.pinned (OpenSpec.ofChange keysKnownSpec)

/-- ITS FALSE NEIGHBOUR: 'it returns false'. Refute it at one input. -/
def keysKnownWrong : ChangeSpec := { name := "keysKnown", fn := fun _ => fun
  | [] => { results := [.lit (.bool false)], args := [] }
  | _ => none }
def KeysKnownWrongFalsely : Prop := keysKnownRow.holds Tryd.pinned (OpenSpec.ofChange keysKnownWrong)

/- THE SECOND FORM. 'bulk': how many values and letters a reading holds, each counted each time it is reached (what is shared counts as often as it is met; a slice's spare places count too). A statement '..UptoSaid' is the law's where the arguments, and the package variables that the reading takes, are together of bulk at most 1048576: NARROWER than '..Said'. Prove '..Said' where nothing that the law and all that it calls make is longer than what came in: it says more and counts as full. Else prove '..UptoSaid'. A law counts once. -/
mutual
def uptoBulk {H : Type} : DataW H → Nat
  | .lit (.string bytes) => bytes.length + 1
  | .lit _ => 1
  | .nil => 1
  | .ptr d => uptoBulk d + 1
  | .slice elems spare => uptoBulkAll elems + uptoBulkAll spare + 1
  | .agg parts => uptoBulkAll parts + 1
  | .iface _ d => uptoBulk d + 1
  | .map entries => uptoBulkEntries entries + 1
  | .held _ => 1
def uptoBulkAll {H : Type} : List (DataW H) → Nat
  | [] => 0
  | d :: r => uptoBulk d + uptoBulkAll r
def uptoBulkEntries {H : Type} : List (Lit × DataW H) → Nat
  | [] => 0
  | x :: r => uptoBulkEntry x + uptoBulkEntries r
def uptoBulkEntry {H : Type} : Lit × DataW H → Nat
  | (.string bytes, d) => bytes.length + uptoBulk d + 1
  | (_, d) => uptoBulk d + 1
 end
def uptoSmall : (H : Type) → List (DataW H) → Bool := fun _ ds => decide (uptoBulkAll ds ≤ 1048576)
def OpenSpec.upto (s : _root_.Go.ChangeSpec) : _root_.Go.OpenSpec := { _root_.Go.OpenSpec.ofChange s with cond := some uptoSmall }

/-- 'bookendlaw02.KeysNexts', WHERE WHAT IT READS IS OF BULK AT MOST 1048576: true; the input reads as it did. -/
def keysNextsUptoRow : OpenClaim := { program := "ytldccffbjohokaadoor", sum := "19cd36e7acb3820924c61becffb7117eeda1197437d623c3c4bd1c47396eb7c7", func := "bookend/bookendlaw02.KeysNexts", spec := "keysNexts", inPlace := ["internal/bytealg.abigen_runtime_cmpstring", "internal/abi.NoEscape"], named := ["unicode/utf8.first", "unicode/utf8.acceptRanges"], apart := false, laid := [("unicode/utf8.acceptRanges", laid_unicode_utf8_acceptRanges), ("unicode/utf8.first", laid_unicode_utf8_first)], narrowed := true }
def KeysNextsUptoSaid : Prop := keysNextsUptoRow.holds Tryd.pinned (OpenSpec.upto keysNextsSpec)

/-- 'bookendlaw02.KeysOrders', WHERE WHAT IT READS IS OF BULK AT MOST 1048576: true; the input reads as it did. -/
def keysOrdersUptoRow : OpenClaim := { program := "ytldccffbjohokaadoor", sum := "19cd36e7acb3820924c61becffb7117eeda1197437d623c3c4bd1c47396eb7c7", func := "bookend/bookendlaw02.KeysOrders", spec := "keysOrders", inPlace := ["internal/bytealg.abigen_runtime_cmpstring", "internal/abi.NoEscape"], named := ["unicode/utf8.first", "unicode/utf8.acceptRanges"], apart := false, laid := [("unicode/utf8.acceptRanges", laid_unicode_utf8_acceptRanges), ("unicode/utf8.first", laid_unicode_utf8_first)], narrowed := true }
def KeysOrdersUptoSaid : Prop := keysOrdersUptoRow.holds Tryd.pinned (OpenSpec.upto keysOrdersSpec)

/-- 'bookendlaw02.KeysLeast', WHERE WHAT IT READS IS OF BULK AT MOST 1048576: true; the input reads as it did. -/
def keysLeastUptoRow : OpenClaim := { program := "ytldccffbjohokaadoor", sum := "19cd36e7acb3820924c61becffb7117eeda1197437d623c3c4bd1c47396eb7c7", func := "bookend/bookendlaw02.KeysLeast", spec := "keysLeast", inPlace := ["internal/bytealg.abigen_runtime_cmpstring", "internal/abi.NoEscape"], named := ["unicode/utf8.first", "unicode/utf8.acceptRanges"], apart := false, laid := [("unicode/utf8.acceptRanges", laid_unicode_utf8_acceptRanges), ("unicode/utf8.first", laid_unicode_utf8_first)], narrowed := true }
def KeysLeastUptoSaid : Prop := keysLeastUptoRow.holds Tryd.pinned (OpenSpec.upto keysLeastSpec)

/-- 'bookendlaw02.KeysSorted', WHERE WHAT IT READS IS OF BULK AT MOST 1048576: true; the input reads as it did. -/
def keysSortedUptoRow : OpenClaim := { program := "ytldccffbjohokaadoor", sum := "19cd36e7acb3820924c61becffb7117eeda1197437d623c3c4bd1c47396eb7c7", func := "bookend/bookendlaw02.KeysSorted", spec := "keysSorted", inPlace := ["internal/bytealg.abigen_runtime_cmpstring", "internal/abi.NoEscape"], named := ["unicode/utf8.first", "unicode/utf8.acceptRanges"], apart := false, laid := [("unicode/utf8.acceptRanges", laid_unicode_utf8_acceptRanges), ("unicode/utf8.first", laid_unicode_utf8_first)], narrowed := true }
def KeysSortedUptoSaid : Prop := keysSortedUptoRow.holds Tryd.pinned (OpenSpec.upto keysSortedSpec)

/-- 'bookendlaw02.KeysTexts', WHERE WHAT IT READS IS OF BULK AT MOST 1048576: true; the input reads as it did. -/
def keysTextsUptoRow : OpenClaim := { program := "ytldccffbjohokaadoor", sum := "19cd36e7acb3820924c61becffb7117eeda1197437d623c3c4bd1c47396eb7c7", func := "bookend/bookendlaw02.KeysTexts", spec := "keysTexts", inPlace := ["internal/bytealg.abigen_runtime_cmpstring", "internal/abi.NoEscape", "internal/bytealg.IndexByteString"], named := ["unicode/utf8.first", "unicode/utf8.acceptRanges"], apart := false, laid := [("unicode/utf8.acceptRanges", laid_unicode_utf8_acceptRanges), ("unicode/utf8.first", laid_unicode_utf8_first)], narrowed := true }
def KeysTextsUptoSaid : Prop := keysTextsUptoRow.holds Tryd.pinned (OpenSpec.upto keysTextsSpec)

/-- 'bookendlaw02.KeysRanges', WHERE WHAT IT READS IS OF BULK AT MOST 1048576: true; the input reads as it did. -/
def keysRangesUptoRow : OpenClaim := { program := "ytldccffbjohokaadoor", sum := "19cd36e7acb3820924c61becffb7117eeda1197437d623c3c4bd1c47396eb7c7", func := "bookend/bookendlaw02.KeysRanges", spec := "keysRanges", inPlace := ["internal/bytealg.abigen_runtime_cmpstring", "internal/abi.NoEscape"], named := ["unicode/utf8.first", "unicode/utf8.acceptRanges"], apart := false, laid := [("unicode/utf8.acceptRanges", laid_unicode_utf8_acceptRanges), ("unicode/utf8.first", laid_unicode_utf8_first)], narrowed := true }
def KeysRangesUptoSaid : Prop := keysRangesUptoRow.holds Tryd.pinned (OpenSpec.upto keysRangesSpec)

/-- 'bookendlaw02.KeysMeets', WHERE WHAT IT READS IS OF BULK AT MOST 1048576: true; the input reads as it did. -/
def keysMeetsUptoRow : OpenClaim := { program := "ytldccffbjohokaadoor", sum := "19cd36e7acb3820924c61becffb7117eeda1197437d623c3c4bd1c47396eb7c7", func := "bookend/bookendlaw02.KeysMeets", spec := "keysMeets", inPlace := ["internal/bytealg.abigen_runtime_cmpstring", "internal/abi.NoEscape"], named := ["unicode/utf8.first", "unicode/utf8.acceptRanges"], apart := false, laid := [("unicode/utf8.acceptRanges", laid_unicode_utf8_acceptRanges), ("unicode/utf8.first", laid_unicode_utf8_first)], narrowed := true }
def KeysMeetsUptoSaid : Prop := keysMeetsUptoRow.holds Tryd.pinned (OpenSpec.upto keysMeetsSpec)

/-- 'bookendlaw02.KeysKnown', WHERE WHAT IT READS IS OF BULK AT MOST 1048576: true; the input reads as it did. -/
def keysKnownUptoRow : OpenClaim := { program := "ytldccffbjohokaadoor", sum := "19cd36e7acb3820924c61becffb7117eeda1197437d623c3c4bd1c47396eb7c7", func := "bookend/bookendlaw02.KeysKnown", spec := "keysKnown", inPlace := ["internal/bytealg.abigen_runtime_cmpstring", "internal/bytealg.IndexByteString", "internal/abi.NoEscape"], named := ["unicode/utf8.first", "unicode/utf8.acceptRanges"], apart := false, laid := [("unicode/utf8.acceptRanges", laid_unicode_utf8_acceptRanges), ("unicode/utf8.first", laid_unicode_utf8_first)], narrowed := true }
def KeysKnownUptoSaid : Prop := keysKnownUptoRow.holds Tryd.pinned (OpenSpec.upto keysKnownSpec)

end Rows
end Go.Proofs.YtldccffbjohokaaDoor
