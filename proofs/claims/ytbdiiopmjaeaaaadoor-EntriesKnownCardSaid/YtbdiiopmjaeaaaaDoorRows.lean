/-
  NARROWER THAN 'FOR EVERY INPUT', by the rows' own cells (each row's printed sentence says how): EntriesPairs: laid · EntriesSorted: laid · EntriesNewest: laid · EntriesSorts: laid · EntriesLists: laid · EntriesKnown: laid · EntriesLayers: laid.
  DERIVED. THE GIVEN ROWS OF THIS SEAT. 7 by the template 'for every input the law returns true; each argument reads behind the call as it read before'; 0 by the template 'total and deterministic' (their statements: YtbdiiopmjaeaaaaDoorTotals.lean).
  GIVEN WITH THE SEED: the statements are not yours to turn. If you find one false, say at which input.
  Laid BY PROGRAM, IN A SANDBOX (cutbox-rows.mjs): the forced cells as the released guide's own fill.sh prints them over the translation ffa31846b6ede65b… (all of the seat's roots in one cut). By AI agents, Wed Nov 11 2026. No macro, syntax, notation, axiom, sorry.
-/
import Derived.Test.YtbdiiopmjaeaaaaDoorChecked
import GoSem.Claim
import GoSem.ClaimJoined
import GoSem.ClaimMapViews
import Derived.JoinedTies
import Derived.KernelRfl
namespace Go.Proofs.YtbdiiopmjaeaaaaDoor
/- THE CELL 'sum', in the pinned program and in every row, IS THE sha256 OF THE DUMP (.gsa) THAT YtbdiiopmjaeaaaaDoorProg.lean LOADS. Nothing in Lean hashes anything: it is a label: what it is worth is what the hold of that sum in a sandbox is worth. -/
noncomputable def Tryd.pinned : Pinned := { name := "ytbdiiopmjaeaaaadoor", sum := "ffa31846b6ede65b10d818a6ae86180c9449ab5f285b6a1c81b0910eeee29dbf", checked := Tryd.checked }
namespace Rows
def none {H : Type} : Left H := { results := [], args := [] }

/- WHAT THE LISTED PACKAGE-LEVEL VARIABLES READ AS WHEN THE CALL BEGINS. Each datum BY PROGRAM (the guide's laid-datum.mjs) off the statement by which the dump's own 'gosem.cut.vars' lays the variable. In a bare row this is a premise. The card (YtbdiiopmjaeaaaaDoorCards.lean) ties it to the program's text. -/
def laid_math_bits_deBruijn32tab {H : Type} : DataW H := .agg [.lit (.int .u8 0), .lit (.int .u8 1), .lit (.int .u8 28), .lit (.int .u8 2), .lit (.int .u8 29), .lit (.int .u8 14), .lit (.int .u8 24), .lit (.int .u8 3), .lit (.int .u8 30), .lit (.int .u8 22), .lit (.int .u8 20), .lit (.int .u8 15), .lit (.int .u8 25), .lit (.int .u8 17), .lit (.int .u8 4), .lit (.int .u8 8), .lit (.int .u8 31), .lit (.int .u8 27), .lit (.int .u8 13), .lit (.int .u8 23), .lit (.int .u8 21), .lit (.int .u8 19), .lit (.int .u8 16), .lit (.int .u8 7), .lit (.int .u8 26), .lit (.int .u8 12), .lit (.int .u8 18), .lit (.int .u8 6), .lit (.int .u8 11), .lit (.int .u8 5), .lit (.int .u8 10), .lit (.int .u8 9)]
def laid_math_bits_deBruijn64tab {H : Type} : DataW H := .agg [.lit (.int .u8 0), .lit (.int .u8 1), .lit (.int .u8 56), .lit (.int .u8 2), .lit (.int .u8 57), .lit (.int .u8 49), .lit (.int .u8 28), .lit (.int .u8 3), .lit (.int .u8 61), .lit (.int .u8 58), .lit (.int .u8 42), .lit (.int .u8 50), .lit (.int .u8 38), .lit (.int .u8 29), .lit (.int .u8 17), .lit (.int .u8 4), .lit (.int .u8 62), .lit (.int .u8 47), .lit (.int .u8 59), .lit (.int .u8 36), .lit (.int .u8 45), .lit (.int .u8 43), .lit (.int .u8 51), .lit (.int .u8 22), .lit (.int .u8 53), .lit (.int .u8 39), .lit (.int .u8 33), .lit (.int .u8 30), .lit (.int .u8 24), .lit (.int .u8 18), .lit (.int .u8 12), .lit (.int .u8 5), .lit (.int .u8 63), .lit (.int .u8 55), .lit (.int .u8 48), .lit (.int .u8 27), .lit (.int .u8 60), .lit (.int .u8 41), .lit (.int .u8 37), .lit (.int .u8 16), .lit (.int .u8 46), .lit (.int .u8 35), .lit (.int .u8 44), .lit (.int .u8 21), .lit (.int .u8 52), .lit (.int .u8 32), .lit (.int .u8 23), .lit (.int .u8 11), .lit (.int .u8 54), .lit (.int .u8 26), .lit (.int .u8 40), .lit (.int .u8 15), .lit (.int .u8 34), .lit (.int .u8 20), .lit (.int .u8 31), .lit (.int .u8 10), .lit (.int .u8 25), .lit (.int .u8 14), .lit (.int .u8 19), .lit (.int .u8 9), .lit (.int .u8 13), .lit (.int .u8 8), .lit (.int .u8 7), .lit (.int .u8 6)]
def laid_internal_strconv_uint64pow10 {H : Type} : DataW H := .agg [.lit (.int .u64 1), .lit (.int .u64 10), .lit (.int .u64 100), .lit (.int .u64 1000), .lit (.int .u64 10000), .lit (.int .u64 100000), .lit (.int .u64 1000000), .lit (.int .u64 10000000), .lit (.int .u64 100000000), .lit (.int .u64 1000000000), .lit (.int .u64 10000000000), .lit (.int .u64 100000000000), .lit (.int .u64 1000000000000), .lit (.int .u64 10000000000000), .lit (.int .u64 100000000000000), .lit (.int .u64 1000000000000000), .lit (.int .u64 10000000000000000), .lit (.int .u64 100000000000000000), .lit (.int .u64 1000000000000000000), .lit (.int .u64 10000000000000000000)]
def laid_bookend_words_escapes {H : Type} : DataW H := .agg [.agg [.lit (.int .u8 34), .lit (.int .u8 34)], .agg [.lit (.int .u8 92), .lit (.int .u8 92)], .agg [.lit (.int .u8 10), .lit (.int .u8 110)], .agg [.lit (.int .u8 13), .lit (.int .u8 114)], .agg [.lit (.int .u8 9), .lit (.int .u8 116)]]

/-- 'bookendlaw03.EntriesPairs': WHATEVER THE INPUT: true; the input reads as it did. -/
def entriesPairsSpec : ChangeSpec := { name := "entriesPairs", fn := fun _ => fun
  | [d1, d2] => { results := [.lit (.bool true)], args := [d1, d2] }
  | _ => none }
def entriesPairsRow : OpenClaim := { program := "ytbdiiopmjaeaaaadoor", sum := "ffa31846b6ede65b10d818a6ae86180c9449ab5f285b6a1c81b0910eeee29dbf", func := "bookend/bookendlaw03.EntriesPairs", spec := "entriesPairs", inPlace := ["internal/bytealg.abigen_runtime_cmpstring", "internal/abi.NoEscape"], unfollowed := true, recurses := true, named := ["bookend/words.escapes", "internal/strconv.uint64pow10", "math/bits.deBruijn32tab", "math/bits.deBruijn64tab"], apart := false, laid := [("math/bits.deBruijn32tab", laid_math_bits_deBruijn32tab), ("math/bits.deBruijn64tab", laid_math_bits_deBruijn64tab), ("internal/strconv.uint64pow10", laid_internal_strconv_uint64pow10), ("bookend/words.escapes", laid_bookend_words_escapes)] }
def EntriesPairsSaid : Prop := entriesPairsRow.holds Tryd.pinned (OpenSpec.ofChange entriesPairsSpec)

/-- ITS FALSE NEIGHBOUR: 'it returns false'. Refute it at one input. -/
def entriesPairsWrong : ChangeSpec := { name := "entriesPairs", fn := fun _ => fun
  | [d1, d2] => { results := [.lit (.bool false)], args := [d1, d2] }
  | _ => none }
def EntriesPairsWrongFalsely : Prop := entriesPairsRow.holds Tryd.pinned (OpenSpec.ofChange entriesPairsWrong)

/-- 'bookendlaw03.EntriesSorted': WHATEVER THE INPUT: true; the input reads as it did. -/
def entriesSortedSpec : ChangeSpec := { name := "entriesSorted", fn := fun _ => fun
  | [d] => { results := [.lit (.bool true)], args := [d] }
  | _ => none }
def entriesSortedRow : OpenClaim := { program := "ytbdiiopmjaeaaaadoor", sum := "ffa31846b6ede65b10d818a6ae86180c9449ab5f285b6a1c81b0910eeee29dbf", func := "bookend/bookendlaw03.EntriesSorted", spec := "entriesSorted", inPlace := ["internal/bytealg.abigen_runtime_cmpstring", "internal/abi.NoEscape"], unfollowed := true, recurses := true, named := ["bookend/words.escapes", "internal/strconv.uint64pow10", "math/bits.deBruijn32tab", "math/bits.deBruijn64tab"], apart := false, laid := [("math/bits.deBruijn32tab", laid_math_bits_deBruijn32tab), ("math/bits.deBruijn64tab", laid_math_bits_deBruijn64tab), ("internal/strconv.uint64pow10", laid_internal_strconv_uint64pow10), ("bookend/words.escapes", laid_bookend_words_escapes)] }
def EntriesSortedSaid : Prop := entriesSortedRow.holds Tryd.pinned (OpenSpec.ofChange entriesSortedSpec)

/-- ITS FALSE NEIGHBOUR: 'it returns false'. Refute it at one input. -/
def entriesSortedWrong : ChangeSpec := { name := "entriesSorted", fn := fun _ => fun
  | [d] => { results := [.lit (.bool false)], args := [d] }
  | _ => none }
def EntriesSortedWrongFalsely : Prop := entriesSortedRow.holds Tryd.pinned (OpenSpec.ofChange entriesSortedWrong)

/-- 'bookendlaw03.EntriesNewest': WHATEVER THE INPUT: true; the input reads as it did. -/
def entriesNewestSpec : ChangeSpec := { name := "entriesNewest", fn := fun _ => fun
  | [d] => { results := [.lit (.bool true)], args := [d] }
  | _ => none }
def entriesNewestRow : OpenClaim := { program := "ytbdiiopmjaeaaaadoor", sum := "ffa31846b6ede65b10d818a6ae86180c9449ab5f285b6a1c81b0910eeee29dbf", func := "bookend/bookendlaw03.EntriesNewest", spec := "entriesNewest", inPlace := ["internal/bytealg.abigen_runtime_cmpstring", "internal/abi.NoEscape"], unfollowed := true, recurses := true, named := ["bookend/words.escapes", "internal/strconv.uint64pow10", "math/bits.deBruijn32tab", "math/bits.deBruijn64tab"], apart := false, laid := [("math/bits.deBruijn32tab", laid_math_bits_deBruijn32tab), ("math/bits.deBruijn64tab", laid_math_bits_deBruijn64tab), ("internal/strconv.uint64pow10", laid_internal_strconv_uint64pow10), ("bookend/words.escapes", laid_bookend_words_escapes)] }
def EntriesNewestSaid : Prop := entriesNewestRow.holds Tryd.pinned (OpenSpec.ofChange entriesNewestSpec)

/-- ITS FALSE NEIGHBOUR: 'it returns false'. Refute it at one input. -/
def entriesNewestWrong : ChangeSpec := { name := "entriesNewest", fn := fun _ => fun
  | [d] => { results := [.lit (.bool false)], args := [d] }
  | _ => none }
def EntriesNewestWrongFalsely : Prop := entriesNewestRow.holds Tryd.pinned (OpenSpec.ofChange entriesNewestWrong)

/-- 'bookendlaw03.EntriesSorts': WHATEVER THE INPUT: true; the input reads as it did. -/
def entriesSortsSpec : ChangeSpec := { name := "entriesSorts", fn := fun _ => fun
  | [d1, d2] => { results := [.lit (.bool true)], args := [d1, d2] }
  | _ => none }
def entriesSortsRow : OpenClaim := { program := "ytbdiiopmjaeaaaadoor", sum := "ffa31846b6ede65b10d818a6ae86180c9449ab5f285b6a1c81b0910eeee29dbf", func := "bookend/bookendlaw03.EntriesSorts", spec := "entriesSorts", inPlace := ["internal/bytealg.abigen_runtime_cmpstring", "internal/abi.NoEscape"], unfollowed := true, recurses := true, named := ["bookend/words.escapes", "internal/strconv.uint64pow10", "math/bits.deBruijn32tab", "math/bits.deBruijn64tab"], apart := false, laid := [("math/bits.deBruijn32tab", laid_math_bits_deBruijn32tab), ("math/bits.deBruijn64tab", laid_math_bits_deBruijn64tab), ("internal/strconv.uint64pow10", laid_internal_strconv_uint64pow10), ("bookend/words.escapes", laid_bookend_words_escapes)] }
def EntriesSortsSaid : Prop := entriesSortsRow.holds Tryd.pinned (OpenSpec.ofChange entriesSortsSpec)

/-- ITS FALSE NEIGHBOUR: 'it returns false'. Refute it at one input. -/
def entriesSortsWrong : ChangeSpec := { name := "entriesSorts", fn := fun _ => fun
  | [d1, d2] => { results := [.lit (.bool false)], args := [d1, d2] }
  | _ => none }
def EntriesSortsWrongFalsely : Prop := entriesSortsRow.holds Tryd.pinned (OpenSpec.ofChange entriesSortsWrong)

/-- 'bookendlaw03.EntriesLists': WHATEVER THE INPUT: true; the input reads as it did. -/
def entriesListsSpec : ChangeSpec := { name := "entriesLists", fn := fun _ => fun
  | [d1, d2] => { results := [.lit (.bool true)], args := [d1, d2] }
  | _ => none }
def entriesListsRow : OpenClaim := { program := "ytbdiiopmjaeaaaadoor", sum := "ffa31846b6ede65b10d818a6ae86180c9449ab5f285b6a1c81b0910eeee29dbf", func := "bookend/bookendlaw03.EntriesLists", spec := "entriesLists", inPlace := ["internal/bytealg.abigen_runtime_cmpstring", "internal/abi.NoEscape"], unfollowed := true, recurses := true, named := ["bookend/words.escapes", "internal/strconv.uint64pow10", "math/bits.deBruijn32tab", "math/bits.deBruijn64tab"], apart := false, laid := [("math/bits.deBruijn32tab", laid_math_bits_deBruijn32tab), ("math/bits.deBruijn64tab", laid_math_bits_deBruijn64tab), ("internal/strconv.uint64pow10", laid_internal_strconv_uint64pow10), ("bookend/words.escapes", laid_bookend_words_escapes)] }
def EntriesListsSaid : Prop := entriesListsRow.holds Tryd.pinned (OpenSpec.ofChange entriesListsSpec)

/-- ITS FALSE NEIGHBOUR: 'it returns false'. Refute it at one input. -/
def entriesListsWrong : ChangeSpec := { name := "entriesLists", fn := fun _ => fun
  | [d1, d2] => { results := [.lit (.bool false)], args := [d1, d2] }
  | _ => none }
def EntriesListsWrongFalsely : Prop := entriesListsRow.holds Tryd.pinned (OpenSpec.ofChange entriesListsWrong)

/-- 'bookendlaw03.EntriesKnown': WHATEVER THE INPUT: true; the input reads as it did. -/
def entriesKnownSpec : ChangeSpec := { name := "entriesKnown", fn := fun _ => fun
  | [] => { results := [.lit (.bool true)], args := [] }
  | _ => none }
def entriesKnownRow : OpenClaim := { program := "ytbdiiopmjaeaaaadoor", sum := "ffa31846b6ede65b10d818a6ae86180c9449ab5f285b6a1c81b0910eeee29dbf", func := "bookend/bookendlaw03.EntriesKnown", spec := "entriesKnown", inPlace := ["internal/bytealg.abigen_runtime_cmpstring", "internal/abi.NoEscape"], unfollowed := true, recurses := true, named := ["bookend/words.escapes", "internal/strconv.uint64pow10", "math/bits.deBruijn32tab", "math/bits.deBruijn64tab"], apart := false, laid := [("math/bits.deBruijn32tab", laid_math_bits_deBruijn32tab), ("math/bits.deBruijn64tab", laid_math_bits_deBruijn64tab), ("internal/strconv.uint64pow10", laid_internal_strconv_uint64pow10), ("bookend/words.escapes", laid_bookend_words_escapes)] }
def EntriesKnownSaid : Prop := entriesKnownRow.holds Tryd.pinned (OpenSpec.ofChange entriesKnownSpec)

/-- ITS FALSE NEIGHBOUR: 'it returns false'. Refute it at one input. -/
def entriesKnownWrong : ChangeSpec := { name := "entriesKnown", fn := fun _ => fun
  | [] => { results := [.lit (.bool false)], args := [] }
  | _ => none }
def EntriesKnownWrongFalsely : Prop := entriesKnownRow.holds Tryd.pinned (OpenSpec.ofChange entriesKnownWrong)

/-- 'bookendlaw03.EntriesLayers': WHATEVER THE INPUT: true; the input reads as it did. -/
def entriesLayersSpec : ChangeSpec := { name := "entriesLayers", fn := fun _ => fun
  | [d1, d2, d3] => { results := [.lit (.bool true)], args := [d1, d2, d3] }
  | _ => none }
def entriesLayersRow : OpenClaim := { program := "ytbdiiopmjaeaaaadoor", sum := "ffa31846b6ede65b10d818a6ae86180c9449ab5f285b6a1c81b0910eeee29dbf", func := "bookend/bookendlaw03.EntriesLayers", spec := "entriesLayers", inPlace := ["internal/bytealg.abigen_runtime_cmpstring", "internal/abi.NoEscape"], unfollowed := true, recurses := true, named := ["bookend/words.escapes", "internal/strconv.uint64pow10", "math/bits.deBruijn32tab", "math/bits.deBruijn64tab"], apart := false, laid := [("math/bits.deBruijn32tab", laid_math_bits_deBruijn32tab), ("math/bits.deBruijn64tab", laid_math_bits_deBruijn64tab), ("internal/strconv.uint64pow10", laid_internal_strconv_uint64pow10), ("bookend/words.escapes", laid_bookend_words_escapes)] }
def EntriesLayersSaid : Prop := entriesLayersRow.holds Tryd.pinned (OpenSpec.ofChange entriesLayersSpec)

/-- ITS FALSE NEIGHBOUR: 'it returns false'. Refute it at one input. -/
def entriesLayersWrong : ChangeSpec := { name := "entriesLayers", fn := fun _ => fun
  | [d1, d2, d3] => { results := [.lit (.bool false)], args := [d1, d2, d3] }
  | _ => none }
def EntriesLayersWrongFalsely : Prop := entriesLayersRow.holds Tryd.pinned (OpenSpec.ofChange entriesLayersWrong)

/- THE SECOND FORM. 'bulk': how many values and letters a reading holds, each counted each time it is reached (what is shared counts as often as it is met; a slice's spare places count too). A statement '..UptoSaid' is the law's where the arguments, and the package variables that the reading takes, are together of bulk at most 1048576: NARROWER than '..Said'. Prove '..Said' where nothing that the law and all that it calls make is longer than what came in: it says more and counts as full. Else prove '..UptoSaid'. A law counts once. -/
mutual
def uptoBulk {H : Type} : DataW H → Nat
  | .lit (.string bytes) => bytes.length + 1
  | .lit _ => 1
  | .nil => 1
  | .ptr d => uptoBulk d + 1
  | .slice elems spare => uptoBulkAll elems + uptoBulkAll spare + 1
  | .agg parts => uptoBulkAll parts + 1
  | .iface _ d => uptoBulk d + 1
  | .map entries => uptoBulkEntries entries + 1
  | .held _ => 1
def uptoBulkAll {H : Type} : List (DataW H) → Nat
  | [] => 0
  | d :: r => uptoBulk d + uptoBulkAll r
def uptoBulkEntries {H : Type} : List (Lit × DataW H) → Nat
  | [] => 0
  | x :: r => uptoBulkEntry x + uptoBulkEntries r
def uptoBulkEntry {H : Type} : Lit × DataW H → Nat
  | (.string bytes, d) => bytes.length + uptoBulk d + 1
  | (_, d) => uptoBulk d + 1
 end
def uptoSmall : (H : Type) → List (DataW H) → Bool := fun _ ds => decide (uptoBulkAll ds ≤ 1048576)
def OpenSpec.upto (s : _root_.Go.ChangeSpec) : _root_.Go.OpenSpec := { _root_.Go.OpenSpec.ofChange s with cond := some uptoSmall }

/-- 'bookendlaw03.EntriesPairs', WHERE WHAT IT READS IS OF BULK AT MOST 1048576: true; the input reads as it did. -/
def entriesPairsUptoRow : OpenClaim := { program := "ytbdiiopmjaeaaaadoor", sum := "ffa31846b6ede65b10d818a6ae86180c9449ab5f285b6a1c81b0910eeee29dbf", func := "bookend/bookendlaw03.EntriesPairs", spec := "entriesPairs", inPlace := ["internal/bytealg.abigen_runtime_cmpstring", "internal/abi.NoEscape"], unfollowed := true, recurses := true, named := ["bookend/words.escapes", "internal/strconv.uint64pow10", "math/bits.deBruijn32tab", "math/bits.deBruijn64tab"], apart := false, laid := [("math/bits.deBruijn32tab", laid_math_bits_deBruijn32tab), ("math/bits.deBruijn64tab", laid_math_bits_deBruijn64tab), ("internal/strconv.uint64pow10", laid_internal_strconv_uint64pow10), ("bookend/words.escapes", laid_bookend_words_escapes)], narrowed := true }
def EntriesPairsUptoSaid : Prop := entriesPairsUptoRow.holds Tryd.pinned (OpenSpec.upto entriesPairsSpec)

/-- 'bookendlaw03.EntriesSorted', WHERE WHAT IT READS IS OF BULK AT MOST 1048576: true; the input reads as it did. -/
def entriesSortedUptoRow : OpenClaim := { program := "ytbdiiopmjaeaaaadoor", sum := "ffa31846b6ede65b10d818a6ae86180c9449ab5f285b6a1c81b0910eeee29dbf", func := "bookend/bookendlaw03.EntriesSorted", spec := "entriesSorted", inPlace := ["internal/bytealg.abigen_runtime_cmpstring", "internal/abi.NoEscape"], unfollowed := true, recurses := true, named := ["bookend/words.escapes", "internal/strconv.uint64pow10", "math/bits.deBruijn32tab", "math/bits.deBruijn64tab"], apart := false, laid := [("math/bits.deBruijn32tab", laid_math_bits_deBruijn32tab), ("math/bits.deBruijn64tab", laid_math_bits_deBruijn64tab), ("internal/strconv.uint64pow10", laid_internal_strconv_uint64pow10), ("bookend/words.escapes", laid_bookend_words_escapes)], narrowed := true }
def EntriesSortedUptoSaid : Prop := entriesSortedUptoRow.holds Tryd.pinned (OpenSpec.upto entriesSortedSpec)

/-- 'bookendlaw03.EntriesNewest', WHERE WHAT IT READS IS OF BULK AT MOST 1048576: true; the input reads as it did. -/
def entriesNewestUptoRow : OpenClaim := { program := "ytbdiiopmjaeaaaadoor", sum := "ffa31846b6ede65b10d818a6ae86180c9449ab5f285b6a1c81b0910eeee29dbf", func := "bookend/bookendlaw03.EntriesNewest", spec := "entriesNewest", inPlace := ["internal/bytealg.abigen_runtime_cmpstring", "internal/abi.NoEscape"], unfollowed := true, recurses := true, named := ["bookend/words.escapes", "internal/strconv.uint64pow10", "math/bits.deBruijn32tab", "math/bits.deBruijn64tab"], apart := false, laid := [("math/bits.deBruijn32tab", laid_math_bits_deBruijn32tab), ("math/bits.deBruijn64tab", laid_math_bits_deBruijn64tab), ("internal/strconv.uint64pow10", laid_internal_strconv_uint64pow10), ("bookend/words.escapes", laid_bookend_words_escapes)], narrowed := true }
def EntriesNewestUptoSaid : Prop := entriesNewestUptoRow.holds Tryd.pinned (OpenSpec.upto entriesNewestSpec)

/-- 'bookendlaw03.EntriesSorts', WHERE WHAT IT READS IS OF BULK AT MOST 1048576: true; the input reads as it did. -/
def entriesSortsUptoRow : OpenClaim := { program := "ytbdiiopmjaeaaaadoor", sum := "ffa31846b6ede65b10d818a6ae86180c9449ab5f285b6a1c81b0910eeee29dbf", func := "bookend/bookendlaw03.EntriesSorts", spec := "entriesSorts", inPlace := ["internal/bytealg.abigen_runtime_cmpstring", "internal/abi.NoEscape"], unfollowed := true, recurses := true, named := ["bookend/words.escapes", "internal/strconv.uint64pow10", "math/bits.deBruijn32tab", "math/bits.deBruijn64tab"], apart := false, laid := [("math/bits.deBruijn32tab", laid_math_bits_deBruijn32tab), ("math/bits.deBruijn64tab", laid_math_bits_deBruijn64tab), ("internal/strconv.uint64pow10", laid_internal_strconv_uint64pow10), ("bookend/words.escapes", laid_bookend_words_escapes)], narrowed := true }
def EntriesSortsUptoSaid : Prop := entriesSortsUptoRow.holds Tryd.pinned (OpenSpec.upto entriesSortsSpec)

/-- 'bookendlaw03.EntriesLists', WHERE WHAT IT READS IS OF BULK AT MOST 1048576: true; the input reads as it did. -/
def entriesListsUptoRow : OpenClaim := { program := "ytbdiiopmjaeaaaadoor", sum := "ffa31846b6ede65b10d818a6ae86180c9449ab5f285b6a1c81b0910eeee29dbf", func := "bookend/bookendlaw03.EntriesLists", spec := "entriesLists", inPlace := ["internal/bytealg.abigen_runtime_cmpstring", "internal/abi.NoEscape"], unfollowed := true, recurses := true, named := ["bookend/words.escapes", "internal/strconv.uint64pow10", "math/bits.deBruijn32tab", "math/bits.deBruijn64tab"], apart := false, laid := [("math/bits.deBruijn32tab", laid_math_bits_deBruijn32tab), ("math/bits.deBruijn64tab", laid_math_bits_deBruijn64tab), ("internal/strconv.uint64pow10", laid_internal_strconv_uint64pow10), ("bookend/words.escapes", laid_bookend_words_escapes)], narrowed := true }
def EntriesListsUptoSaid : Prop := entriesListsUptoRow.holds Tryd.pinned (OpenSpec.upto entriesListsSpec)

/-- 'bookendlaw03.EntriesKnown', WHERE WHAT IT READS IS OF BULK AT MOST 1048576: true; the input reads as it did. -/
def entriesKnownUptoRow : OpenClaim := { program := "ytbdiiopmjaeaaaadoor", sum := "ffa31846b6ede65b10d818a6ae86180c9449ab5f285b6a1c81b0910eeee29dbf", func := "bookend/bookendlaw03.EntriesKnown", spec := "entriesKnown", inPlace := ["internal/bytealg.abigen_runtime_cmpstring", "internal/abi.NoEscape"], unfollowed := true, recurses := true, named := ["bookend/words.escapes", "internal/strconv.uint64pow10", "math/bits.deBruijn32tab", "math/bits.deBruijn64tab"], apart := false, laid := [("math/bits.deBruijn32tab", laid_math_bits_deBruijn32tab), ("math/bits.deBruijn64tab", laid_math_bits_deBruijn64tab), ("internal/strconv.uint64pow10", laid_internal_strconv_uint64pow10), ("bookend/words.escapes", laid_bookend_words_escapes)], narrowed := true }
def EntriesKnownUptoSaid : Prop := entriesKnownUptoRow.holds Tryd.pinned (OpenSpec.upto entriesKnownSpec)

/-- 'bookendlaw03.EntriesLayers', WHERE WHAT IT READS IS OF BULK AT MOST 1048576: true; the input reads as it did. -/
def entriesLayersUptoRow : OpenClaim := { program := "ytbdiiopmjaeaaaadoor", sum := "ffa31846b6ede65b10d818a6ae86180c9449ab5f285b6a1c81b0910eeee29dbf", func := "bookend/bookendlaw03.EntriesLayers", spec := "entriesLayers", inPlace := ["internal/bytealg.abigen_runtime_cmpstring", "internal/abi.NoEscape"], unfollowed := true, recurses := true, named := ["bookend/words.escapes", "internal/strconv.uint64pow10", "math/bits.deBruijn32tab", "math/bits.deBruijn64tab"], apart := false, laid := [("math/bits.deBruijn32tab", laid_math_bits_deBruijn32tab), ("math/bits.deBruijn64tab", laid_math_bits_deBruijn64tab), ("internal/strconv.uint64pow10", laid_internal_strconv_uint64pow10), ("bookend/words.escapes", laid_bookend_words_escapes)], narrowed := true }
def EntriesLayersUptoSaid : Prop := entriesLayersUptoRow.holds Tryd.pinned (OpenSpec.upto entriesLayersSpec)

end Rows
end Go.Proofs.YtbdiiopmjaeaaaaDoor
