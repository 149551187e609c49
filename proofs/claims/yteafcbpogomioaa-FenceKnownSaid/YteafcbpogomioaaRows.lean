/-
  No cell of these rows narrows 'for every input' (looked for: loops, veiled, ifaces, maps, wideKeys, modest, calm, conditions, laid).
  DERIVED. THE GIVEN ROWS OF THIS SEAT. 7 by the template 'for every input the law returns true; each argument reads behind the call as it read before'; 0 by the template 'total and deterministic' (their statements: YteafcbpogomioaaTotals.lean).
  GIVEN WITH THE SEED: the statements are not yours to turn. If you find one false, say at which input.
  Laid BY PROGRAM, IN A SANDBOX (cutbox-rows.mjs): the forced cells as the released guide's own fill.sh prints them over the translation 51f9ba4573381bd9… (all of the seat's roots in one cut). By AI agents, Wed Nov 11 2026. No macro, syntax, notation, axiom, sorry.
-/
import Derived.Test.YteafcbpogomioaaChecked
import GoSem.Claim
import GoSem.ClaimJoined
import GoSem.ClaimMapViews
import Derived.JoinedTies
import Derived.KernelRfl
namespace Go.Proofs.Yteafcbpogomioaa
/- THE CELL 'sum', in the pinned program and in every row, IS THE sha256 OF THE DUMP (.gsa) THAT YteafcbpogomioaaProg.lean LOADS. Nothing in Lean hashes anything: it is a label: what it is worth is what the hold of that sum in a sandbox is worth. -/
noncomputable def Try.pinned : Pinned := { name := "yteafcbpogomioaa", sum := "51f9ba4573381bd935ad0542c1e61cb8314452b88eb7b4dcaadd744a256f237a", checked := Try.checked }
namespace Rows
def none {H : Type} : Left H := { results := [], args := [] }

/-- 'bookendlaw07.FenceMakes': WHATEVER THE INPUT: true; the input reads as it did. -/
def fenceMakesSpec : ChangeSpec := { name := "fenceMakes", fn := fun _ => fun
  | [d1, d2, d3] => { results := [.lit (.bool true)], args := [d1, d2, d3] }
  | _ => none }
def fenceMakesRow : OpenClaim := { program := "yteafcbpogomioaa", sum := "51f9ba4573381bd935ad0542c1e61cb8314452b88eb7b4dcaadd744a256f237a", func := "bookend/bookendlaw07.FenceMakes", spec := "fenceMakes", unfollowed := true, recurses := true, apart := false }
def FenceMakesSaid : Prop := fenceMakesRow.holds Try.pinned (OpenSpec.ofChange fenceMakesSpec)

/-- ITS FALSE NEIGHBOUR: 'it returns false'. Refute it at one input. -/
def fenceMakesWrong : ChangeSpec := { name := "fenceMakes", fn := fun _ => fun
  | [d1, d2, d3] => { results := [.lit (.bool false)], args := [d1, d2, d3] }
  | _ => none }
def FenceMakesWrongFalsely : Prop := fenceMakesRow.holds Try.pinned (OpenSpec.ofChange fenceMakesWrong)

/-- 'bookendlaw07.FenceShort': WHATEVER THE INPUT: true; the input reads as it did. -/
def fenceShortSpec : ChangeSpec := { name := "fenceShort", fn := fun _ => fun
  | [d1, d2] => { results := [.lit (.bool true)], args := [d1, d2] }
  | _ => none }
def fenceShortRow : OpenClaim := { program := "yteafcbpogomioaa", sum := "51f9ba4573381bd935ad0542c1e61cb8314452b88eb7b4dcaadd744a256f237a", func := "bookend/bookendlaw07.FenceShort", spec := "fenceShort", unfollowed := true, recurses := true, apart := false }
def FenceShortSaid : Prop := fenceShortRow.holds Try.pinned (OpenSpec.ofChange fenceShortSpec)

/-- ITS FALSE NEIGHBOUR: 'it returns false'. Refute it at one input. -/
def fenceShortWrong : ChangeSpec := { name := "fenceShort", fn := fun _ => fun
  | [d1, d2] => { results := [.lit (.bool false)], args := [d1, d2] }
  | _ => none }
def FenceShortWrongFalsely : Prop := fenceShortRow.holds Try.pinned (OpenSpec.ofChange fenceShortWrong)

/-- 'bookendlaw07.FenceBlocks': WHATEVER THE INPUT: true; the input reads as it did. -/
def fenceBlocksSpec : ChangeSpec := { name := "fenceBlocks", fn := fun _ => fun
  | [d1, d2, d3] => { results := [.lit (.bool true)], args := [d1, d2, d3] }
  | _ => none }
def fenceBlocksRow : OpenClaim := { program := "yteafcbpogomioaa", sum := "51f9ba4573381bd935ad0542c1e61cb8314452b88eb7b4dcaadd744a256f237a", func := "bookend/bookendlaw07.FenceBlocks", spec := "fenceBlocks", unfollowed := true, recurses := true, apart := false }
def FenceBlocksSaid : Prop := fenceBlocksRow.holds Try.pinned (OpenSpec.ofChange fenceBlocksSpec)

/-- ITS FALSE NEIGHBOUR: 'it returns false'. Refute it at one input. -/
def fenceBlocksWrong : ChangeSpec := { name := "fenceBlocks", fn := fun _ => fun
  | [d1, d2, d3] => { results := [.lit (.bool false)], args := [d1, d2, d3] }
  | _ => none }
def FenceBlocksWrongFalsely : Prop := fenceBlocksRow.holds Try.pinned (OpenSpec.ofChange fenceBlocksWrong)

/-- 'bookendlaw07.FenceFinds': WHATEVER THE INPUT: true; the input reads as it did. -/
def fenceFindsSpec : ChangeSpec := { name := "fenceFinds", fn := fun _ => fun
  | [d1, d2, d3] => { results := [.lit (.bool true)], args := [d1, d2, d3] }
  | _ => none }
def fenceFindsRow : OpenClaim := { program := "yteafcbpogomioaa", sum := "51f9ba4573381bd935ad0542c1e61cb8314452b88eb7b4dcaadd744a256f237a", func := "bookend/bookendlaw07.FenceFinds", spec := "fenceFinds", unfollowed := true, recurses := true, apart := false }
def FenceFindsSaid : Prop := fenceFindsRow.holds Try.pinned (OpenSpec.ofChange fenceFindsSpec)

/-- ITS FALSE NEIGHBOUR: 'it returns false'. Refute it at one input. -/
def fenceFindsWrong : ChangeSpec := { name := "fenceFinds", fn := fun _ => fun
  | [d1, d2, d3] => { results := [.lit (.bool false)], args := [d1, d2, d3] }
  | _ => none }
def FenceFindsWrongFalsely : Prop := fenceFindsRow.holds Try.pinned (OpenSpec.ofChange fenceFindsWrong)

/-- 'bookendlaw07.FenceSpans': WHATEVER THE INPUT: true; the input reads as it did. -/
def fenceSpansSpec : ChangeSpec := { name := "fenceSpans", fn := fun _ => fun
  | [d1, d2, d3] => { results := [.lit (.bool true)], args := [d1, d2, d3] }
  | _ => none }
def fenceSpansRow : OpenClaim := { program := "yteafcbpogomioaa", sum := "51f9ba4573381bd935ad0542c1e61cb8314452b88eb7b4dcaadd744a256f237a", func := "bookend/bookendlaw07.FenceSpans", spec := "fenceSpans", unfollowed := true, recurses := true, apart := false }
def FenceSpansSaid : Prop := fenceSpansRow.holds Try.pinned (OpenSpec.ofChange fenceSpansSpec)

/-- ITS FALSE NEIGHBOUR: 'it returns false'. Refute it at one input. -/
def fenceSpansWrong : ChangeSpec := { name := "fenceSpans", fn := fun _ => fun
  | [d1, d2, d3] => { results := [.lit (.bool false)], args := [d1, d2, d3] }
  | _ => none }
def FenceSpansWrongFalsely : Prop := fenceSpansRow.holds Try.pinned (OpenSpec.ofChange fenceSpansWrong)

/-- 'bookendlaw07.FenceRanges': WHATEVER THE INPUT: true; the input reads as it did. -/
def fenceRangesSpec : ChangeSpec := { name := "fenceRanges", fn := fun _ => fun
  | [d1, d2, d3] => { results := [.lit (.bool true)], args := [d1, d2, d3] }
  | _ => none }
def fenceRangesRow : OpenClaim := { program := "yteafcbpogomioaa", sum := "51f9ba4573381bd935ad0542c1e61cb8314452b88eb7b4dcaadd744a256f237a", func := "bookend/bookendlaw07.FenceRanges", spec := "fenceRanges", unfollowed := true, recurses := true, apart := false }
def FenceRangesSaid : Prop := fenceRangesRow.holds Try.pinned (OpenSpec.ofChange fenceRangesSpec)

/-- ITS FALSE NEIGHBOUR: 'it returns false'. Refute it at one input. -/
def fenceRangesWrong : ChangeSpec := { name := "fenceRanges", fn := fun _ => fun
  | [d1, d2, d3] => { results := [.lit (.bool false)], args := [d1, d2, d3] }
  | _ => none }
def FenceRangesWrongFalsely : Prop := fenceRangesRow.holds Try.pinned (OpenSpec.ofChange fenceRangesWrong)

/-- 'bookendlaw07.FenceKnown': WHATEVER THE INPUT: true; the input reads as it did. -/
def fenceKnownSpec : ChangeSpec := { name := "fenceKnown", fn := fun _ => fun
  | [] => { results := [.lit (.bool true)], args := [] }
  | _ => none }
def fenceKnownRow : OpenClaim := { program := "yteafcbpogomioaa", sum := "51f9ba4573381bd935ad0542c1e61cb8314452b88eb7b4dcaadd744a256f237a", func := "bookend/bookendlaw07.FenceKnown", spec := "fenceKnown", unfollowed := true, recurses := true, apart := false }
def FenceKnownSaid : Prop := fenceKnownRow.holds Try.pinned (OpenSpec.ofChange fenceKnownSpec)

/-- ITS FALSE NEIGHBOUR: 'it returns false'. Refute it at one input. -/
def fenceKnownWrong : ChangeSpec := { name := "fenceKnown", fn := fun _ => fun
  | [] => { results := [.lit (.bool false)], args := [] }
  | _ => none }
def FenceKnownWrongFalsely : Prop := fenceKnownRow.holds Try.pinned (OpenSpec.ofChange fenceKnownWrong)

/- THE SECOND FORM. 'bulk': how many values and letters a reading holds, each counted each time it is reached (what is shared counts as often as it is met; a slice's spare places count too). A statement '..UptoSaid' is the law's where the arguments, and the package variables that the reading takes, are together of bulk at most 1048576: NARROWER than '..Said'. Prove '..Said' where nothing that the law and all that it calls make is longer than what came in: it says more and counts as full. Else prove '..UptoSaid'. A law counts once. -/
mutual
def uptoBulk {H : Type} : DataW H → Nat
  | .lit (.string bytes) => bytes.length + 1
  | .lit _ => 1
  | .nil => 1
  | .ptr d => uptoBulk d + 1
  | .slice elems spare => uptoBulkAll elems + uptoBulkAll spare + 1
  | .agg parts => uptoBulkAll parts + 1
  | .iface _ d => uptoBulk d + 1
  | .map entries => uptoBulkEntries entries + 1
  | .held _ => 1
def uptoBulkAll {H : Type} : List (DataW H) → Nat
  | [] => 0
  | d :: r => uptoBulk d + uptoBulkAll r
def uptoBulkEntries {H : Type} : List (Lit × DataW H) → Nat
  | [] => 0
  | x :: r => uptoBulkEntry x + uptoBulkEntries r
def uptoBulkEntry {H : Type} : Lit × DataW H → Nat
  | (.string bytes, d) => bytes.length + uptoBulk d + 1
  | (_, d) => uptoBulk d + 1
 end
def uptoSmall : (H : Type) → List (DataW H) → Bool := fun _ ds => decide (uptoBulkAll ds ≤ 1048576)
def OpenSpec.upto (s : _root_.Go.ChangeSpec) : _root_.Go.OpenSpec := { _root_.Go.OpenSpec.ofChange s with cond := some uptoSmall }

/-- 'bookendlaw07.FenceMakes', WHERE WHAT IT READS IS OF BULK AT MOST 1048576: true; the input reads as it did. -/
def fenceMakesUptoRow : OpenClaim := { program := "yteafcbpogomioaa", sum := "51f9ba4573381bd935ad0542c1e61cb8314452b88eb7b4dcaadd744a256f237a", func := "bookend/bookendlaw07.FenceMakes", spec := "fenceMakes", unfollowed := true, recurses := true, apart := false, narrowed := true }
def FenceMakesUptoSaid : Prop := fenceMakesUptoRow.holds Try.pinned (OpenSpec.upto fenceMakesSpec)

/-- 'bookendlaw07.FenceShort', WHERE WHAT IT READS IS OF BULK AT MOST 1048576: true; the input reads as it did. -/
def fenceShortUptoRow : OpenClaim := { program := "yteafcbpogomioaa", sum := "51f9ba4573381bd935ad0542c1e61cb8314452b88eb7b4dcaadd744a256f237a", func := "bookend/bookendlaw07.FenceShort", spec := "fenceShort", unfollowed := true, recurses := true, apart := false, narrowed := true }
def FenceShortUptoSaid : Prop := fenceShortUptoRow.holds Try.pinned (OpenSpec.upto fenceShortSpec)

/-- 'bookendlaw07.FenceBlocks', WHERE WHAT IT READS IS OF BULK AT MOST 1048576: true; the input reads as it did. -/
def fenceBlocksUptoRow : OpenClaim := { program := "yteafcbpogomioaa", sum := "51f9ba4573381bd935ad0542c1e61cb8314452b88eb7b4dcaadd744a256f237a", func := "bookend/bookendlaw07.FenceBlocks", spec := "fenceBlocks", unfollowed := true, recurses := true, apart := false, narrowed := true }
def FenceBlocksUptoSaid : Prop := fenceBlocksUptoRow.holds Try.pinned (OpenSpec.upto fenceBlocksSpec)

/-- 'bookendlaw07.FenceFinds', WHERE WHAT IT READS IS OF BULK AT MOST 1048576: true; the input reads as it did. -/
def fenceFindsUptoRow : OpenClaim := { program := "yteafcbpogomioaa", sum := "51f9ba4573381bd935ad0542c1e61cb8314452b88eb7b4dcaadd744a256f237a", func := "bookend/bookendlaw07.FenceFinds", spec := "fenceFinds", unfollowed := true, recurses := true, apart := false, narrowed := true }
def FenceFindsUptoSaid : Prop := fenceFindsUptoRow.holds Try.pinned (OpenSpec.upto fenceFindsSpec)

/-- 'bookendlaw07.FenceSpans', WHERE WHAT IT READS IS OF BULK AT MOST 1048576: true; the input reads as it did. -/
def fenceSpansUptoRow : OpenClaim := { program := "yteafcbpogomioaa", sum := "51f9ba4573381bd935ad0542c1e61cb8314452b88eb7b4dcaadd744a256f237a", func := "bookend/bookendlaw07.FenceSpans", spec := "fenceSpans", unfollowed := true, recurses := true, apart := false, narrowed := true }
def FenceSpansUptoSaid : Prop := fenceSpansUptoRow.holds Try.pinned (OpenSpec.upto fenceSpansSpec)

/-- 'bookendlaw07.FenceRanges', WHERE WHAT IT READS IS OF BULK AT MOST 1048576: true; the input reads as it did. -/
def fenceRangesUptoRow : OpenClaim := { program := "yteafcbpogomioaa", sum := "51f9ba4573381bd935ad0542c1e61cb8314452b88eb7b4dcaadd744a256f237a", func := "bookend/bookendlaw07.FenceRanges", spec := "fenceRanges", unfollowed := true, recurses := true, apart := false, narrowed := true }
def FenceRangesUptoSaid : Prop := fenceRangesUptoRow.holds Try.pinned (OpenSpec.upto fenceRangesSpec)

/-- 'bookendlaw07.FenceKnown', WHERE WHAT IT READS IS OF BULK AT MOST 1048576: true; the input reads as it did. -/
def fenceKnownUptoRow : OpenClaim := { program := "yteafcbpogomioaa", sum := "51f9ba4573381bd935ad0542c1e61cb8314452b88eb7b4dcaadd744a256f237a", func := "bookend/bookendlaw07.FenceKnown", spec := "fenceKnown", unfollowed := true, recurses := true, apart := false, narrowed := true }
def FenceKnownUptoSaid : Prop := fenceKnownUptoRow.holds Try.pinned (OpenSpec.upto fenceKnownSpec)

end Rows
end Go.Proofs.Yteafcbpogomioaa
