/-
  No cell of these rows narrows 'for every input' (looked for: loops, veiled, ifaces, maps, wideKeys, modest, calm, conditions, laid).
  DERIVED. THE GIVEN ROWS OF THIS SEAT. 6 by the template 'for every input the law returns true; each argument reads behind the call as it read before'; 0 by the template 'total and deterministic' (their statements: YtndcjgkgkpkklaaTotals.lean).
  GIVEN WITH THE SEED: the statements are not yours to turn. If you find one false, say at which input.
  Laid BY PROGRAM, IN A SANDBOX (cutbox-rows.mjs): the forced cells as the released guide's own fill.sh prints them over the translation cda50c5d26d6229b… (all of the seat's roots in one cut). By AI agents, Wed Nov 11 2026. No macro, syntax, notation, axiom, sorry.
-/
import Derived.Test.YtndcjgkgkpkklaaChecked
import GoSem.Claim
import GoSem.ClaimJoined
import GoSem.ClaimMapViews
import Derived.JoinedTies
import Derived.KernelRfl
namespace Go.Proofs.Ytndcjgkgkpkklaa
/- THE CELL 'sum', in the pinned program and in every row, IS THE sha256 OF THE DUMP (.gsa) THAT YtndcjgkgkpkklaaProg.lean LOADS. Nothing in Lean hashes anything: it is a label: what it is worth is what the hold of that sum in a sandbox is worth. -/
noncomputable def Try.pinned : Pinned := { name := "ytndcjgkgkpkklaa", sum := "cda50c5d26d6229b8afce28c4d6198163f3cff8a5b7ba7905143787f20e35546", checked := Try.checked }
namespace Rows
def none {H : Type} : Left H := { results := [], args := [] }

/-- 'bookendlaw08.RunsFinds': WHATEVER THE INPUT: true; the input reads as it did. -/
def runsFindsSpec : ChangeSpec := { name := "runsFinds", fn := fun _ => fun
  | [d1, d2, d3] => { results := [.lit (.bool true)], args := [d1, d2, d3] }
  | _ => none }
def runsFindsRow : OpenClaim := { program := "ytndcjgkgkpkklaa", sum := "cda50c5d26d6229b8afce28c4d6198163f3cff8a5b7ba7905143787f20e35546", func := "bookend/bookendlaw08.RunsFinds", spec := "runsFinds", unfollowed := true, recurses := true, apart := false }
def RunsFindsSaid : Prop := runsFindsRow.holds Try.pinned (OpenSpec.ofChange runsFindsSpec)

/-- ITS FALSE NEIGHBOUR: 'it returns false'. Refute it at one input. -/
def runsFindsWrong : ChangeSpec := { name := "runsFinds", fn := fun _ => fun
  | [d1, d2, d3] => { results := [.lit (.bool false)], args := [d1, d2, d3] }
  | _ => none }
def RunsFindsWrongFalsely : Prop := runsFindsRow.holds Try.pinned (OpenSpec.ofChange runsFindsWrong)

/-- 'bookendlaw08.RunsNeighbours': WHATEVER THE INPUT: true; the input reads as it did. -/
def runsNeighboursSpec : ChangeSpec := { name := "runsNeighbours", fn := fun _ => fun
  | [d1, d2] => { results := [.lit (.bool true)], args := [d1, d2] }
  | _ => none }
def runsNeighboursRow : OpenClaim := { program := "ytndcjgkgkpkklaa", sum := "cda50c5d26d6229b8afce28c4d6198163f3cff8a5b7ba7905143787f20e35546", func := "bookend/bookendlaw08.RunsNeighbours", spec := "runsNeighbours", unfollowed := true, recurses := true, apart := false }
def RunsNeighboursSaid : Prop := runsNeighboursRow.holds Try.pinned (OpenSpec.ofChange runsNeighboursSpec)

/-- ITS FALSE NEIGHBOUR: 'it returns false'. Refute it at one input. -/
def runsNeighboursWrong : ChangeSpec := { name := "runsNeighbours", fn := fun _ => fun
  | [d1, d2] => { results := [.lit (.bool false)], args := [d1, d2] }
  | _ => none }
def RunsNeighboursWrongFalsely : Prop := runsNeighboursRow.holds Try.pinned (OpenSpec.ofChange runsNeighboursWrong)

/-- 'bookendlaw08.RunsCounts': WHATEVER THE INPUT: true; the input reads as it did. -/
def runsCountsSpec : ChangeSpec := { name := "runsCounts", fn := fun _ => fun
  | [d1, d2, d3] => { results := [.lit (.bool true)], args := [d1, d2, d3] }
  | _ => none }
def runsCountsRow : OpenClaim := { program := "ytndcjgkgkpkklaa", sum := "cda50c5d26d6229b8afce28c4d6198163f3cff8a5b7ba7905143787f20e35546", func := "bookend/bookendlaw08.RunsCounts", spec := "runsCounts", unfollowed := true, recurses := true, apart := false }
def RunsCountsSaid : Prop := runsCountsRow.holds Try.pinned (OpenSpec.ofChange runsCountsSpec)

/-- ITS FALSE NEIGHBOUR: 'it returns false'. Refute it at one input. -/
def runsCountsWrong : ChangeSpec := { name := "runsCounts", fn := fun _ => fun
  | [d1, d2, d3] => { results := [.lit (.bool false)], args := [d1, d2, d3] }
  | _ => none }
def RunsCountsWrongFalsely : Prop := runsCountsRow.holds Try.pinned (OpenSpec.ofChange runsCountsWrong)

/-- 'bookendlaw08.RunsEnds': WHATEVER THE INPUT: true; the input reads as it did. -/
def runsEndsSpec : ChangeSpec := { name := "runsEnds", fn := fun _ => fun
  | [d1, d2] => { results := [.lit (.bool true)], args := [d1, d2] }
  | _ => none }
def runsEndsRow : OpenClaim := { program := "ytndcjgkgkpkklaa", sum := "cda50c5d26d6229b8afce28c4d6198163f3cff8a5b7ba7905143787f20e35546", func := "bookend/bookendlaw08.RunsEnds", spec := "runsEnds", unfollowed := true, recurses := true, apart := false }
def RunsEndsSaid : Prop := runsEndsRow.holds Try.pinned (OpenSpec.ofChange runsEndsSpec)

/-- ITS FALSE NEIGHBOUR: 'it returns false'. Refute it at one input. -/
def runsEndsWrong : ChangeSpec := { name := "runsEnds", fn := fun _ => fun
  | [d1, d2] => { results := [.lit (.bool false)], args := [d1, d2] }
  | _ => none }
def RunsEndsWrongFalsely : Prop := runsEndsRow.holds Try.pinned (OpenSpec.ofChange runsEndsWrong)

/-- 'bookendlaw08.RunsParts': WHATEVER THE INPUT: true; the input reads as it did. -/
def runsPartsSpec : ChangeSpec := { name := "runsParts", fn := fun _ => fun
  | [d1, d2, d3] => { results := [.lit (.bool true)], args := [d1, d2, d3] }
  | _ => none }
def runsPartsRow : OpenClaim := { program := "ytndcjgkgkpkklaa", sum := "cda50c5d26d6229b8afce28c4d6198163f3cff8a5b7ba7905143787f20e35546", func := "bookend/bookendlaw08.RunsParts", spec := "runsParts", unfollowed := true, recurses := true, apart := false }
def RunsPartsSaid : Prop := runsPartsRow.holds Try.pinned (OpenSpec.ofChange runsPartsSpec)

/-- ITS FALSE NEIGHBOUR: 'it returns false'. Refute it at one input. -/
def runsPartsWrong : ChangeSpec := { name := "runsParts", fn := fun _ => fun
  | [d1, d2, d3] => { results := [.lit (.bool false)], args := [d1, d2, d3] }
  | _ => none }
def RunsPartsWrongFalsely : Prop := runsPartsRow.holds Try.pinned (OpenSpec.ofChange runsPartsWrong)

/-- 'bookendlaw08.RunsCovers': WHATEVER THE INPUT: true; the input reads as it did. -/
def runsCoversSpec : ChangeSpec := { name := "runsCovers", fn := fun _ => fun
  | [d1, d2, d3] => { results := [.lit (.bool true)], args := [d1, d2, d3] }
  | _ => none }
def runsCoversRow : OpenClaim := { program := "ytndcjgkgkpkklaa", sum := "cda50c5d26d6229b8afce28c4d6198163f3cff8a5b7ba7905143787f20e35546", func := "bookend/bookendlaw08.RunsCovers", spec := "runsCovers", unfollowed := true, recurses := true, apart := false }
def RunsCoversSaid : Prop := runsCoversRow.holds Try.pinned (OpenSpec.ofChange runsCoversSpec)

/-- ITS FALSE NEIGHBOUR: 'it returns false'. Refute it at one input. -/
def runsCoversWrong : ChangeSpec := { name := "runsCovers", fn := fun _ => fun
  | [d1, d2, d3] => { results := [.lit (.bool false)], args := [d1, d2, d3] }
  | _ => none }
def RunsCoversWrongFalsely : Prop := runsCoversRow.holds Try.pinned (OpenSpec.ofChange runsCoversWrong)

/- THE SECOND FORM. 'bulk': how many values and letters a reading holds, each counted each time it is reached (what is shared counts as often as it is met; a slice's spare places count too). A statement '..UptoSaid' is the law's where the arguments, and the package variables that the reading takes, are together of bulk at most 1048576: NARROWER than '..Said'. Prove '..Said' where nothing that the law and all that it calls make is longer than what came in: it says more and counts as full. Else prove '..UptoSaid'. A law counts once. -/
mutual
def uptoBulk {H : Type} : DataW H → Nat
  | .lit (.string bytes) => bytes.length + 1
  | .lit _ => 1
  | .nil => 1
  | .ptr d => uptoBulk d + 1
  | .slice elems spare => uptoBulkAll elems + uptoBulkAll spare + 1
  | .agg parts => uptoBulkAll parts + 1
  | .iface _ d => uptoBulk d + 1
  | .map entries => uptoBulkEntries entries + 1
  | .held _ => 1
def uptoBulkAll {H : Type} : List (DataW H) → Nat
  | [] => 0
  | d :: r => uptoBulk d + uptoBulkAll r
def uptoBulkEntries {H : Type} : List (Lit × DataW H) → Nat
  | [] => 0
  | x :: r => uptoBulkEntry x + uptoBulkEntries r
def uptoBulkEntry {H : Type} : Lit × DataW H → Nat
  | (.string bytes, d) => bytes.length + uptoBulk d + 1
  | (_, d) => uptoBulk d + 1
 end
def uptoSmall : (H : Type) → List (DataW H) → Bool := fun _ ds => decide (uptoBulkAll ds ≤ 1048576)
def OpenSpec.upto (s : _root_.Go.ChangeSpec) : _root_.Go.OpenSpec := { _root_.Go.OpenSpec.ofChange s with cond := some uptoSmall }

/-- 'bookendlaw08.RunsFinds', WHERE WHAT IT READS IS OF BULK AT MOST 1048576: true; the input reads as it did. -/
def runsFindsUptoRow : OpenClaim := { program := "ytndcjgkgkpkklaa", sum := "cda50c5d26d6229b8afce28c4d6198163f3cff8a5b7ba7905143787f20e35546", func := "bookend/bookendlaw08.RunsFinds", spec := "runsFinds", unfollowed := true, recurses := true, apart := false, narrowed := true }
def RunsFindsUptoSaid : Prop := runsFindsUptoRow.holds Try.pinned (OpenSpec.upto runsFindsSpec)

/-- 'bookendlaw08.RunsNeighbours', WHERE WHAT IT READS IS OF BULK AT MOST 1048576: true; the input reads as it did. -/
def runsNeighboursUptoRow : OpenClaim := { program := "ytndcjgkgkpkklaa", sum := "cda50c5d26d6229b8afce28c4d6198163f3cff8a5b7ba7905143787f20e35546", func := "bookend/bookendlaw08.RunsNeighbours", spec := "runsNeighbours", unfollowed := true, recurses := true, apart := false, narrowed := true }
def RunsNeighboursUptoSaid : Prop := runsNeighboursUptoRow.holds Try.pinned (OpenSpec.upto runsNeighboursSpec)

/-- 'bookendlaw08.RunsCounts', WHERE WHAT IT READS IS OF BULK AT MOST 1048576: true; the input reads as it did. -/
def runsCountsUptoRow : OpenClaim := { program := "ytndcjgkgkpkklaa", sum := "cda50c5d26d6229b8afce28c4d6198163f3cff8a5b7ba7905143787f20e35546", func := "bookend/bookendlaw08.RunsCounts", spec := "runsCounts", unfollowed := true, recurses := true, apart := false, narrowed := true }
def RunsCountsUptoSaid : Prop := runsCountsUptoRow.holds Try.pinned (OpenSpec.upto runsCountsSpec)

/-- 'bookendlaw08.RunsEnds', WHERE WHAT IT READS IS OF BULK AT MOST 1048576: true; the input reads as it did. -/
def runsEndsUptoRow : OpenClaim := { program := "ytndcjgkgkpkklaa", sum := "cda50c5d26d6229b8afce28c4d6198163f3cff8a5b7ba7905143787f20e35546", func := "bookend/bookendlaw08.RunsEnds", spec := "runsEnds", unfollowed := true, recurses := true, apart := false, narrowed := true }
def RunsEndsUptoSaid : Prop := runsEndsUptoRow.holds Try.pinned (OpenSpec.upto runsEndsSpec)

/-- 'bookendlaw08.RunsParts', WHERE WHAT IT READS IS OF BULK AT MOST 1048576: true; the input reads as it did. -/
def runsPartsUptoRow : OpenClaim := { program := "ytndcjgkgkpkklaa", sum := "cda50c5d26d6229b8afce28c4d6198163f3cff8a5b7ba7905143787f20e35546", func := "bookend/bookendlaw08.RunsParts", spec := "runsParts", unfollowed := true, recurses := true, apart := false, narrowed := true }
def RunsPartsUptoSaid : Prop := runsPartsUptoRow.holds Try.pinned (OpenSpec.upto runsPartsSpec)

/-- 'bookendlaw08.RunsCovers', WHERE WHAT IT READS IS OF BULK AT MOST 1048576: true; the input reads as it did. -/
def runsCoversUptoRow : OpenClaim := { program := "ytndcjgkgkpkklaa", sum := "cda50c5d26d6229b8afce28c4d6198163f3cff8a5b7ba7905143787f20e35546", func := "bookend/bookendlaw08.RunsCovers", spec := "runsCovers", unfollowed := true, recurses := true, apart := false, narrowed := true }
def RunsCoversUptoSaid : Prop := runsCoversUptoRow.holds Try.pinned (OpenSpec.upto runsCoversSpec)

end Rows
end Go.Proofs.Ytndcjgkgkpkklaa
