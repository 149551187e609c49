/-
  No cell of these rows narrows 'for every input' (looked for: loops, veiled, ifaces, maps, wideKeys, modest, calm, conditions, laid).
  DERIVED. THE GIVEN ROWS OF THIS SEAT. 8 by the template 'for every input the law returns true; each argument reads behind the call as it read before'; 0 by the template 'total and deterministic' (their statements: YtinbdppekhcekaaTotals.lean).
  GIVEN WITH THE SEED: the statements are not yours to turn. If you find one false, say at which input.
  Laid BY PROGRAM, IN A SANDBOX (cutbox-rows.mjs): the forced cells as the released guide's own fill.sh prints them over the translation a4a612325f53cd1c… (all of the seat's roots in one cut). By AI agents, Wed Nov 11 2026. No macro, syntax, notation, axiom, sorry.
-/
import Derived.Test.YtinbdppekhcekaaChecked
import GoSem.Claim
import GoSem.ClaimJoined
import GoSem.ClaimMapViews
import Derived.JoinedTies
import Derived.KernelRfl
namespace Go.Proofs.Ytinbdppekhcekaa
/- THE CELL 'sum', in the pinned program and in every row, IS THE sha256 OF THE DUMP (.gsa) THAT YtinbdppekhcekaaProg.lean LOADS. Nothing in Lean hashes anything: it is a label: what it is worth is what the hold of that sum in a sandbox is worth. -/
noncomputable def Try.pinned : Pinned := { name := "ytinbdppekhcekaa", sum := "a4a612325f53cd1ce32b571413850210746bf84a8694c30967af5aea9910dda5", checked := Try.checked }
namespace Rows
def none {H : Type} : Left H := { results := [], args := [] }

/-- 'bookendlaw09.WalkSought': WHATEVER THE INPUT: true; the input reads as it did. -/
def walkSoughtSpec : ChangeSpec := { name := "walkSought", fn := fun _ => fun
  | [d1, d2] => { results := [.lit (.bool true)], args := [d1, d2] }
  | _ => none }
def walkSoughtRow : OpenClaim := { program := "ytinbdppekhcekaa", sum := "a4a612325f53cd1ce32b571413850210746bf84a8694c30967af5aea9910dda5", func := "bookend/bookendlaw09.WalkSought", spec := "walkSought", unfollowed := true, recurses := true, apart := false }
def WalkSoughtSaid : Prop := walkSoughtRow.holds Try.pinned (OpenSpec.ofChange walkSoughtSpec)

/-- ITS FALSE NEIGHBOUR: 'it returns false'. Refute it at one input. -/
def walkSoughtWrong : ChangeSpec := { name := "walkSought", fn := fun _ => fun
  | [d1, d2] => { results := [.lit (.bool false)], args := [d1, d2] }
  | _ => none }
def WalkSoughtWrongFalsely : Prop := walkSoughtRow.holds Try.pinned (OpenSpec.ofChange walkSoughtWrong)

/-- 'bookendlaw09.WalkPieces': WHATEVER THE INPUT: true; the input reads as it did. -/
def walkPiecesSpec : ChangeSpec := { name := "walkPieces", fn := fun _ => fun
  | [d1, d2, d3] => { results := [.lit (.bool true)], args := [d1, d2, d3] }
  | _ => none }
def walkPiecesRow : OpenClaim := { program := "ytinbdppekhcekaa", sum := "a4a612325f53cd1ce32b571413850210746bf84a8694c30967af5aea9910dda5", func := "bookend/bookendlaw09.WalkPieces", spec := "walkPieces", unfollowed := true, recurses := true, apart := false }
def WalkPiecesSaid : Prop := walkPiecesRow.holds Try.pinned (OpenSpec.ofChange walkPiecesSpec)

/-- ITS FALSE NEIGHBOUR: 'it returns false'. Refute it at one input. -/
def walkPiecesWrong : ChangeSpec := { name := "walkPieces", fn := fun _ => fun
  | [d1, d2, d3] => { results := [.lit (.bool false)], args := [d1, d2, d3] }
  | _ => none }
def WalkPiecesWrongFalsely : Prop := walkPiecesRow.holds Try.pinned (OpenSpec.ofChange walkPiecesWrong)

/-- 'bookendlaw09.WalkTakes': WHATEVER THE INPUT: true; the input reads as it did. -/
def walkTakesSpec : ChangeSpec := { name := "walkTakes", fn := fun _ => fun
  | [d1, d2, d3] => { results := [.lit (.bool true)], args := [d1, d2, d3] }
  | _ => none }
def walkTakesRow : OpenClaim := { program := "ytinbdppekhcekaa", sum := "a4a612325f53cd1ce32b571413850210746bf84a8694c30967af5aea9910dda5", func := "bookend/bookendlaw09.WalkTakes", spec := "walkTakes", unfollowed := true, recurses := true, apart := false }
def WalkTakesSaid : Prop := walkTakesRow.holds Try.pinned (OpenSpec.ofChange walkTakesSpec)

/-- ITS FALSE NEIGHBOUR: 'it returns false'. Refute it at one input. -/
def walkTakesWrong : ChangeSpec := { name := "walkTakes", fn := fun _ => fun
  | [d1, d2, d3] => { results := [.lit (.bool false)], args := [d1, d2, d3] }
  | _ => none }
def WalkTakesWrongFalsely : Prop := walkTakesRow.holds Try.pinned (OpenSpec.ofChange walkTakesWrong)

/-- 'bookendlaw09.WalkSkips': WHATEVER THE INPUT: true; the input reads as it did. -/
def walkSkipsSpec : ChangeSpec := { name := "walkSkips", fn := fun _ => fun
  | [d1, d2, d3] => { results := [.lit (.bool true)], args := [d1, d2, d3] }
  | _ => none }
def walkSkipsRow : OpenClaim := { program := "ytinbdppekhcekaa", sum := "a4a612325f53cd1ce32b571413850210746bf84a8694c30967af5aea9910dda5", func := "bookend/bookendlaw09.WalkSkips", spec := "walkSkips", unfollowed := true, recurses := true, apart := false }
def WalkSkipsSaid : Prop := walkSkipsRow.holds Try.pinned (OpenSpec.ofChange walkSkipsSpec)

/-- ITS FALSE NEIGHBOUR: 'it returns false'. Refute it at one input. -/
def walkSkipsWrong : ChangeSpec := { name := "walkSkips", fn := fun _ => fun
  | [d1, d2, d3] => { results := [.lit (.bool false)], args := [d1, d2, d3] }
  | _ => none }
def WalkSkipsWrongFalsely : Prop := walkSkipsRow.holds Try.pinned (OpenSpec.ofChange walkSkipsWrong)

/-- 'bookendlaw09.WalkSteps': WHATEVER THE INPUT: true; the input reads as it did. -/
def walkStepsSpec : ChangeSpec := { name := "walkSteps", fn := fun _ => fun
  | [d1, d2] => { results := [.lit (.bool true)], args := [d1, d2] }
  | _ => none }
def walkStepsRow : OpenClaim := { program := "ytinbdppekhcekaa", sum := "a4a612325f53cd1ce32b571413850210746bf84a8694c30967af5aea9910dda5", func := "bookend/bookendlaw09.WalkSteps", spec := "walkSteps", unfollowed := true, recurses := true, apart := false }
def WalkStepsSaid : Prop := walkStepsRow.holds Try.pinned (OpenSpec.ofChange walkStepsSpec)

/-- ITS FALSE NEIGHBOUR: 'it returns false'. Refute it at one input. -/
def walkStepsWrong : ChangeSpec := { name := "walkSteps", fn := fun _ => fun
  | [d1, d2] => { results := [.lit (.bool false)], args := [d1, d2] }
  | _ => none }
def WalkStepsWrongFalsely : Prop := walkStepsRow.holds Try.pinned (OpenSpec.ofChange walkStepsWrong)

/-- 'bookendlaw09.WalkPlaces': WHATEVER THE INPUT: true; the input reads as it did. -/
def walkPlacesSpec : ChangeSpec := { name := "walkPlaces", fn := fun _ => fun
  | [d1, d2, d3] => { results := [.lit (.bool true)], args := [d1, d2, d3] }
  | _ => none }
def walkPlacesRow : OpenClaim := { program := "ytinbdppekhcekaa", sum := "a4a612325f53cd1ce32b571413850210746bf84a8694c30967af5aea9910dda5", func := "bookend/bookendlaw09.WalkPlaces", spec := "walkPlaces", unfollowed := true, recurses := true, apart := false }
def WalkPlacesSaid : Prop := walkPlacesRow.holds Try.pinned (OpenSpec.ofChange walkPlacesSpec)

/-- ITS FALSE NEIGHBOUR: 'it returns false'. Refute it at one input. -/
def walkPlacesWrong : ChangeSpec := { name := "walkPlaces", fn := fun _ => fun
  | [d1, d2, d3] => { results := [.lit (.bool false)], args := [d1, d2, d3] }
  | _ => none }
def WalkPlacesWrongFalsely : Prop := walkPlacesRow.holds Try.pinned (OpenSpec.ofChange walkPlacesWrong)

/-- 'bookendlaw09.WalkBoth': WHATEVER THE INPUT: true; the input reads as it did. -/
def walkBothSpec : ChangeSpec := { name := "walkBoth", fn := fun _ => fun
  | [d] => { results := [.lit (.bool true)], args := [d] }
  | _ => none }
def walkBothRow : OpenClaim := { program := "ytinbdppekhcekaa", sum := "a4a612325f53cd1ce32b571413850210746bf84a8694c30967af5aea9910dda5", func := "bookend/bookendlaw09.WalkBoth", spec := "walkBoth", unfollowed := true, recurses := true, apart := false }
def WalkBothSaid : Prop := walkBothRow.holds Try.pinned (OpenSpec.ofChange walkBothSpec)

/-- ITS FALSE NEIGHBOUR: 'it returns false'. Refute it at one input. -/
def walkBothWrong : ChangeSpec := { name := "walkBoth", fn := fun _ => fun
  | [d] => { results := [.lit (.bool false)], args := [d] }
  | _ => none }
def WalkBothWrongFalsely : Prop := walkBothRow.holds Try.pinned (OpenSpec.ofChange walkBothWrong)

/-- 'bookendlaw09.WalkKnown': WHATEVER THE INPUT: true; the input reads as it did. -/
def walkKnownSpec : ChangeSpec := { name := "walkKnown", fn := fun _ => fun
  | [] => { results := [.lit (.bool true)], args := [] }
  | _ => none }
def walkKnownRow : OpenClaim := { program := "ytinbdppekhcekaa", sum := "a4a612325f53cd1ce32b571413850210746bf84a8694c30967af5aea9910dda5", func := "bookend/bookendlaw09.WalkKnown", spec := "walkKnown", unfollowed := true, recurses := true, apart := false }
def WalkKnownSaid : Prop := walkKnownRow.holds Try.pinned (OpenSpec.ofChange walkKnownSpec)

/-- ITS FALSE NEIGHBOUR: 'it returns false'. Refute it at one input. -/
def walkKnownWrong : ChangeSpec := { name := "walkKnown", fn := fun _ => fun
  | [] => { results := [.lit (.bool false)], args := [] }
  | _ => none }
def WalkKnownWrongFalsely : Prop := walkKnownRow.holds Try.pinned (OpenSpec.ofChange walkKnownWrong)

/- THE SECOND FORM. 'bulk': how many values and letters a reading holds, each counted each time it is reached (what is shared counts as often as it is met; a slice's spare places count too). A statement '..UptoSaid' is the law's where the arguments, and the package variables that the reading takes, are together of bulk at most 1048576: NARROWER than '..Said'. Prove '..Said' where nothing that the law and all that it calls make is longer than what came in: it says more and counts as full. Else prove '..UptoSaid'. A law counts once. -/
mutual
def uptoBulk {H : Type} : DataW H → Nat
  | .lit (.string bytes) => bytes.length + 1
  | .lit _ => 1
  | .nil => 1
  | .ptr d => uptoBulk d + 1
  | .slice elems spare => uptoBulkAll elems + uptoBulkAll spare + 1
  | .agg parts => uptoBulkAll parts + 1
  | .iface _ d => uptoBulk d + 1
  | .map entries => uptoBulkEntries entries + 1
  | .held _ => 1
def uptoBulkAll {H : Type} : List (DataW H) → Nat
  | [] => 0
  | d :: r => uptoBulk d + uptoBulkAll r
def uptoBulkEntries {H : Type} : List (Lit × DataW H) → Nat
  | [] => 0
  | x :: r => uptoBulkEntry x + uptoBulkEntries r
def uptoBulkEntry {H : Type} : Lit × DataW H → Nat
  | (.string bytes, d) => bytes.length + uptoBulk d + 1
  | (_, d) => uptoBulk d + 1
 end
def uptoSmall : (H : Type) → List (DataW H) → Bool := fun _ ds => decide (uptoBulkAll ds ≤ 1048576)
def OpenSpec.upto (s : _root_.Go.ChangeSpec) : _root_.Go.OpenSpec := { _root_.Go.OpenSpec.ofChange s with cond := some uptoSmall }

/-- 'bookendlaw09.WalkSought', WHERE WHAT IT READS IS OF BULK AT MOST 1048576: true; the input reads as it did. -/
def walkSoughtUptoRow : OpenClaim := { program := "ytinbdppekhcekaa", sum := "a4a612325f53cd1ce32b571413850210746bf84a8694c30967af5aea9910dda5", func := "bookend/bookendlaw09.WalkSought", spec := "walkSought", unfollowed := true, recurses := true, apart := false, narrowed := true }
def WalkSoughtUptoSaid : Prop := walkSoughtUptoRow.holds Try.pinned (OpenSpec.upto walkSoughtSpec)

/-- 'bookendlaw09.WalkPieces', WHERE WHAT IT READS IS OF BULK AT MOST 1048576: true; the input reads as it did. -/
def walkPiecesUptoRow : OpenClaim := { program := "ytinbdppekhcekaa", sum := "a4a612325f53cd1ce32b571413850210746bf84a8694c30967af5aea9910dda5", func := "bookend/bookendlaw09.WalkPieces", spec := "walkPieces", unfollowed := true, recurses := true, apart := false, narrowed := true }
def WalkPiecesUptoSaid : Prop := walkPiecesUptoRow.holds Try.pinned (OpenSpec.upto walkPiecesSpec)

/-- 'bookendlaw09.WalkTakes', WHERE WHAT IT READS IS OF BULK AT MOST 1048576: true; the input reads as it did. -/
def walkTakesUptoRow : OpenClaim := { program := "ytinbdppekhcekaa", sum := "a4a612325f53cd1ce32b571413850210746bf84a8694c30967af5aea9910dda5", func := "bookend/bookendlaw09.WalkTakes", spec := "walkTakes", unfollowed := true, recurses := true, apart := false, narrowed := true }
def WalkTakesUptoSaid : Prop := walkTakesUptoRow.holds Try.pinned (OpenSpec.upto walkTakesSpec)

/-- 'bookendlaw09.WalkSkips', WHERE WHAT IT READS IS OF BULK AT MOST 1048576: true; the input reads as it did. -/
def walkSkipsUptoRow : OpenClaim := { program := "ytinbdppekhcekaa", sum := "a4a612325f53cd1ce32b571413850210746bf84a8694c30967af5aea9910dda5", func := "bookend/bookendlaw09.WalkSkips", spec := "walkSkips", unfollowed := true, recurses := true, apart := false, narrowed := true }
def WalkSkipsUptoSaid : Prop := walkSkipsUptoRow.holds Try.pinned (OpenSpec.upto walkSkipsSpec)

/-- 'bookendlaw09.WalkSteps', WHERE WHAT IT READS IS OF BULK AT MOST 1048576: true; the input reads as it did. -/
def walkStepsUptoRow : OpenClaim := { program := "ytinbdppekhcekaa", sum := "a4a612325f53cd1ce32b571413850210746bf84a8694c30967af5aea9910dda5", func := "bookend/bookendlaw09.WalkSteps", spec := "walkSteps", unfollowed := true, recurses := true, apart := false, narrowed := true }
def WalkStepsUptoSaid : Prop := walkStepsUptoRow.holds Try.pinned (OpenSpec.upto walkStepsSpec)

/-- 'bookendlaw09.WalkPlaces', WHERE WHAT IT READS IS OF BULK AT MOST 1048576: true; the input reads as it did. -/
def walkPlacesUptoRow : OpenClaim := { program := "ytinbdppekhcekaa", sum := "a4a612325f53cd1ce32b571413850210746bf84a8694c30967af5aea9910dda5", func := "bookend/bookendlaw09.WalkPlaces", spec := "walkPlaces", unfollowed := true, recurses := true, apart := false, narrowed := true }
def WalkPlacesUptoSaid : Prop := walkPlacesUptoRow.holds Try.pinned (OpenSpec.upto walkPlacesSpec)

/-- 'bookendlaw09.WalkBoth', WHERE WHAT IT READS IS OF BULK AT MOST 1048576: true; the input reads as it did. -/
def walkBothUptoRow : OpenClaim := { program := "ytinbdppekhcekaa", sum := "a4a612325f53cd1ce32b571413850210746bf84a8694c30967af5aea9910dda5", func := "bookend/bookendlaw09.WalkBoth", spec := "walkBoth", unfollowed := true, recurses := true, apart := false, narrowed := true }
def WalkBothUptoSaid : Prop := walkBothUptoRow.holds Try.pinned (OpenSpec.upto walkBothSpec)

/-- 'bookendlaw09.WalkKnown', WHERE WHAT IT READS IS OF BULK AT MOST 1048576: true; the input reads as it did. -/
def walkKnownUptoRow : OpenClaim := { program := "ytinbdppekhcekaa", sum := "a4a612325f53cd1ce32b571413850210746bf84a8694c30967af5aea9910dda5", func := "bookend/bookendlaw09.WalkKnown", spec := "walkKnown", unfollowed := true, recurses := true, apart := false, narrowed := true }
def WalkKnownUptoSaid : Prop := walkKnownUptoRow.holds Try.pinned (OpenSpec.upto walkKnownSpec)

end Rows
end Go.Proofs.Ytinbdppekhcekaa
