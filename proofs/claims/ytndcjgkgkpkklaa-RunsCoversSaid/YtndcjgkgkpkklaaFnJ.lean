
/-
  Contracts of fence.Fits, Find and of the reference's Fits, Find.
-/
import Derived.Test.YtndcjgkgkpkklaaFnI
namespace Go.Proofs.Ytndcjgkgkpkklaa
open Go.RowKit
set_option linter.unusedSimpArgs false
set_option linter.unusedVariables false
set_option maxRecDepth 100000

theorem clchk_len {l : List Ent} (h : (clchk l).2 = 0) : l.length ≤ 5000 := by
  unfold clchk at h; split at h
  · simp at h
  · omega
def ffits (f : Fnc) (l : List Ent) : Bool × Int := if (fchk f).2 ≠ 0 then (false, (fchk f).2) else if (clchk l).2 ≠ 0 then (false, (clchk l).2) else (fitB f.step.toNat f.marks l, 0)

end Go.Proofs.Ytndcjgkgkpkklaa
