
/-
  Contracts of fence.Blocks and of the reference's Blocks.
-/
import Derived.Test.YtndcjgkgkpkklaaFnG
namespace Go.Proofs.Ytndcjgkgkpkklaa
open Go.RowKit
set_option linter.unusedSimpArgs false
set_option linter.unusedVariables false
set_option maxRecDepth 100000

def blks (f : Fnc) (r : Rng) : Int × Int × Int :=
  if (fchk f).2 ≠ 0 then (0, 0, (fchk f).2) else if (remp r).2 ≠ 0 then (0, 0, (remp r).2) else if (remp r).1 = true then (0, 0, 0)
  else ((cntLe f.marks r.lo : Int), (if r.bd = true then (cntLt f.marks r.hi : Int) else (f.marks.length : Int)) + 1, 0)

theorem remp_chk (r : Rng) : (remp r).2 = rchk r := by unfold remp; split <;> simp_all

end Go.Proofs.Ytndcjgkgkpkklaa
