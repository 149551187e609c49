
/-
  Contracts of the reference's Block, Span, Blocks and of fence.Blocks.
-/
import Derived.Test.YtndcjgkgkpkklaaFnF
namespace Go.Proofs.Ytndcjgkgkpkklaa
open Go.RowKit
set_option linter.unusedSimpArgs false
set_option linter.unusedVariables false
set_option maxRecDepth 100000

end Go.Proofs.Ytndcjgkgkpkklaa
