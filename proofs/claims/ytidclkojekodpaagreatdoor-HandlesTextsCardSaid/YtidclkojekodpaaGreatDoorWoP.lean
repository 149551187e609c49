
/-
  Contracts of words: the reference's Unquote, Split, Same.
-/
import Derived.Test.YtidclkojekodpaaGreatDoorWoO
import Derived.Test.YtidclkojekodpaaGreatDoorWoK
namespace Go.Proofs.YtidclkojekodpaaGreatDoor
open Go.RowKit
set_option linter.unusedSimpArgs false
set_option linter.unusedVariables false
set_option maxRecDepth 100000

end Go.Proofs.YtidclkojekodpaaGreatDoor
