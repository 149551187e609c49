
/-
  The laws WordsSplits, WordsNames, WordsQuotes walked.
-/
import Derived.Test.YtfjdcfmoodlnaaaGreatDoorWoS
import Derived.Test.YtfjdcfmoodlnaaaGreatDoorWoN
namespace Go.Proofs.YtfjdcfmoodlnaaaGreatDoor
open Go.RowKit
set_option linter.unusedSimpArgs false
set_option linter.unusedVariables false
set_option maxRecDepth 100000

end Go.Proofs.YtfjdcfmoodlnaaaGreatDoor
