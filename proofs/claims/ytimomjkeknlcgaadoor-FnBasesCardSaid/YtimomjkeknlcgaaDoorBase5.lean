/-
  Bases, on: the gaps at a round, as the reference has them.
-/
import Derived.Test.YtimomjkeknlcgaaDoorBase4
namespace Go.Proofs.YtimomjkeknlcgaaDoor
open Go.RowKit
set_option linter.unusedVariables false

end Go.Proofs.YtimomjkeknlcgaaDoor
