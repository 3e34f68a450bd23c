/-
  Twills, on: floats, the reference, by walks.
-/
import Derived.Test.YtggbnibdpkblgaaDoorTwill3
namespace Go.Proofs.YtggbnibdpkblgaaDoor
open Go.RowKit
set_option linter.unusedVariables false

end Go.Proofs.YtggbnibdpkblgaaDoor
