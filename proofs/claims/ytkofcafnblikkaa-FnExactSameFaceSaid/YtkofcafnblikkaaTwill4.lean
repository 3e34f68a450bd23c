/-
  Twills, on: floats, the reference, by walks.
-/
import Derived.Test.YtkofcafnblikkaaTwill3
namespace Go.Proofs.Ytkofcafnblikkaa
open Go.RowKit
set_option linter.unusedVariables false

end Go.Proofs.Ytkofcafnblikkaa
