/-
  Twills, on: ways along a row, longest runs, by walks.
-/
import Derived.Test.YtkofcafnblikkaaTwillRow
namespace Go.Proofs.Ytkofcafnblikkaa
open Go.RowKit
set_option linter.unusedVariables false



end Go.Proofs.Ytkofcafnblikkaa
