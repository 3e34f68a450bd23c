/-
  Twills, on: validity and sameness, by walks.
-/
import Derived.Test.YtngllaaminognaaGreatDoorTwill
namespace Go.Proofs.YtngllaaminognaaGreatDoor
open Go.RowKit
set_option linter.unusedVariables false

/-! ### same -/
def sameT (xs ys : List Int) (st st' : Int) : Bool := decide (st = st') && decide (xs = ys)


/-! ### validity -/
end Go.Proofs.YtngllaaminognaaGreatDoor
