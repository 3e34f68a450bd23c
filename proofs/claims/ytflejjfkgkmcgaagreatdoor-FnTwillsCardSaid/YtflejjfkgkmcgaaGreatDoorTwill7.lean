/-
  Twills, on: plain ones, by walks.
-/
import Derived.Test.YtflejjfkgkmcgaaGreatDoorTwill6
namespace Go.Proofs.YtflejjfkgkmcgaaGreatDoor
open Go.RowKit
set_option linter.unusedVariables false

abbrev rtb (R : Bool × Int) : Ending := .returned (.tuple #[.bool R.1, .int .i64 R.2])
def plainR (xs : List Int) (st : Int) : Bool × Int := if vTwill xs st then (plainTo (rowW xs) st (rowW xs).length, 0) else (false, 1)


end Go.Proofs.YtflejjfkgkmcgaaGreatDoor
