/-
  Twills, on: the share in front, by walks.
-/
import Derived.Test.YtflejjfkgkmcgaaGreatDoorTwill7
namespace Go.Proofs.YtflejjfkgkmcgaaGreatDoor
open Go.RowKit
set_option linter.unusedVariables false

abbrev rtF (p : Int × Int × Int) : Ending := .returned (.tuple #[.agg #[.int .i64 p.1, .int .i64 p.2.1], .int .i64 p.2.2])
def frontT (l : List UInt8) : Nat := l.count 70
theorem frontT_le (l : List UInt8) : frontT l ≤ l.length := List.count_le_length
def shareR (xs : List Int) (st : Int) : Int × Int × Int :=
  if vTwill xs st then (lowN (frontT (rowW xs)) (rowW xs).length, lowD (frontT (rowW xs)) (rowW xs).length, 0) else (0, 0, 1)




end Go.Proofs.YtflejjfkgkmcgaaGreatDoor
