/-
  Shapes, on: turned (the reference), levels between.
-/
import Derived.Test.YtkglcfeopicakaaShape2
namespace Go.Proofs.Ytkglcfeopicakaa
open Go.RowKit
set_option linter.unusedVariables false

theorem rev_step {xs : List Int} {f : Nat} (h : f < xs.length) : xs.reverse.take (xs.length - (f + 1)) ++ [xs.getD f 0] = xs.reverse.take (xs.length - f) := by
  rw [show xs.length - f = (xs.length - (f + 1)) + 1 by omega, List.take_succ_eq_append_getElem (by simp; omega)]
  have e : xs.length - 1 - (xs.length - (f + 1)) = f := by omega
  simp [List.getElem_reverse, e, h]

end Go.Proofs.Ytkglcfeopicakaa
