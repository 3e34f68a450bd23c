/-
  Twills, on: repeats and the share in front, by walks.
-/
import Derived.Test.YtggbnibdpkblgaaDoorTwill5
namespace Go.Proofs.YtggbnibdpkblgaaDoor
open Go.RowKit
set_option linter.unusedVariables false

/-- what a valid twill's row is like -/
theorem row_facts {xs : List Int} {st : Int} (hv : vTwill xs st = true) : eachIn xs 1 12 = true ∧ xs.length ≤ 12 ∧ 2 ≤ (rowW xs).length ∧ (rowW xs).length ≤ 12 ∧ 1 ≤ st ∧ st ≤ ((rowW xs).length : Int) - 1 := by
  obtain ⟨he, h2, _, h4, h5, h6, h7⟩ := vTwill_iff hv
  have hrl := rowW_len he
  exact ⟨he, h7, by omega, by omega, h5, by omega⟩


end Go.Proofs.YtggbnibdpkblgaaDoor
