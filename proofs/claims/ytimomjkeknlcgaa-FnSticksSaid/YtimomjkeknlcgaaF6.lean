/-
  Helpers of the laws: too many bytes.
-/
import Derived.Test.YtimomjkeknlcgaaCore
namespace Go.Proofs.Ytimomjkeknlcgaa
open Go.RowKit
set_option linter.unusedVariables false

theorem f6big_any (p : Option Addr) (n c : Nat) (w : World) (hn : n ≤ 9223372036854775807) : Calls Try.prog 4 #[.slice p n c] w fun e w' => e = .returned (.bool (decide ((4096 : Int) < n))) ∧ w = w' := by
  go_enter Try.func4, Try.ntmps4
  go_wp2
  go_ret
  exact ⟨rfl, rfl⟩
end Go.Proofs.Ytimomjkeknlcgaa
