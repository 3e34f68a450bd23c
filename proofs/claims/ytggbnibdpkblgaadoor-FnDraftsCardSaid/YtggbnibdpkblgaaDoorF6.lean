/-
  Helpers of the laws: too many bytes; equal lists.
-/
import Derived.Test.YtggbnibdpkblgaaDoorCore
namespace Go.Proofs.YtggbnibdpkblgaaDoor
open Go.RowKit
set_option linter.unusedVariables false

theorem f6big_any (p : Option Addr) (n c : Nat) (w : World) (hn : n ≤ 9223372036854775807) : Calls Tryd.prog 4 #[.slice p n c] w fun e w' => e = .returned (.bool (decide ((4096 : Int) < n))) ∧ w = w' := by
  go_enter Tryd.func4, Tryd.ntmps4
  go_wp2
  go_ret
  exact ⟨rfl, rfl⟩


end Go.Proofs.YtggbnibdpkblgaaDoor
