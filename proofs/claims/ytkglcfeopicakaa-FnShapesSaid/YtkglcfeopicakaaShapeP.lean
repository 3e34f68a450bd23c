/-
  Plans of stakes: the two functions at all arguments.
-/
import Derived.Test.YtkglcfeopicakaaShapePS
namespace Go.Proofs.Ytkglcfeopicakaa
open Go Go.RowKit
set_option linter.unusedVariables false

set_option maxRecDepth 100000 in
theorem stakePlan_any (a : Option Addr) (n c : Nat) (xs : List Int) (low high : Int) (w : World) (ha : RV w a n c (ints xs)) :
    Calls Try.prog 9 #[.slice a n c, .int .i64 low, .int .i64 high] w (RetL w 2 (planR xs low high)) := by
  by_cases hc : shCode xs low high = 0
  · exact stakePlan_ok a n c xs low high w ha hc
  · rw [show planR xs low high = ([], shCode xs low high) by simp [planR, hc]]
    have hne : (shCode xs low high != 0) = true := by simp [hc]
    go_enter Try.func9, Try.ntmps9
    go_wp2_with (go_at_call 26; refine (shapeCode_any _ _ _ _ _ _ _ ha).mono ?_; rintro e w' ⟨rfl, rfl⟩)
    go_ret2
    exact ⟨_, rfl, Own.nil _ _ _ _, Below.refl _ _⟩
set_option maxRecDepth 100000 in
theorem specStakePlan_any (a : Option Addr) (n c : Nat) (xs : List Int) (low high : Int) (w : World) (ha : RV w a n c (ints xs)) :
    Calls Try.prog 19 #[.slice a n c, .int .i64 low, .int .i64 high] w (RetL w 2 (planR xs low high)) := by
  by_cases hc : shCode xs low high = 0
  · exact specStakePlan_ok a n c xs low high w ha hc
  · rw [show planR xs low high = ([], shCode xs low high) by simp [planR, hc]]
    have hne : (shCode xs low high != 0) = true := by simp [hc]
    go_enter Try.func19, Try.ntmps19
    go_wp2_with (go_at_call 43; refine (l08Code_any _ _ _ _ _ _ _ ha).mono ?_; rintro e w' ⟨rfl, rfl⟩)
    go_ret2
    exact ⟨_, rfl, Own.nil _ _ _ _, Below.refl _ _⟩
end Go.Proofs.Ytkglcfeopicakaa
