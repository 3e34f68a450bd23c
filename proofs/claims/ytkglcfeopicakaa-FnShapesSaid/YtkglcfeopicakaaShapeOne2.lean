/-
  Shapes, on: one number of stakes for all levels, the reference.
-/
import Derived.Test.YtkglcfeopicakaaShapeOne
namespace Go.Proofs.Ytkglcfeopicakaa
open Go.RowKit
set_option linter.unusedVariables false

theorem oneR_first {l : List Int} {low high v : Int} (hc : shCode l low high = 0) (h3 : 3 ≤ v) (h60 : v ≤ 60) (hg : goodTo l v low high l.length = true) (hb : ∀ m, 3 ≤ m → m < v → goodTo l m low high l.length = false) : oneR l low high = (v, 0) := by
  obtain ⟨hv, hp⟩ := shCode_ok hc
  have g1 := (goodTo_iff hv hp h3 h60 _ (Nat.le_refl _)).1 hg
  have g2 := leastTo_ge l high l.length
  have g3 := mostTo_le l low l.length
  have g4 : ¬ leastTo l high l.length < v := by
    intro hlt
    have h5 := hb _ g2 hlt
    have h6 := (goodTo_iff (l := l) hv hp g2 (by omega) _ (Nat.le_refl _)).2 ⟨Int.le_refl _, by omega⟩
    rw [h5] at h6; exact absurd h6 (by simp)
  have g5 : leastTo l high l.length = v := by omega
  rw [oneR, if_pos hc, if_neg (by omega), g5]
theorem oneR_none {l : List Int} {low high : Int} (hc : shCode l low high = 0) (hb : ∀ m, 3 ≤ m → m < 61 → goodTo l m low high l.length = false) : oneR l low high = (0, 3) := by
  obtain ⟨hv, hp⟩ := shCode_ok hc
  have g2 := leastTo_ge l high l.length
  have g3 := mostTo_le l low l.length
  have g4 : leastTo l high l.length > mostTo l low l.length := by
    by_cases h : leastTo l high l.length > mostTo l low l.length
    · exact h
    · have h5 := hb (leastTo l high l.length) g2 (by omega)
      have h6 := (goodTo_iff (l := l) hv hp g2 (by omega) _ (Nat.le_refl _)).2 ⟨Int.le_refl _, by omega⟩
      rw [h5] at h6; exact absurd h6 (by simp)
  rw [oneR, if_pos hc, if_pos g4]

end Go.Proofs.Ytkglcfeopicakaa
