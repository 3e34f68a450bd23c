/-
  Weaves: plain facts for the law on weaves and their other sides.
-/
import Derived.Test.YtngllaaminognaaGreatDoorWeave4
import Derived.Test.YtngllaaminognaaGreatDoorWeaveDraw
import Derived.Test.YtngllaaminognaaGreatDoorRepl5
import Derived.Test.YtngllaaminognaaGreatDoorA2
namespace Go.Proofs.YtngllaaminognaaGreatDoor
open Go Go.RowKit
set_option linter.unusedVariables false

theorem swB_swB {c : UInt8} (h : c = 70 ∨ c = 66) : swB (swB c) = c := by rcases h with rfl | rfl <;> rfl
theorem swB_ne {c : UInt8} (h : c = 70 ∨ c = 66) : (swB c).toNat ≠ c.toNat := by rcases h with rfl | rfl <;> decide
theorem swapL_len (l : List UInt8) : (swapL l).length = l.length := by simp [swapL]
theorem swapL_two {l : List UInt8} (h : two 70 66 l = true) : two 70 66 (swapL l) = true := by
  refine two_iff.2 fun c hc => ?_
  simp only [swapL, List.mem_map] at hc
  obtain ⟨d, hd, rfl⟩ := hc
  rcases two_iff.1 h d hd with rfl | rfl
  · right; rfl
  · left; rfl
theorem swapL_swapL {l : List UInt8} (h : two 70 66 l = true) : swapL (swapL l) = l := by
  unfold swapL
  rw [List.map_map]
  conv => rhs; rw [← List.map_id l]
  refine List.map_congr_left fun c hc => ?_
  exact swB_swB (two_iff.1 h c hc)
theorem swapL_vS {l : List UInt8} (h : vS l = true) : vS (swapL l) = true := by
  obtain ⟨h1, h2, h3⟩ := vS_iff.1 h
  exact vS_iff.2 ⟨by rw [swapL_len]; exact h1, by rw [swapL_len]; exact h2, swapL_two h3⟩
theorem swapL_bat {l : List UInt8} {j : Nat} (hj : j < l.length) : bat (swapL l) j = (swB (l.getD j 0)).toNat := by
  simp [bat, swapL, hj]
theorem sides_differ {l : List UInt8} (h : two 70 66 l = true) {j : Nat} (hj : j < l.length) : bat (swapL l) j ≠ bat l j := by
  rw [swapL_bat hj]
  unfold bat
  exact swB_ne (two_iff.1 h _ (by simp [hj]))
end Go.Proofs.YtngllaaminognaaGreatDoor
