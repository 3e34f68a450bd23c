/-
  Shapes, on: the widest level, turned, levels between: plainly, and by walks.
-/
import Derived.Test.YtkglcfeopicakaaShape
import Derived.Test.YtkglcfeopicakaaSlicesK
import Derived.StillTailTactics
namespace Go.Proofs.Ytkglcfeopicakaa
open Go.RowKit
set_option linter.unusedVariables false

/-! ### the widest level -/
def widestR (l : List Int) : Int × Int × Int := if vShape l then (indexF l (maxTo l (l.length - 1)) 0, maxTo l (l.length - 1), 0) else (0, 0, 1)
/-- b is the first place of the greatest of the first k + 1 -/
def FirstMax (l : List Int) (k b : Nat) : Prop := b ≤ k ∧ l.getD b 0 = maxTo l k ∧ ∀ i, i < b → l.getD i 0 < l.getD b 0
theorem maxTo_ge (l : List Int) : ∀ k i, i ≤ k → l.getD i 0 ≤ maxTo l k := by
  intro k
  induction k with
  | zero => intro i hi; obtain rfl : i = 0 := by omega
            exact Int.le_refl _
  | succ k ih =>
    intro i hi
    simp only [maxTo]
    by_cases h : i = k + 1
    · subst h; omega
    · have := ih i (by omega); omega
theorem firstMax_zero (l : List Int) : FirstMax l 0 0 := ⟨Nat.le_refl _, rfl, fun i hi => by omega⟩
theorem firstMax_more {l : List Int} {k b : Nat} (h : FirstMax l k b) (hx : l.getD b 0 < l.getD (k + 1) 0) : FirstMax l (k + 1) (k + 1) := by
  refine ⟨Nat.le_refl _, ?_, fun i hi => ?_⟩
  · simp only [maxTo]; have := h.2.1; omega
  · have := maxTo_ge l k i (by omega); have := h.2.1; omega
theorem firstMax_less {l : List Int} {k b : Nat} (h : FirstMax l k b) (hx : ¬ l.getD b 0 < l.getD (k + 1) 0) : FirstMax l (k + 1) b := by
  refine ⟨by have := h.1; omega, ?_, h.2.2⟩
  simp only [maxTo]; have := h.2.1; omega
theorem firstMax_idx {l : List Int} {k b : Nat} (h : FirstMax l k b) (hk : k < l.length) : indexF l (maxTo l k) 0 = b := by
  obtain ⟨h1, h2, h3⟩ := h
  have hn : ∀ j, j ≤ b → noIdx l (maxTo l k) j := by
    intro j
    induction j with
    | zero => intro _; rfl
    | succ j ih => intro hj; exact noIdx_step (ih (by omega)) (by omega) (by have := h3 j (by omega); omega)
  exact noIdx_hit (hn b (Nat.le_refl _)) (by omega) h2.symm

theorem widestLevel_any (a : Option Addr) (n c : Nat) (xs : List Int) (w : World) (ha : RV w a n c (ints xs)) :
    Calls Try.prog 15 #[.slice a n c] w fun e w' => e = rt3 (widestR xs) ∧ w = w' := by
  have Ha := Lib.hid ha
  cases hv : vShape xs
  · rw [show widestR xs = (0, 0, 1) by simp [widestR, hv]]
    clear ha
    go_enter Try.func15, Try.ntmps15
    go_wp2_with (go_at_call 34; refine (validShape_any _ _ _ _ _ Ha.out).mono ?_; rintro e w' ⟨rfl, rfl⟩)
    go_ret3
    exact ⟨rfl, rfl⟩
  · rw [show widestR xs = (indexF xs (maxTo xs (n - 1)) 0, maxTo xs (n - 1), 0) by simp [widestR, hv, ha.lenI]]
    obtain ⟨_, h1, h2⟩ := vShape_iff.1 hv
    rw [ha.lenI] at h1 h2
    clear ha
    go_enter Try.func15, Try.ntmps15
    go_wp2_with (first | (go_at_call 34; refine (validShape_any _ _ _ _ _ Ha.out).mono ?_; rintro e w' ⟨rfl, rfl⟩) | (go_at_call 40; refine (slMax_any _ _ _ _ _ h1 Ha.out).mono ?_; rintro e w' ⟨rfl, rfl⟩) | (go_at_call 31; refine (slIndex_any _ _ _ _ _ _ Ha.out).mono ?_; rintro e w' ⟨rfl, rfl⟩))
    go_ret3
    exact ⟨rfl, rfl⟩


/-! ### turned -/
def turnedR (l : List Int) : List Int × Int := if vShape l then (l.reverse, 0) else ([], 1)
theorem turnedR_len (l : List Int) : (turnedR l).1.length ≤ 1000000 := by
  unfold turnedR; split
  · next h => have := (vShape_iff.1 h).2.2; simp; omega
  · simp

theorem turned_any (a : Option Addr) (n c : Nat) (xs : List Int) (w : World) (ha : RV w a n c (ints xs)) :
    Calls Try.prog 14 #[.slice a n c] w fun e w' => RetL w 2 (turnedR xs) e w' := by
  have Ha := Lib.hid ha
  cases hv : vShape xs
  · rw [show turnedR xs = ([], 1) by simp [turnedR, hv]]
    clear ha
    go_enter Try.func14, Try.ntmps14
    go_wp2_with (go_at_call 34; refine (validShape_any _ _ _ _ _ Ha.out).mono ?_; rintro e w' ⟨rfl, rfl⟩)
    go_ret2
    exact ⟨_, rfl, Own.nil _ _ _ _, Below.refl _ _⟩
  · rw [show turnedR xs = (xs.reverse, 0) by simp [turnedR, hv]]
    obtain ⟨_, h1, h2⟩ := vShape_iff.1 hv
    have Hl := Lib.hid ha.lenI
    have h3 : 1 ≤ n ∧ n ≤ 12 := by rw [ha.lenI] at h1 h2; exact ⟨h1, h2⟩
    clear ha
    go_enter Try.func14, Try.ntmps14
    go_wp2_with (first | (go_at_call 34; refine (validShape_any _ _ _ _ _ Ha.out).mono ?_; rintro e w' ⟨rfl, rfl⟩) | (go_at_call 38; refine (slClone_any _ _ _ _ _ h3.1 (by omega) Ha.out).mono ?_; rintro e w1 ⟨v, rfl, ho, hb⟩) | (go_at_call 39; refine (slReverse_any _ _ _ _ _ h1 (by omega) ho).mono ?_; rintro e w2 ⟨rfl, ho2, hg⟩))
    go_ret2
    exact ⟨_, rfl, ho2.mono (Nat.le_refl _) hg.size, below_grown hb ho hg (Nat.le_refl _) hb.size⟩
end Go.Proofs.Ytkglcfeopicakaa
