/-
  Shapes, plainly.
-/
import Derived.Test.YtkglcfeopicakaaLists
namespace Go.Proofs.Ytkglcfeopicakaa
open Go.RowKit
set_option linter.unusedVariables false

def vShape (l : List Int) : Bool := eachIn l 1 5000 && inB (l.length : Int) 1 12
theorem vShape_iff {l : List Int} : vShape l = true ↔ (∀ x ∈ l, 1 ≤ x ∧ x ≤ 5000) ∧ 1 ≤ l.length ∧ l.length ≤ 12 := by
  simp only [vShape, Bool.and_eq_true, eachIn_iff, inB_iff]
  constructor
  · rintro ⟨h1, h2, h3⟩; exact ⟨h1, by omega, by omega⟩
  · rintro ⟨h1, h2, h3⟩; exact ⟨h1, by omega, by omega⟩
theorem vShape_at {l : List Int} (h : vShape l = true) {k : Nat} (hk : k < l.length) : 1 ≤ l.getD k 0 ∧ l.getD k 0 ≤ 5000 := by
  refine (vShape_iff.1 h).1 _ ?_
  simp [hk]
def apart (low high : Int) : Bool := inB low 1 200 && inB high low 200
theorem apart_iff {low high : Int} : apart low high = true ↔ (1 ≤ low ∧ low ≤ 200) ∧ low ≤ high ∧ high ≤ 200 := by simp [apart, inB_iff]

/-- least and most stakes -/
def leastOf (around high : Int) : Int := max 3 ((around + high - 1) / high)
def mostOf (around low : Int) : Int := min 60 (around / low)
theorem over_eq {a b : Int} (ha : 0 ≤ a) (hb : 1 ≤ b) : (if a % b > 0 then a / b + 1 else a / b) = (a + b - 1) / b := by
  have h1 := Int.mul_ediv_add_emod a b
  have h2 := Int.emod_nonneg a (show b ≠ 0 by omega)
  have h3 := Int.emod_lt_of_pos a (show 0 < b by omega)
  split
  · have : a + b - 1 = (a % b - 1) + b * (a / b + 1) := by rw [Int.mul_add]; omega
    rw [this, Int.add_mul_ediv_left (a % b - 1) (a / b + 1) (show b ≠ 0 by omega), Int.ediv_eq_zero_of_lt (show 0 ≤ a % b - 1 by omega) (show a % b - 1 < b by omega)]; omega
  · have : a + b - 1 = (b - 1) + b * (a / b) := by omega
    rw [this, Int.add_mul_ediv_left (b - 1) (a / b) (show b ≠ 0 by omega), Int.ediv_eq_zero_of_lt (show 0 ≤ b - 1 by omega) (show b - 1 < b by omega)]; omega
def stakesRangeR (around low high : Int) : Int × Int × Int :=
  if inB around 1 5000 && apart low high then
    if leastOf around high > mostOf around low then (0, 0, 3) else (leastOf around high, mostOf around low, 0)
  else (0, 0, 2)

def vPlan (l : List Int) : Bool := eachIn l 3 60 && decide (l.length ≤ 12)
/-- the sum of changes of the first k levels -/
def changes (l : List Int) : Nat → Int
  | 0 => 0
  | 1 => 0
  | k + 2 => changes l (k + 1) + max (l.getD k 0 - l.getD (k + 1) 0) (l.getD (k + 1) 0 - l.getD k 0)
theorem changes_bd {l : List Int} (h : vPlan l = true) : ∀ k, k ≤ l.length → 0 ≤ changes l k ∧ changes l k ≤ 60 * k := by
  have h1 := fun k hk => eachIn_at (l := l) (lo := 3) (hi := 60) (k := k) (by simp only [vPlan, Bool.and_eq_true] at h; exact h.1) hk
  intro k
  induction k with
  | zero => intro _; simp [changes]
  | succ k ih =>
    intro hk
    cases k with
    | zero => simp [changes]
    | succ k =>
      have := ih (by omega)
      have h2 := h1 k (by omega)
      have h3 := h1 (k + 1) (by omega)
      simp only [changes]
      omega
theorem changes_fin {l : List Int} {n j : Nat} (h : n = j + 1 ∨ (n = 0 ∧ j = 0)) : changes l n = changes l (j + 1) := by
  rcases h with rfl | ⟨rfl, rfl⟩ <;> rfl
def changesR (l : List Int) : Int × Int := if vPlan l then (changes l l.length, 0) else (0, 2)
end Go.Proofs.Ytkglcfeopicakaa
