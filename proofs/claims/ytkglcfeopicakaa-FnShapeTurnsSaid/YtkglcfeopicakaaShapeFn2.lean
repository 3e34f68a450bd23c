/-
  What the law of turned shapes asks, plainly.
-/
import Derived.Test.YtkglcfeopicakaaShapeFn
namespace Go.Proofs.Ytkglcfeopicakaa
open Go Go.RowKit
set_option linter.unusedVariables false

theorem plan_change {l : List Int} {low high : Int} (hv : vShape l = true) (hp : apart low high = true) (hb : minC l low high < bigC) :
    ∃ P : List Nat, planR l low high = (P.map (fun k : Nat => (k : Int)), 0) ∧ P.length = l.length ∧ changesR (P.map (fun k : Nat => (k : Int))) = (minC l low high, 0) := by
  have hl := (vShape_iff.1 hv).2
  obtain ⟨hpt, hcs⟩ := plan_sum hl.1 hb
  have hpr : planR l low high = ((planTo l low high (planN0 l low high) (l.length - 1)).map (fun k : Nat => (k : Int)), 0) := by
    unfold planR
    rw [if_pos (by unfold shCode; rw [hv, hp]; rfl)]
    exact if_neg (by have : minTo (rowD l low high (l.length - 1)) 60 < bigC := hb; omega)
  generalize planTo l low high (planN0 l low high) (l.length - 1) = P at *
  have hPl : P.length = l.length := by have := hpt.len; omega
  refine ⟨P, hpr, hPl, ?_⟩
  have hvp : vPlan (P.map (fun k : Nat => (k : Int))) = true := by
    unfold vPlan
    rw [Bool.and_eq_true]
    refine ⟨eachIn_iff.2 fun x hx => ?_, by simp [hPl]; omega⟩
    obtain ⟨y, hy, rfl⟩ := List.mem_map.1 hx
    obtain ⟨i, hi, rfl⟩ := List.mem_iff_getElem.1 hy
    have hg := goodN_iff.1 (hpt.good i (by omega))
    have e : gN P i = P[i] := by unfold gN; simp [hi]
    rw [e] at hg
    exact ⟨by omega, by omega⟩
  unfold changesR
  rw [if_pos hvp, List.length_map, hPl, changes_chg, hcs]
theorem plan_none {l : List Int} {low high : Int} (hv : vShape l = true) (hp : apart low high = true) (hb : ¬ minC l low high < bigC) : planR l low high = ([], 3) := by
  unfold planR
  rw [if_pos (by unfold shCode; rw [hv, hp]; rfl)]
  exact if_pos (by have : ¬ minTo (rowD l low high (l.length - 1)) 60 < bigC := hb; omega)
theorem vShape_rev {l : List Int} (hv : vShape l = true) : vShape l.reverse = true := by
  have := vShape_iff.1 hv
  exact vShape_iff.2 ⟨fun x hx => this.1 x (by simpa using hx), by simpa using this.2⟩
theorem maxTo_ge2 (l : List Int) : ∀ k j, j ≤ k → l.getD j 0 ≤ maxTo l k := by
  intro k
  induction k with
  | zero => intro j h; obtain rfl : j = 0 := by omega
            exact Int.le_refl _
  | succ k ih =>
    intro j h
    simp only [maxTo]
    by_cases e : j = k + 1
    · subst e; omega
    · have := ih j (by omega); omega
theorem maxTo_some2 (l : List Int) : ∀ k, ∃ j, j ≤ k ∧ maxTo l k = l.getD j 0 := by
  intro k
  induction k with
  | zero => exact ⟨0, Nat.le_refl _, rfl⟩
  | succ k ih =>
    obtain ⟨j, hj, h⟩ := ih
    simp only [maxTo]
    by_cases h2 : l.getD (k + 1) 0 ≤ maxTo l k
    · exact ⟨j, by omega, by omega⟩
    · exact ⟨k + 1, Nat.le_refl _, by omega⟩
theorem widest_ok {l : List Int} (hv : vShape l = true) : ∃ j : Nat, j < l.length ∧ widestR l = ((j : Int), l.getD j 0, 0) ∧ ∀ q, q < l.length → l.getD q 0 ≤ l.getD j 0 ∧ (l.getD q 0 = l.getD j 0 → j ≤ q) := by
  have hl := (vShape_iff.1 hv).2.1
  obtain ⟨i, hi, hm⟩ := maxTo_some2 l (l.length - 1)
  have hmem : maxTo l (l.length - 1) ∈ l := by
    rw [hm]
    have : i < l.length := by omega
    simp [this]
  obtain ⟨j, h1, h2, h3, h4⟩ := indexF_first l 0 hmem
  refine ⟨j, h1, ?_, fun q hq => ⟨?_, fun h => ?_⟩⟩
  · unfold widestR
    rw [if_pos hv, h2, h3]
    simp
  · rw [h3]; exact maxTo_ge2 l _ q (by omega)
  · by_cases hqj : q < j
    · exact absurd (h.trans h3) (h4 q hqj)
    · omega
theorem betw_at (l : List Int) : ∀ k, (∀ q, q < k → (betw l k).getD (2 * q) 0 = l.getD q 0) ∧ (∀ q, q + 1 < k → (betw l k).getD (2 * q + 1) 0 = (l.getD q 0 + l.getD (q + 1) 0) / 2) := by
  intro k
  induction k with
  | zero => exact ⟨fun q h => by omega, fun q h => by omega⟩
  | succ k ih =>
    cases k with
    | zero => exact ⟨fun q h => by obtain rfl : q = 0 := by omega
                                   simp [betw], fun q h => by omega⟩
    | succ k =>
      have hl : (betw l (k + 1)).length = 2 * k + 1 := by rw [betw_length]; omega
      have e : betw l (k + 1 + 1) = betw l (k + 1) ++ [(l.getD k 0 + l.getD (k + 1) 0) / 2] ++ [l.getD (k + 1) 0] := rfl
      rw [e]
      constructor
      · intro q hq
        by_cases h : q < k + 1
        · rw [← ih.1 q h]
          simp only [List.getD_eq_getElem?_getD]
          rw [List.getElem?_append_left (by simp; omega), List.getElem?_append_left (by omega)]
        · obtain rfl : q = k + 1 := by omega
          simp only [List.getD_eq_getElem?_getD]
          rw [List.getElem?_append_right (by simp; omega)]
          simp [hl, show 2 * (k + 1) - (2 * k + 1 + 1) = 0 by omega]
      · intro q hq
        by_cases h : q + 1 < k + 1
        · rw [← ih.2 q h]
          simp only [List.getD_eq_getElem?_getD]
          rw [List.getElem?_append_left (by simp; omega), List.getElem?_append_left (by omega)]
        · obtain rfl : q = k := by omega
          simp only [List.getD_eq_getElem?_getD]
          rw [List.getElem?_append_left (by simp; omega), List.getElem?_append_right (by omega)]
          simp [hl]
end Go.Proofs.Ytkglcfeopicakaa
