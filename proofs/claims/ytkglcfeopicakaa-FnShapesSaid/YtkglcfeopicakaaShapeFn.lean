/-
  What the law of shapes asks of ranges and plans, plainly.
-/
import Derived.Test.YtkglcfeopicakaaShapeLaw
import Derived.Test.YtkglcfeopicakaaShapeDraw
import Derived.Test.YtkglcfeopicakaaShape5
import Derived.Test.YtkglcfeopicakaaShapeOne2
import Derived.Test.YtkglcfeopicakaaShapeChg
import Derived.Test.YtkglcfeopicakaaShapeRng
namespace Go.Proofs.Ytkglcfeopicakaa
open Go Go.RowKit
set_option linter.unusedVariables false

/-- the first k levels have good numbers of stakes -/
def gall (l : List Int) (low high : Int) : Nat → Bool
  | 0 => true
  | k + 1 => gall l low high k && decide (leastOf (l.getD k 0) high ≤ mostOf (l.getD k 0) low)
theorem gall_iff {l : List Int} {low high : Int} : ∀ k, gall l low high k = true ↔ ∀ i, i < k → leastOf (l.getD i 0) high ≤ mostOf (l.getD i 0) low := by
  intro k
  induction k with
  | zero => simp [gall]
  | succ k ih =>
    simp only [gall, Bool.and_eq_true, decide_eq_true_eq, ih]
    constructor
    · rintro ⟨h1, h2⟩ i hi
      by_cases e : i = k
      · subst e; exact h2
      · exact h1 i (by omega)
    · intro h
      exact ⟨fun i hi => h i (by omega), h k (by omega)⟩
/-- one number for all: then all levels have one -/
theorem gall_of_one {l : List Int} {low high : Int} {k : Nat} (h : leastTo l high k ≤ mostTo l low k) : gall l low high k = true :=
  (gall_iff k).2 fun i hi => Int.le_trans (leastTo_at l high k i hi) (Int.le_trans h (mostTo_at l low k i hi))
theorem gall_of_plan {l : List Int} {low high : Int} (hv : vShape l = true) (hp : apart low high = true) (hb : minC l low high < bigC) : gall l low high l.length = true := by
  obtain ⟨⟨b1, b2⟩, b3, b4⟩ := apart_iff.1 hp
  have hl := (vShape_iff.1 hv).2.1
  obtain ⟨h1, _⟩ := plan_sum hl hb
  refine (gall_iff _).2 fun i hi => ?_
  have hg := goodN_iff.1 (h1.good i (by omega))
  have h6 := vShape_at hv hi
  have := (goodB_iff h6.1 h6.2 b1 (by omega) (by omega) (by omega)).1 hg.2.2
  omega
theorem rng_facts {x low high : Int} (hx : 1 ≤ x ∧ x ≤ 5000) (hl : 1 ≤ low) (hl' : low ≤ 200) (hh : low ≤ high) (hh' : high ≤ 200) (h : leastOf x high ≤ mostOf x low) :
    3 ≤ leastOf x high ∧ mostOf x low ≤ 60 ∧ x ≤ leastOf x high * high ∧ mostOf x low * low ≤ x ∧ (3 < leastOf x high → (leastOf x high - 1) * high < x) ∧ (mostOf x low < 60 → x < (mostOf x low + 1) * low) := by
  have h3 : 3 ≤ leastOf x high := by unfold leastOf; omega
  have h60 : mostOf x low ≤ 60 := by unfold mostOf; omega
  have e1 := Int.mul_ediv_add_emod (x + high - 1) high
  have e2 := Int.emod_nonneg (x + high - 1) (show high ≠ 0 by omega)
  have e3 := Int.emod_lt_of_pos (x + high - 1) (show 0 < high by omega)
  have d1 := Int.mul_ediv_add_emod x low
  have d2 := Int.emod_nonneg x (show low ≠ 0 by omega)
  have d3 := Int.emod_lt_of_pos x (show 0 < low by omega)
  have q1 : x ≤ (x + high - 1) / high * high := by rw [Int.mul_comm]; omega
  have q2 : ((x + high - 1) / high - 1) * high < x := by
    rw [Int.sub_mul, Int.mul_comm, Int.one_mul]; omega
  have q3 : x / low * low ≤ x := by rw [Int.mul_comm]; omega
  have q4 : x < (x / low + 1) * low := by rw [Int.add_mul, Int.mul_comm, Int.one_mul]; omega
  have m1 : (x + high - 1) / high ≤ leastOf x high := by unfold leastOf; omega
  have m2 : mostOf x low ≤ x / low := by unfold mostOf; omega
  refine ⟨h3, h60, ?_, ?_, fun h => ?_, fun h => ?_⟩
  · have := Int.mul_le_mul_of_nonneg_right m1 (show 0 ≤ high by omega); omega
  · have := Int.mul_le_mul_of_nonneg_right m2 (show 0 ≤ low by omega); omega
  · have : leastOf x high = (x + high - 1) / high := by unfold leastOf at *; omega
    rw [this]; exact q2
  · have : mostOf x low = x / low := by unfold mostOf at *; omega
    rw [this]; exact q4
theorem range_good {x low high : Int} (hx : 1 ≤ x ∧ x ≤ 5000) (hp : apart low high = true) (h : leastOf x high ≤ mostOf x low) : stakesRangeR x low high = (leastOf x high, mostOf x low, 0) := by
  unfold stakesRangeR
  rw [if_pos (by rw [inB_iff.2 hx, hp]; rfl), if_neg (by omega)]
theorem range_not {x low high : Int} (hx : 1 ≤ x ∧ x ≤ 5000) (hp : apart low high = true) (h : mostOf x low < leastOf x high) : stakesRangeR x low high = (0, 0, 3) := by
  unfold stakesRangeR
  rw [if_pos (by rw [inB_iff.2 hx, hp]; rfl), if_pos (by omega)]
theorem spacing_ok {l : List Int} {a : Int} {i : Nat} (hv : vShape l = true) (ha : 3 ≤ a ∧ a ≤ 60) (hi : i < l.length) : spacingR l a i = (lowN (l.getD i 0) a, lowD (l.getD i 0) a, 0) := by
  have h2 : (i : Int) < l.length := by omega
  simp [spacingR, hv, areSt, inB_iff.2 ha, inB_iff.2 (show 0 ≤ (i : Int) ∧ (i : Int) ≤ l.length - 1 by omega)]
theorem one_of {l : List Int} {low high : Int} (hc : shCode l low high = 0) : (leastTo l high l.length ≤ mostTo l low l.length → oneR l low high = (leastTo l high l.length, 0)) ∧ (mostTo l low l.length < leastTo l high l.length → oneR l low high = (0, 3)) := by
  unfold oneR
  rw [if_pos hc]
  exact ⟨fun h => if_neg (by omega), fun h => if_pos (by omega)⟩
/-- what is known of a plan that was found -/
structure PlanK (l : List Int) (low high : Int) (Pl : List Int) (tc : Int) (P : List Nat) : Prop where
  len : P.length = l.length
  eq : Pl = P.map (fun k : Nat => (k : Int))
  good : ∀ q, q < l.length → goodN (l.getD q 0) low high (gN P q) = true
  near : ∀ q, q + 1 < l.length → apt (gN P q) (gN P (q + 1)) ≤ 6
  chgR : changesR Pl = (chg P l.length, 0)
  bd : ∀ q, q ≤ l.length → 0 ≤ chg P q ∧ chg P q ≤ 60 * q
  zero : chg P l.length = 0 ↔ tc = 0
theorem shapes_facts {l : List Int} {low high : Int} (hv : vShape l = true) (hp : apart low high = true) : ∃ (oc tc num : Int) (Pl : List Int), planR l low high = (Pl, oc) ∧ oneR l low high = (num, tc) ∧ (oc = 0 ∨ oc = 3) ∧ (tc = 0 ∨ tc = 3) ∧ (tc = 0 → oc = 0) ∧
    (tc = 0 → num = leastTo l high l.length ∧ leastTo l high l.length ≤ mostTo l low l.length) ∧ (tc ≠ 0 → mostTo l low l.length < leastTo l high l.length) ∧ (oc = 0 → gall l low high l.length = true) ∧ (oc = 0 → ∃ P, PlanK l low high Pl tc P) := by
  have hcode : shCode l low high = 0 := by unfold shCode; rw [hv, hp]; rfl
  have hl := (vShape_iff.1 hv).2
  have hone := one_of hcode
  have hz := minC_zero hv hp
  by_cases hb : minC l low high < bigC
  · obtain ⟨hpt, hcs⟩ := plan_sum hl.1 hb
    have hpr : planR l low high = ((planTo l low high (planN0 l low high) (l.length - 1)).map (fun k : Nat => (k : Int)), 0) := by
      unfold planR
      rw [if_pos hcode]
      exact if_neg (by have : minTo (rowD l low high (l.length - 1)) 60 < bigC := hb; omega)
    generalize planTo l low high (planN0 l low high) (l.length - 1) = P at *
    have hPl : P.length = l.length := by have := hpt.len; omega
    have hvp : vPlan (P.map (fun k : Nat => (k : Int))) = true := by
      unfold vPlan
      rw [Bool.and_eq_true]
      refine ⟨eachIn_iff.2 fun x hx => ?_, by simp [hPl]; omega⟩
      obtain ⟨y, hy, rfl⟩ := List.mem_map.1 hx
      obtain ⟨i, hi, rfl⟩ := List.mem_iff_getElem.1 hy
      have hg := goodN_iff.1 (hpt.good i (by omega))
      have e : gN P i = P[i] := by unfold gN; simp [hi]
      rw [e] at hg
      exact ⟨by omega, by omega⟩
    have hK : ∀ tc : Int, (minC l low high = 0 ↔ tc = 0) → PlanK l low high (P.map (fun k : Nat => (k : Int))) tc P := fun tc htc => by
      refine ⟨hPl, rfl, fun q hq => hpt.good q (by omega), fun q hq => hpt.near q (by omega), ?_, fun q hq => ?_, by rw [hcs]; exact htc⟩
      · unfold changesR
        rw [if_pos hvp, List.length_map, hPl, changes_chg]
      · have h := changes_bd hvp q (by simp [hPl]; omega)
        rwa [changes_chg] at h
    have hga := gall_of_plan hv hp hb
    by_cases hLM : leastTo l high l.length ≤ mostTo l low l.length
    · exact ⟨0, 0, _, _, hpr, hone.1 hLM, .inl rfl, .inl rfl, fun _ => rfl, fun _ => ⟨rfl, hLM⟩, fun h => (h rfl).elim, fun _ => hga, fun _ => ⟨P, hK 0 ⟨fun _ => rfl, fun _ => hz.2 hLM⟩⟩⟩
    · exact ⟨0, 3, _, _, hpr, hone.2 (by omega), .inl rfl, .inr rfl, fun h => by omega, fun h => by omega, fun _ => by omega, fun _ => hga, fun _ => ⟨P, hK 3 ⟨fun h => (hLM (hz.1 h)).elim, fun h => by omega⟩⟩⟩
  · have hpr : planR l low high = ([], 3) := by
      unfold planR
      rw [if_pos hcode]
      exact if_pos (by have : ¬ minTo (rowD l low high (l.length - 1)) 60 < bigC := hb; omega)
    have hLM : ¬ leastTo l high l.length ≤ mostTo l low l.length := fun h => hb (by rw [hz.2 h]; decide)
    exact ⟨3, 3, _, _, hpr, hone.2 (by omega), .inr rfl, .inr rfl, fun h => by omega, fun h => by omega, fun _ => by omega, fun h => by omega, fun h => by omega⟩
end Go.Proofs.Ytkglcfeopicakaa
