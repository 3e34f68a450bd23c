/-
  Plans of stakes, plainly, for the laws: one number for all levels needs no change; a shape upside down needs as many.
-/
import Derived.Test.YtkglcfeopicakaaShapeTab
import Derived.Test.YtkglcfeopicakaaShape2
import Derived.Test.YtkglcfeopicakaaShape4
namespace Go.Proofs.Ytkglcfeopicakaa
open Go Go.RowKit
set_option linter.unusedVariables false

theorem leastTo_at (l : List Int) (high : Int) : ∀ k i, i < k → leastOf (l.getD i 0) high ≤ leastTo l high k := by
  intro k
  induction k with
  | zero => intro i h; omega
  | succ k ih =>
    intro i h
    simp only [leastTo]
    by_cases e : i = k
    · subst e; omega
    · have := ih i (by omega); omega
theorem mostTo_at (l : List Int) (low : Int) : ∀ k i, i < k → mostTo l low k ≤ mostOf (l.getD i 0) low := by
  intro k
  induction k with
  | zero => intro i h; omega
  | succ k ih =>
    intro i h
    simp only [mostTo]
    by_cases e : i = k
    · subst e; omega
    · have := ih i (by omega); omega
theorem leastTo_le {l : List Int} {high v : Int} (h3 : 3 ≤ v) : ∀ k, (∀ i, i < k → leastOf (l.getD i 0) high ≤ v) → leastTo l high k ≤ v := by
  intro k
  induction k with
  | zero => intro _; exact h3
  | succ k ih =>
    intro h
    simp only [leastTo]
    have := ih (fun i hi => h i (by omega))
    have := h k (by omega)
    omega
theorem mostTo_ge {l : List Int} {low v : Int} (h60 : v ≤ 60) : ∀ k, (∀ i, i < k → v ≤ mostOf (l.getD i 0) low) → v ≤ mostTo l low k := by
  intro k
  induction k with
  | zero => intro _; exact h60
  | succ k ih =>
    intro h
    simp only [mostTo]
    have := ih (fun i hi => h i (by omega))
    have := h k (by omega)
    omega

/-- the sum of the first k values -/
def sumN (f : Nat → Int) : Nat → Int
  | 0 => 0
  | k + 1 => sumN f k + f k
theorem sumN_congr {f g : Nat → Int} : ∀ k, (∀ i, i < k → f i = g i) → sumN f k = sumN g k := by
  intro k
  induction k with
  | zero => intro _; rfl
  | succ k ih => intro h; simp only [sumN]; rw [ih (fun i hi => h i (by omega)), h k (by omega)]
theorem sumN_first (f : Nat → Int) : ∀ k, sumN f (k + 1) = f 0 + sumN (fun i => f (i + 1)) k := by
  intro k
  induction k with
  | zero => simp [sumN]
  | succ k ih => rw [sumN, ih]; simp only [sumN]; omega
theorem sumN_rev (f : Nat → Int) : ∀ k, sumN (fun i => f (k - 1 - i)) k = sumN f k := by
  intro k
  induction k with
  | zero => rfl
  | succ k ih =>
    rw [sumN_first, sumN]
    rw [sumN_congr k (g := fun i => f (k - 1 - i)) (fun i hi => by congr 1; omega), ih]
    simp
    omega
theorem sumN_nn {f : Nat → Int} (h : ∀ i, 0 ≤ f i) : ∀ k, 0 ≤ sumN f k := by
  intro k
  induction k with
  | zero => exact Int.le_refl _
  | succ k ih => simp only [sumN]; have := h k; omega
theorem sumN_zero {f : Nat → Int} (h : ∀ i, 0 ≤ f i) : ∀ k, sumN f k = 0 → ∀ i, i < k → f i = 0 := by
  intro k
  induction k with
  | zero => intro _ i hi; omega
  | succ k ih =>
    intro h0 i hi
    simp only [sumN] at h0
    have h1 := sumN_nn h k
    have h2 := h k
    by_cases e : i = k
    · subst e; omega
    · exact ih (by omega) i (by omega)
def stepN (p : List Nat) (i : Nat) : Int := apt (gN p i) (gN p (i + 1))
theorem chg_sum (p : List Nat) : ∀ k, chg p (k + 1) = sumN (stepN p) k := by
  intro k
  induction k with
  | zero => rfl
  | succ k ih =>
    show chg p (k + 1) + apt (gN p k) (gN p (k + 1)) = _
    rw [ih]; rfl
theorem gN_rev {p : List Nat} {n i : Nat} (hp : p.length = n) (hi : i < n) : gN p.reverse i = gN p (n - 1 - i) := by
  unfold gN
  rw [List.getD_eq_getElem?_getD, List.getD_eq_getElem?_getD, List.getElem?_reverse (by omega), hp]
theorem chg_rev {p : List Nat} {n : Nat} (hp : p.length = n) : chg p.reverse n = chg p n := by
  cases n with
  | zero => rfl
  | succ m =>
    rw [chg_sum, chg_sum, ← sumN_rev (stepN p) m]
    apply sumN_congr
    intro i hi
    unfold stepN
    rw [gN_rev hp (by omega), gN_rev hp (by omega), apt_comm, show m + 1 - 1 - (i + 1) = m - 1 - i by omega, show m + 1 - 1 - i = m - 1 - i + 1 by omega]
theorem getD_rev {l : List Int} {n i : Nat} (hl : l.length = n) (hi : i < n) : l.reverse.getD i 0 = l.getD (n - 1 - i) 0 := by
  rw [List.getD_eq_getElem?_getD, List.getD_eq_getElem?_getD, List.getElem?_reverse (by omega), hl]
theorem planV_rev {l : List Int} {low high : Int} {p : List Nat} (h : PlanV l low high p) : PlanV l.reverse low high p.reverse := by
  have hl := h.len
  refine ⟨by simp [hl], fun i hi => ?_, fun i hi => ?_⟩
  · simp only [List.length_reverse] at hi
    rw [getD_rev rfl hi, gN_rev hl hi]
    exact h.good _ (by omega)
  · simp only [List.length_reverse] at hi
    rw [gN_rev hl (by omega), gN_rev hl hi, apt_comm, show l.length - 1 - i = l.length - 1 - (i + 1) + 1 by omega]
    exact h.near _ (by omega)
theorem planTo_V {l : List Int} {low high : Int} {p : List Nat} (hl : 1 ≤ l.length) (h : PlanTo l low high p (l.length - 1)) : PlanV l low high p :=
  ⟨by rw [h.len]; omega, fun i hi => h.good i (by omega), fun i hi => h.near i (by omega)⟩
/-- the least sum of changes -/
def minC (l : List Int) (low high : Int) : Int := minTo (rowD l low high (l.length - 1)) 60
theorem minC_le {l : List Int} {low high : Int} {p : List Nat} (hl : 1 ≤ l.length) (h : PlanV l low high p) : minC l low high ≤ chg p l.length := by
  have h1 := plan_lower h (l.length - 1) (by omega)
  rw [show l.length - 1 - (l.length - 1) = 0 by omega, show l.length - (l.length - 1) = 1 by omega] at h1
  have h2 := (goodN_iff.1 (h.good 0 (by omega))).2.1
  have h3 := minTo_le (rowD l low high (l.length - 1)) 60 (gN p 0) h2
  have h4 : chg p 1 = 0 := rfl
  unfold minC
  omega
theorem plan_sum {l : List Int} {low high : Int} (hl : 1 ≤ l.length) (hb : minC l low high < bigC) : PlanTo l low high (planTo l low high (planN0 l low high) (l.length - 1)) (l.length - 1) ∧ chg (planTo l low high (planN0 l low high) (l.length - 1)) l.length = minC l low high := by
  have h := planTo_at hl hb (i := l.length - 1) (by omega)
  refine ⟨h, ?_⟩
  have hs := h.sum
  have hg := h.good (l.length - 1) (Nat.le_refl _)
  have h60 := (goodN_iff.1 hg).2.1
  rw [show l.length - 1 - (l.length - 1) = 0 by omega, show l.length - 1 + 1 = l.length by omega] at hs
  rw [rowD_get (by omega)] at hs
  unfold costV prevR at hs
  rw [show l.length - 1 - 0 = l.length - 1 by omega, if_pos hg] at hs
  obtain ⟨_, _, h3, _⟩ := planN0_ok l low high
  have h0 : gN (planTo l low high (planN0 l low high) (l.length - 1)) 0 = planN0 l low high := by
    have : ∀ i, gN (planTo l low high (planN0 l low high) i) 0 = planN0 l low high := by
      intro i
      induction i with
      | zero => rfl
      | succ i ih => rw [planTo, gN_app (by rw [planTo_len]; omega), ih]
    exact this _
  rw [h0, h3] at hs
  simp only at hs
  unfold minC
  omega
theorem minC_rev_le {l : List Int} {low high : Int} (hl : 1 ≤ l.length) (hb : minC l.reverse low high < bigC) : minC l low high ≤ minC l.reverse low high := by
  have hl' : 1 ≤ l.reverse.length := by simpa using hl
  obtain ⟨h1, h2⟩ := plan_sum hl' hb
  generalize planTo l.reverse low high (planN0 l.reverse low high) (l.reverse.length - 1) = p at *
  have h3 := planV_rev (planTo_V hl' h1)
  rw [List.reverse_reverse] at h3
  have h4 := minC_le hl h3
  rw [chg_rev (by rw [h3.len.symm]; simp)] at h4
  rw [List.length_reverse] at h2
  omega
theorem minC_rev {l : List Int} {low high : Int} (hl : 1 ≤ l.length) : (minC l low high < bigC ∨ minC l.reverse low high < bigC) → minC l.reverse low high = minC l low high := by
  intro h
  have hl' : 1 ≤ l.reverse.length := by simpa using hl
  have h1 : minC l.reverse low high < bigC → minC l low high ≤ minC l.reverse low high := minC_rev_le hl
  have h2 : minC l low high < bigC → minC l.reverse low high ≤ minC l low high := fun h => by
    have := minC_rev_le (l := l.reverse) (low := low) (high := high) hl' (by rwa [List.reverse_reverse])
    rwa [List.reverse_reverse] at this
  rcases h with h | h
  · have := h2 h; have := h1 (by omega); omega
  · have := h1 h; have := h2 (by omega); omega
theorem minC_nn (l : List Int) (low high : Int) : 0 ≤ minC l low high := by
  obtain ⟨j, hj, h⟩ := minTo_some (rowD l low high (l.length - 1)) 60
  unfold minC
  rw [h]
  exact (rowD_bd l low high (l.length - 1) j (by omega)).1
/-- no change is needed just if there is one number for all levels -/
theorem minC_zero {l : List Int} {low high : Int} (hv : vShape l = true) (hp : apart low high = true) : minC l low high = 0 ↔ leastTo l high l.length ≤ mostTo l low l.length := by
  obtain ⟨⟨b1, b2⟩, b3, b4⟩ := apart_iff.1 hp
  have hl := (vShape_iff.1 hv).2.1
  constructor
  · intro h
    obtain ⟨h1, h2⟩ := plan_sum hl (show minC l low high < bigC by rw [h]; decide)
    generalize planTo l low high (planN0 l low high) (l.length - 1) = p at *
    rw [h, show l.length = l.length - 1 + 1 by omega, chg_sum] at h2
    have hz := sumN_zero (fun i => apt_bd _ _) _ h2
    have hall : ∀ i, i < l.length → gN p i = gN p 0 := by
      intro i
      induction i with
      | zero => intro _; rfl
      | succ i ih =>
        intro hi
        have h3 := hz i (by omega)
        have h4 := ih (by omega)
        unfold stepN apt at h3
        omega
    have hg0 := goodN_iff.1 (h1.good 0 (by omega))
    have hgi : ∀ i, i < l.length → leastOf (l.getD i 0) high ≤ (gN p 0 : Int) ∧ (gN p 0 : Int) ≤ mostOf (l.getD i 0) low := by
      intro i hi
      have h5 := (goodN_iff.1 (h1.good i (by omega))).2.2
      rw [hall i hi] at h5
      have h6 := vShape_at hv hi
      exact (goodB_iff h6.1 h6.2 b1 (by omega) (by omega) (by omega)).1 h5
    have h7 := leastTo_le (l := l) (high := high) (v := (gN p 0 : Int)) (by omega) l.length (fun i hi => (hgi i hi).1)
    have h8 := mostTo_ge (l := l) (low := low) (v := (gN p 0 : Int)) (by omega) l.length (fun i hi => (hgi i hi).2)
    omega
  · intro h
    have h3 := leastTo_ge l high l.length
    have h60 := mostTo_le l low l.length
    obtain ⟨v, hv'⟩ := Int.eq_ofNat_of_zero_le (show 0 ≤ leastTo l high l.length by omega)
    have hg : ∀ i, i < l.length → gN (List.replicate l.length v) i = v := fun i hi => by unfold gN; simp [List.getD_eq_getElem?_getD, hi]
    have hP : PlanV l low high (List.replicate l.length v) := by
      refine ⟨by simp, fun i hi => ?_, fun i hi => ?_⟩
      · rw [hg i hi]
        have h6 := vShape_at hv hi
        have h7 := leastTo_at l high l.length i hi
        have h8 := mostTo_at l low l.length i hi
        exact goodN_iff.2 ⟨by omega, by omega, (goodB_iff h6.1 h6.2 b1 (by omega) (by omega) (by omega)).2 ⟨by omega, by omega⟩⟩
      · rw [hg i (by omega), hg (i + 1) hi]; unfold apt; omega
    have h9 := minC_le hl hP
    have h10 := minC_nn l low high
    rw [show l.length = l.length - 1 + 1 by omega, chg_sum] at h9
    have h11 : sumN (stepN (List.replicate (l.length - 1 + 1) v)) (l.length - 1) = 0 := by
      have : ∀ k, k + 1 ≤ l.length → sumN (stepN (List.replicate (l.length - 1 + 1) v)) k = 0 := by
        intro k
        induction k with
        | zero => intro _; rfl
        | succ k ih =>
          intro hk
          simp only [sumN]
          rw [ih (by omega)]
          unfold stepN
          rw [show l.length - 1 + 1 = l.length by omega, hg k (by omega), hg (k + 1) (by omega)]
          unfold apt; omega
      exact this _ (by omega)
    omega
theorem changes_chg (p : List Nat) : ∀ k, changes (p.map (fun k : Nat => (k : Int))) k = chg p k := by
  have hg : ∀ i, (p.map (fun k : Nat => (k : Int))).getD i 0 = (gN p i : Int) := fun i => by
    unfold gN
    simp only [List.getD_eq_getElem?_getD, List.getElem?_map]
    cases p[i]? <;> rfl
  intro k
  induction k using Nat.strongRecOn with
  | _ k ih =>
    match k with
    | 0 => rfl
    | 1 => rfl
    | k + 2 =>
      simp only [changes, chg]
      rw [ih (k + 1) (by omega), hg, hg]
      unfold apt
      rfl
end Go.Proofs.Ytkglcfeopicakaa
