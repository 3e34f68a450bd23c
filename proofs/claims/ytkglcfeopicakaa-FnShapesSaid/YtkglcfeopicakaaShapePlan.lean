/-
  Plans of stakes, plainly: the table of least sums of changes, the plan that is read off it, that none has a smaller sum, and that shapes upside down have the same.
-/
import Derived.Test.YtkglcfeopicakaaShapeOne
import Derived.Test.YtkglcfeopicakaaSlicesK
namespace Go.Proofs.Ytkglcfeopicakaa
open Go.RowKit
set_option linter.unusedVariables false

/-- more than all sums of changes -/
def bigC : Int := 1000000
def goodN (v low high : Int) (n : Nat) : Bool := decide (3 ≤ n) && decide (n ≤ 60) && goodB v n low high
theorem goodN_iff {v low high : Int} {n : Nat} : goodN v low high n = true ↔ 3 ≤ n ∧ n ≤ 60 ∧ goodB v n low high = true := by simp [goodN, and_assoc]
def apt (a b : Nat) : Int := max ((a : Int) - b) (b - a)
theorem apt_bd (a b : Nat) : 0 ≤ apt a b := by unfold apt; omega
theorem apt_comm (a b : Nat) : apt a b = apt b a := by unfold apt; omega

/-- the least sum with a next number of stakes from lo on, k tries -/
def bestTo (r : List Int) (n lo : Nat) : Nat → Int
  | 0 => bigC
  | k + 1 => min (bestTo r n lo k) (r.getD (lo + k) 0 + apt n (lo + k))
theorem bestTo_le (r : List Int) (n lo : Nat) : ∀ k, bestTo r n lo k ≤ bigC := by
  intro k
  induction k with
  | zero => exact Int.le_refl _
  | succ k ih => simp only [bestTo]; omega
theorem bestTo_all (r : List Int) (n lo : Nat) : ∀ k j, j < k → bestTo r n lo k ≤ r.getD (lo + j) 0 + apt n (lo + j) := by
  intro k
  induction k with
  | zero => intro j h; omega
  | succ k ih =>
    intro j hj
    simp only [bestTo]
    by_cases e : j = k
    · subst e; omega
    · have := ih j (by omega); omega
theorem bestTo_some (r : List Int) (n lo : Nat) : ∀ k, bestTo r n lo k = bigC ∨ ∃ j, j < k ∧ bestTo r n lo k = r.getD (lo + j) 0 + apt n (lo + j) := by
  intro k
  induction k with
  | zero => exact .inl rfl
  | succ k ih =>
    simp only [bestTo]
    by_cases h : bestTo r n lo k ≤ r.getD (lo + k) 0 + apt n (lo + k)
    · rw [Int.min_eq_left h]
      rcases ih with ih | ⟨j, hj, ih⟩
      · exact .inl ih
      · exact .inr ⟨j, by omega, ih⟩
    · rw [Int.min_eq_right (by omega)]
      exact .inr ⟨k, by omega, rfl⟩
theorem bestTo_skip {r : List Int} {n lo a : Nat} (h : ∀ j, j < a → bigC ≤ r.getD (lo + j) 0) : ∀ k, bestTo r n lo (a + k) = bestTo r n (lo + a) k := by
  have h0 : ∀ b, b ≤ a → bestTo r n lo b = bigC := by
    intro b
    induction b with
    | zero => intro _; rfl
    | succ b ih =>
      intro hb
      simp only [bestTo]
      rw [ih (by omega)]
      have := h b (by omega)
      have := apt_bd n (lo + b)
      omega
  intro k
  induction k with
  | zero => simpa [bestTo] using h0 a (Nat.le_refl _)
  | succ k ih =>
    show bestTo r n lo (a + k + 1) = _
    simp only [bestTo]
    rw [ih, Nat.add_assoc]

/-- the window of next numbers -/
def winLo (n : Nat) : Nat := max 3 (n - 6)
def winN (n : Nat) : Nat := min 60 (n + 6) + 1 - winLo n
def best (r : List Int) (n : Nat) : Int := bestTo r n (winLo n) (winN n)
/-- the least sum from a level on -/
def costV (v low high : Int) (nxt : Option (List Int)) (n : Nat) : Int :=
  if goodN v low high n then (match nxt with | none => 0 | some r => best r n) else bigC
def rowL (v low high : Int) (nxt : Option (List Int)) : List Int := (List.range 61).map (costV v low high nxt)
theorem rowL_len (v low high : Int) (nxt : Option (List Int)) : (rowL v low high nxt).length = 61 := by simp [rowL]
theorem rowL_get {v low high : Int} {nxt : Option (List Int)} {n : Nat} (h : n < 61) : (rowL v low high nxt).getD n 0 = costV v low high nxt n := by simp [rowL, h]
/-- the row of the level that d levels follow -/
def rowD (l : List Int) (low high : Int) : Nat → List Int
  | 0 => rowL (l.getD (l.length - 1) 0) low high none
  | d + 1 => rowL (l.getD (l.length - 1 - (d + 1)) 0) low high (some (rowD l low high d))
theorem rowD_len (l : List Int) (low high : Int) (d : Nat) : (rowD l low high d).length = 61 := by cases d <;> exact rowL_len _ _ _ _
def prevR (l : List Int) (low high : Int) : Nat → Option (List Int)
  | 0 => none
  | d + 1 => some (rowD l low high d)
theorem rowD_eq (l : List Int) (low high : Int) (d : Nat) : rowD l low high d = rowL (l.getD (l.length - 1 - d) 0) low high (prevR l low high d) := by cases d <;> rfl
theorem rowD_get {l : List Int} {low high : Int} {d n : Nat} (h : n < 61) : (rowD l low high d).getD n 0 = costV (l.getD (l.length - 1 - d) 0) low high (prevR l low high d) n := by rw [rowD_eq, rowL_get h]
theorem rowD_bd (l : List Int) (low high : Int) : ∀ d n, n < 61 → 0 ≤ (rowD l low high d).getD n 0 ∧ ((rowD l low high d).getD n 0 = bigC ∨ (rowD l low high d).getD n 0 ≤ 6 * d) := by
  intro d
  induction d with
  | zero =>
    intro n hn
    rw [rowD_get hn]
    unfold costV prevR
    split
    · exact ⟨Int.le_refl _, .inr (by simp)⟩
    · exact ⟨by decide, .inl rfl⟩
  | succ d ih =>
    intro n hn
    rw [rowD_get hn]
    unfold costV prevR
    split
    · next hg =>
      obtain ⟨h3, h60, _⟩ := goodN_iff.1 hg
      simp only
      unfold best
      rcases bestTo_some (rowD l low high d) n (winLo n) (winN n) with h | ⟨j, hj, h⟩
      · rw [h]; exact ⟨by decide, .inl rfl⟩
      · have hj2 : winLo n + j < 61 := by unfold winN winLo at *; omega
        have hap : 0 ≤ apt n (winLo n + j) ∧ apt n (winLo n + j) ≤ 6 := by unfold winN winLo apt at *; omega
        have := ih (winLo n + j) hj2
        have hle := bestTo_le (rowD l low high d) n (winLo n) (winN n)
        rw [h] at hle ⊢
        refine ⟨by omega, ?_⟩
        rcases this.2 with h2 | h2
        · left; omega
        · right; omega
    · exact ⟨by decide, .inl rfl⟩
theorem rowD_low {l : List Int} {low high : Int} {d n : Nat} (h : n < 3) : (rowD l low high d).getD n 0 = bigC := by
  rw [rowD_get (by omega)]
  unfold costV
  rw [if_neg (by intro hg; have := (goodN_iff.1 hg).1; omega)]

/-! ### the reference's table: -1 for none -/
def enc (x : Int) : Int := if x < bigC then x else -1
theorem enc_step {a x d : Int} (ha : 0 ≤ a) (ha' : a ≤ bigC) (hx : 0 ≤ x) (hx' : x = bigC ∨ x ≤ 100) (hd : 0 ≤ d) (hd' : d ≤ 60) :
    enc (min a (x + d)) = if 0 ≤ enc x ∧ (enc a < 0 ∨ enc x + d < enc a) then enc x + d else enc a := by
  unfold enc bigC at *
  split <;> split <;> split <;> (try split) <;> omega

/-! ### valid plans -/
def gN (p : List Nat) (i : Nat) : Nat := p.getD i 0
structure PlanV (l : List Int) (low high : Int) (p : List Nat) : Prop where
  len : p.length = l.length
  good : ∀ i, i < l.length → goodN (l.getD i 0) low high (gN p i) = true
  near : ∀ i, i + 1 < l.length → apt (gN p i) (gN p (i + 1)) ≤ 6
/-- the sum of changes of the first k levels -/
def chg (p : List Nat) : Nat → Int
  | 0 => 0
  | 1 => 0
  | k + 2 => chg p (k + 1) + apt (gN p k) (gN p (k + 1))
theorem chg_step (p : List Nat) {k : Nat} (h : 1 ≤ k) : chg p (k + 1) = chg p k + apt (gN p (k - 1)) (gN p k) := by
  obtain ⟨j, rfl⟩ : ∃ j, k = j + 1 := ⟨k - 1, by omega⟩
  rfl
theorem plan_lower {l : List Int} {low high : Int} {p : List Nat} (h : PlanV l low high p) : ∀ d, d < l.length → (rowD l low high d).getD (gN p (l.length - 1 - d)) 0 ≤ chg p l.length - chg p (l.length - d) := by
  intro d
  induction d with
  | zero =>
    intro hd
    have hg := h.good (l.length - 1) (by omega)
    have h60 := (goodN_iff.1 hg).2.1
    rw [show l.length - 1 - 0 = l.length - 1 by omega, rowD_get (by omega)]
    unfold costV prevR
    rw [show l.length - 1 - 0 = l.length - 1 by omega, if_pos hg]
    simp
  | succ d ih =>
    intro hd
    have ih := ih (by omega)
    obtain ⟨i, hi⟩ : ∃ i, i = l.length - 1 - (d + 1) := ⟨_, rfl⟩
    rw [← hi]
    have hg := h.good i (by omega)
    have hg2 := h.good (i + 1) (by omega)
    have hn := h.near i (by omega)
    obtain ⟨a3, a60, _⟩ := goodN_iff.1 hg
    obtain ⟨b3, b60, _⟩ := goodN_iff.1 hg2
    rw [rowD_get (by omega)]
    unfold costV prevR
    rw [← hi, if_pos hg]
    simp only
    unfold best
    have hwin : winLo (gN p i) ≤ gN p (i + 1) ∧ gN p (i + 1) - winLo (gN p i) < winN (gN p i) := by
      unfold apt at hn; unfold winN winLo; omega
    have hb := bestTo_all (rowD l low high d) (gN p i) (winLo (gN p i)) (winN (gN p i)) (gN p (i + 1) - winLo (gN p i)) hwin.2
    rw [show winLo (gN p i) + (gN p (i + 1) - winLo (gN p i)) = gN p (i + 1) by omega] at hb
    rw [show l.length - 1 - d = i + 1 by omega, show l.length - d = i + 2 by omega] at ih
    rw [show l.length - (d + 1) = i + 1 by omega]
    have hs := chg_step p (k := i + 1) (by omega)
    rw [show i + 1 - 1 = i by omega, show i + 1 + 1 = i + 2 by omega] at hs
    omega

/-! ### the plan that is read off -/
/-- the first m from lo on, at most f tries, with the row's sum and the step as told -/
def findM (r : List Int) (n : Nat) (t : Int) : Nat → Nat → Nat
  | 0, m => m
  | f + 1, m => if r.getD m 0 + apt n m = t then m else findM r n t f (m + 1)
theorem findM_hit (r : List Int) (n : Nat) (t : Int) : ∀ f m j, m ≤ j → j < m + f → r.getD j 0 + apt n j = t → (r.getD (findM r n t f m) 0 + apt n (findM r n t f m) = t ∧ m ≤ findM r n t f m ∧ findM r n t f m ≤ j ∧ ∀ i, m ≤ i → i < findM r n t f m → r.getD i 0 + apt n i ≠ t) := by
  intro f
  induction f with
  | zero => intro m j h1 h2; omega
  | succ f ih =>
    intro m j h1 h2 h3
    unfold findM
    by_cases h : r.getD m 0 + apt n m = t
    · rw [if_pos h]
      exact ⟨h, by omega, h1, fun i a b => by omega⟩
    · rw [if_neg h]
      have hne : m ≠ j := by rintro rfl; exact h h3
      obtain ⟨q1, q2, q3, q4⟩ := ih (m + 1) j (by omega) (by omega) h3
      refine ⟨q1, by omega, q3, fun i a b => ?_⟩
      by_cases e : i = m
      · subst e; exact h
      · exact q4 i (by omega) b
def nextM (r : List Int) (n : Nat) (t : Int) : Nat := findM r n t (winN n) (winLo n)
theorem nextM_ok {r : List Int} {n : Nat} {t : Int} (ht : t = best r n) (hb : t < bigC) : r.getD (nextM r n t) 0 + apt n (nextM r n t) = t ∧ winLo n ≤ nextM r n t ∧ nextM r n t < winLo n + winN n ∧ ∀ i, winLo n ≤ i → i < nextM r n t → r.getD i 0 + apt n i ≠ t := by
  rcases bestTo_some r n (winLo n) (winN n) with h | ⟨j, hj, h⟩
  · unfold best at ht; omega
  · obtain ⟨a, b, c, d⟩ := findM_hit r n t (winN n) (winLo n) (winLo n + j) (by omega) (by omega) (by rw [ht]; unfold best; exact h.symm)
    exact ⟨a, b, by unfold nextM; omega, d⟩
/-- the plan's first i + 1 numbers -/
def planTo (l : List Int) (low high : Int) (n0 : Nat) : Nat → List Nat
  | 0 => [n0]
  | i + 1 => planTo l low high n0 i ++ [nextM (rowD l low high (l.length - 1 - (i + 1))) ((planTo l low high n0 i).getLastD 0) ((rowD l low high (l.length - 1 - i)).getD ((planTo l low high n0 i).getLastD 0) 0)]
theorem planTo_len (l : List Int) (low high : Int) (n0 : Nat) : ∀ i, (planTo l low high n0 i).length = i + 1 := by
  intro i
  induction i with
  | zero => rfl
  | succ i ih => simp only [planTo, List.length_append, ih]; rfl
theorem getLastD_eq (p : List Nat) {i : Nat} (h : p.length = i + 1) : p.getLastD 0 = gN p i := by
  unfold gN
  rw [List.getLastD_eq_getLast?, List.getLast?_eq_getElem?, h]
  simp [List.getD_eq_getElem?_getD]
theorem gN_app {p q : List Nat} {i : Nat} (h : i < p.length) : gN (p ++ q) i = gN p i := by
  unfold gN; simp [List.getD_eq_getElem?_getD, List.getElem?_append, h]
theorem gN_snoc {p : List Nat} {x i : Nat} (h : p.length = i) : gN (p ++ [x]) i = x := by
  unfold gN; subst h; simp [List.getD_eq_getElem?_getD]
theorem chg_app {p q : List Nat} : ∀ {k : Nat}, k ≤ p.length → chg (p ++ q) k = chg p k := by
  intro k
  induction k with
  | zero => intro _; rfl
  | succ k ih =>
    intro hk
    by_cases h0 : k = 0
    · subst h0; rfl
    · rw [chg_step _ (by omega), chg_step _ (by omega), ih (by omega), gN_app (by omega), gN_app (by omega)]
structure PlanTo (l : List Int) (low high : Int) (p : List Nat) (i : Nat) : Prop where
  len : p.length = i + 1
  good : ∀ j, j ≤ i → goodN (l.getD j 0) low high (gN p j) = true
  near : ∀ j, j + 1 ≤ i → apt (gN p j) (gN p (j + 1)) ≤ 6
  cost : (rowD l low high (l.length - 1 - i)).getD (gN p i) 0 < bigC
  sum : chg p (i + 1) + (rowD l low high (l.length - 1 - i)).getD (gN p i) 0 = (rowD l low high (l.length - 1)).getD (gN p 0) 0
theorem good_of {l : List Int} {low high : Int} {d n : Nat} (hn : n < 61) (h : (rowD l low high d).getD n 0 < bigC) : goodN (l.getD (l.length - 1 - d) 0) low high n = true := by
  rw [rowD_get hn] at h
  unfold costV at h
  split at h
  · assumption
  · omega
theorem best_of {l : List Int} {low high : Int} {d n : Nat} (hn : n < 61) (h : (rowD l low high (d + 1)).getD n 0 < bigC) : (rowD l low high (d + 1)).getD n 0 = best (rowD l low high d) n := by
  have hg := good_of hn h
  rw [rowD_get hn]
  unfold costV prevR
  rw [if_pos hg]
theorem planTo_ok {l : List Int} {low high : Int} {n0 : Nat} (hl : 1 ≤ l.length) (hn0 : n0 < 61) (h0 : (rowD l low high (l.length - 1)).getD n0 0 < bigC) : ∀ i, i < l.length → PlanTo l low high (planTo l low high n0 i) i := by
  intro i
  induction i with
  | zero =>
    intro _
    have hg := good_of hn0 h0
    rw [show l.length - 1 - (l.length - 1) = 0 by omega] at hg
    refine ⟨rfl, fun j hj => ?_, fun j hj => by omega, by simpa [planTo, gN] using h0, by simp [planTo, gN, chg]⟩
    obtain rfl : j = 0 := by omega
    exact hg
  | succ i ih =>
    intro hi
    have ih := ih (by omega)
    obtain ⟨p, hp⟩ : ∃ p, p = planTo l low high n0 i := ⟨_, rfl⟩
    rw [← hp] at ih
    obtain ⟨d, hd⟩ : ∃ d, d = l.length - 1 - (i + 1) := ⟨_, rfl⟩
    have hd1 : l.length - 1 - i = d + 1 := by omega
    have hc := ih.cost
    have hs := ih.sum
    rw [hd1] at hc hs
    have hgi := goodN_iff.1 (ih.good i (Nat.le_refl _))
    have hbe := best_of (by omega) hc
    obtain ⟨q1, q2, q3, q4⟩ := nextM_ok hbe hc
    have e : planTo l low high n0 (i + 1) = p ++ [nextM (rowD l low high d) (gN p i) ((rowD l low high (d + 1)).getD (gN p i) 0)] := by
      show planTo l low high n0 i ++ _ = _
      rw [← hp, getLastD_eq p ih.len, hd1, ← hd]
    generalize nextM (rowD l low high d) (gN p i) ((rowD l low high (d + 1)).getD (gN p i) 0) = x at *
    have hw : x ≤ 60 ∧ apt (gN p i) x ≤ 6 := by unfold winN winLo at *; unfold apt; omega
    have hx := apt_bd (gN p i) x
    have hcx : (rowD l low high d).getD x 0 < bigC := by omega
    have hgx := good_of (by omega) hcx
    rw [show l.length - 1 - d = i + 1 by omega] at hgx
    have hlen := ih.len
    have g1 : gN (p ++ [x]) (i + 1) = x := gN_snoc (by omega)
    rw [e]
    refine ⟨by simp; omega, fun j hj => ?_, fun j hj => ?_, ?_, ?_⟩
    · by_cases hji : j ≤ i
      · rw [gN_app (by omega)]; exact ih.good j hji
      · obtain rfl : j = i + 1 := by omega
        rw [g1]; exact hgx
    · by_cases hji : j + 1 ≤ i
      · rw [gN_app (by omega), gN_app (by omega)]; exact ih.near j hji
      · obtain rfl : j = i := by omega
        rw [g1, gN_app (by omega)]; exact hw.2
    · rw [← hd, g1]; exact hcx
    · rw [← hd, g1, gN_app (show 0 < p.length by omega), ← hs, chg_step _ (by omega), chg_app (by omega), show i + 1 - 1 = i by omega, g1, gN_app (by omega), ← q1]
      omega

/-- the numbers of the plan -/
def minL (r : List Int) : Int := minTo r (r.length - 1)
end Go.Proofs.Ytkglcfeopicakaa
