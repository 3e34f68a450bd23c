/-
  The search for an order of rods, plainly: whatever is left out on the way, the same order is found, and it has the fewest.
-/
import Derived.Test.YtdbgicfbigjmmaaLaid8
namespace Go.Proofs.Ytdbgicfbigjmmaa
open Go.RowKit
set_option linter.unusedVariables false

/-- the best order so far, and how many it has; less than 0: none yet -/
abbrev SS := List Nat × Int
def putS (m : List Nat → Nat) (o : List Nat) (S : SS) : SS := if S.2 < 0 ∨ (m o : Int) < S.2 then (o, (m o : Int)) else S
def srchTo (f : List Nat → SS → SS) (o : List Nat) (S : SS) : Nat → SS
  | 0 => S
  | k + 1 => if k ∈ o then srchTo f o S k else f (o ++ [k]) (srchTo f o S k)
def srch (m : List Nat → Nat) (n : Nat) : Nat → List Nat → SS → SS
  | 0, o, S => putS m o S
  | f + 1, o, S => srchTo (srch m n f) o S n

/-- as good as before, or better -/
def LeS (S T : SS) : Prop := S.2 < 0 ∨ (0 ≤ T.2 ∧ T.2 ≤ S.2)
theorem LeS.refl (S : SS) : LeS S S := by unfold LeS; omega
theorem LeS.trans {S T U : SS} (h : LeS S T) (k : LeS T U) : LeS S U := by unfold LeS at *; omega
theorem putS_le (m : List Nat → Nat) (o : List Nat) (S : SS) : LeS S (putS m o S) ∧ 0 ≤ (putS m o S).2 ∧ (putS m o S).2 ≤ m o := by
  unfold putS LeS
  by_cases h : S.2 < 0 ∨ (m o : Int) < S.2
  · rw [if_pos h]; simp only; omega
  · rw [if_neg h]; omega

theorem srchTo_same {f : List Nat → SS → SS} {o : List Nat} {S : SS} (h : ∀ k, k ∉ o → f (o ++ [k]) S = S) (k : Nat) : srchTo f o S k = S := by
  induction k with
  | zero => rfl
  | succ k ih =>
    unfold srchTo
    by_cases hk : k ∈ o
    · rw [if_pos hk, ih]
    · rw [if_neg hk, ih, h k hk]
theorem srch_same {m : List Nat → Nat} (hm : ∀ o k, m o ≤ m (o ++ [k])) (n f : Nat) : ∀ o (S : SS), 0 ≤ S.2 → S.2 ≤ m o → srch m n f o S = S := by
  induction f with
  | zero =>
    intro o S h0 h1
    unfold srch putS
    rw [if_neg (by omega)]
  | succ f ih =>
    intro o S h0 h1
    unfold srch
    exact srchTo_same (fun k _ => ih _ _ h0 (by have := hm o k; omega)) n

theorem srchTo_le {f : List Nat → SS → SS} (hf : ∀ o S, LeS S (f o S)) (o : List Nat) (S : SS) (k d : Nat) : LeS (srchTo f o S k) (srchTo f o S (k + d)) := by
  induction d with
  | zero => exact LeS.refl _
  | succ d ih =>
    show LeS _ (srchTo f o S (k + d + 1))
    rw [srchTo]
    by_cases hk : k + d ∈ o
    · rw [if_pos hk]; exact ih
    · rw [if_neg hk]; exact ih.trans (hf _ _)
theorem srch_le (m : List Nat → Nat) (n f : Nat) : ∀ o S, LeS S (srch m n f o S) := by
  induction f with
  | zero => intro o S; exact (putS_le m o S).1
  | succ f ih =>
    intro o S
    unfold srch
    have := srchTo_le ih o S 0 n
    rw [Nat.zero_add] at this
    exact this

/-- no order that goes on from here has fewer -/
theorem srch_min (m : List Nat → Nat) (n f : Nat) : ∀ o S (r : List Nat), r.length = f → (o ++ r).Nodup → (∀ x ∈ r, x < n) → 0 ≤ (srch m n f o S).2 ∧ (srch m n f o S).2 ≤ m (o ++ r) := by
  induction f with
  | zero =>
    intro o S r hr _ _
    have : r = [] := List.eq_nil_of_length_eq_zero hr
    subst this
    rw [List.append_nil]
    exact (putS_le m o S).2
  | succ f ih =>
    intro o S r hr hnd hlt
    match r, hr with
    | k :: r, hr =>
      have hkn : k < n := hlt k (by simp)
      have hko : k ∉ o := by
        intro h
        have := (List.nodup_append.1 hnd).2.2 k h k (by simp)
        exact this rfl
      have e : o ++ k :: r = (o ++ [k]) ++ r := by simp
      have h1 := ih (o ++ [k]) (srchTo (srch m n f) o S k) r (by simpa using hr) (by rw [← e]; exact hnd) (fun x hx => hlt x (by simp [hx]))
      have h2 : srchTo (srch m n f) o S (k + 1) = srch m n f (o ++ [k]) (srchTo (srch m n f) o S k) := by rw [srchTo, if_neg hko]
      have h3 := srchTo_le (srch_le m n f) o S (k + 1) (n - (k + 1))
      rw [show k + 1 + (n - (k + 1)) = n by omega, h2] at h3
      rw [e]
      unfold srch
      rcases h3 with h3 | h3
      · omega
      · omega

/-- what is best is an order of all, with as many as told -/
def GoodS (m : List Nat → Nat) (n : Nat) (S : SS) : Prop := S.2 < 0 ∨ (S.1.length = n ∧ S.1.Nodup ∧ (∀ x ∈ S.1, x < n) ∧ S.2 = m S.1)
theorem srchTo_good {m : List Nat → Nat} {n f : Nat} {o : List Nat} {S : SS} (ih : ∀ o S, o.length + f = n → o.Nodup → (∀ x ∈ o, x < n) → GoodS m n S → GoodS m n (srch m n f o S))
    (hl : o.length + (f + 1) = n) (hnd : o.Nodup) (hlt : ∀ x ∈ o, x < n) (hS : GoodS m n S) (k : Nat) (hk : k ≤ n) : GoodS m n (srchTo (srch m n f) o S k) := by
  induction k with
  | zero => exact hS
  | succ k ik =>
    rw [srchTo]
    by_cases hko : k ∈ o
    · rw [if_pos hko]; exact ik (by omega)
    · rw [if_neg hko]
      refine ih _ _ (by simp; omega) ?_ ?_ (ik (by omega))
      · rw [List.nodup_append]
        refine ⟨hnd, by simp, ?_⟩
        intro a ha b hb
        simp only [List.mem_singleton] at hb
        subst hb
        intro e
        subst e
        exact hko ha
      · intro x hx
        rcases List.mem_append.1 hx with h | h
        · exact hlt x h
        · simp at h; omega
theorem srch_good (m : List Nat → Nat) (n f : Nat) : ∀ o S, o.length + f = n → o.Nodup → (∀ x ∈ o, x < n) → GoodS m n S → GoodS m n (srch m n f o S) := by
  induction f with
  | zero =>
    intro o S hl hnd hlt hS
    unfold srch putS
    by_cases h : S.2 < 0 ∨ (m o : Int) < S.2
    · rw [if_pos h]; exact .inr ⟨by omega, hnd, hlt, rfl⟩
    · rw [if_neg h]; exact hS
  | succ f ih =>
    intro o S hl hnd hlt hS
    unfold srch
    exact srchTo_good ih hl hnd hlt hS n (Nat.le_refl _)

/-! ### orders of rods -/
def laidIn (l : List Int) (o : List Nat) : List Int := o.map fun k => l.getD k 0
/-- how many joins lie above earlier ones in this order -/
def meas (st : Int) (l : List Int) (be : Int) (o : List Nat) : Nat := (allAbv st (laidIn l o) be).length

theorem psum_append (l r : List Int) : ∀ k, k ≤ l.length → psum (l ++ r) k = psum l k := by
  intro k
  induction k with
  | zero => intro _; rfl
  | succ k ih =>
    intro hk
    unfold psum
    rw [ih (by omega)]
    congr 1
    simp [List.getD_eq_getElem?_getD, List.getElem?_append, show k < l.length by omega]
theorem placesTo_append (l r : List Int) {k : Nat} (hk : k ≤ l.length) : placesTo (l ++ r) k = placesTo l k := by
  unfold placesTo
  apply List.map_congr_left
  intro j hj
  have := List.mem_range.1 hj
  exact psum_append l r (j + 1) (by omega)
theorem places_snoc (l : List Int) (x : Int) : ∃ r, places (l ++ [x]) = places l ++ r := by
  unfold places
  rw [placesTo_append l [x] (by simp)]
  rw [show (l ++ [x]).length - 1 = l.length by simp]
  cases l with
  | nil => exact ⟨[], rfl⟩
  | cons a l =>
    refine ⟨[psum (a :: l) (a :: l).length], ?_⟩
    have := placesTo_step (a :: l) l.length
    simpa using this
theorem getD_app {P Q : List Int} {j : Nat} (h : j < P.length) : (P ++ Q).getD j 0 = P.getD j 0 := by
  simp [List.getD_eq_getElem?_getD, List.getElem?_append, h]
theorem abv_pre {P Q : List Int} {st be : Int} {k : Nat} (hk : k < P.length) : abv (P ++ Q) st be k = abv P st be k := by
  rw [Bool.eq_iff_iff]
  simp only [abv, abvTo, List.any_eq_true, List.mem_range]
  constructor
  · rintro ⟨q, hq, h⟩
    refine ⟨q, hq, ?_⟩
    rwa [getD_app hk, getD_app (by omega)] at h
  · rintro ⟨q, hq, h⟩
    refine ⟨q, hq, ?_⟩
    rwa [getD_app hk, getD_app (by omega)]
theorem abovesTo_app {P Q : List Int} {st be : Int} {j : Nat} (hj : j ≤ P.length) : abovesTo (P ++ Q) st be j = abovesTo P st be j := by
  unfold abovesTo
  apply List.filter_congr
  intro k hk
  have := List.mem_range.1 hk
  exact abv_pre (by omega)
theorem meas_mono (st : Int) (l : List Int) (be : Int) (o : List Nat) (k : Nat) : meas st l be o ≤ meas st l be (o ++ [k]) := by
  unfold meas allAbv
  rw [show laidIn l (o ++ [k]) = laidIn l o ++ [l.getD k 0] by simp [laidIn]]
  obtain ⟨r, hr⟩ := places_snoc (laidIn l o) (l.getD k 0)
  rw [hr]
  obtain ⟨q, hq⟩ := abovesTo_pre (places (laidIn l o) ++ r) st be (m := (places (laidIn l o)).length) (n := (places (laidIn l o) ++ r).length) (by simp)
  rw [hq, abovesTo_app (Nat.le_refl _)]
  simp
/-- the search from the start -/
def srchAll (st : Int) (l : List Int) (be : Int) : SS := srch (meas st l be) l.length l.length [] ([], -1)
theorem srchAll_ok (st : Int) (l : List Int) (be : Int) : 0 ≤ (srchAll st l be).2 ∧ ((srchAll st l be).1.length = l.length ∧ (srchAll st l be).1.Nodup ∧ (∀ x ∈ (srchAll st l be).1, x < l.length) ∧ (srchAll st l be).2 = meas st l be (srchAll st l be).1) := by
  have h1 := (srch_min (meas st l be) l.length l.length [] ([], -1) (List.range l.length) (by simp) (by simpa using List.nodup_range) (fun x hx => List.mem_range.1 hx)).1
  have h2 := srch_good (meas st l be) l.length l.length [] ([], -1) (by simp) (by simp) (by simp) (.inl (by decide))
  refine ⟨h1, ?_⟩
  rcases h2 with h2 | h2
  · unfold srchAll at *; omega
  · exact h2
theorem srchAll_min (st : Int) (l : List Int) (be : Int) (r : List Nat) (hl : r.length = l.length) (hnd : r.Nodup) (hlt : ∀ x ∈ r, x < l.length) : (srchAll st l be).2 ≤ meas st l be r :=
  (srch_min (meas st l be) l.length l.length [] ([], -1) r hl (by simpa using hnd) hlt).2
/-- rods in an order are rods -/
theorem laidIn_ok {l : List Int} (h : okRods l = true) {o : List Nat} (ho : o.length ≤ 7) (hlt : ∀ x ∈ o, x < l.length) : okRods (laidIn l o) = true := by
  refine okRods_iff.2 ⟨fun x hx => ?_, by simpa [laidIn] using ho⟩
  obtain ⟨k, hk, rfl⟩ := List.mem_map.1 hx
  exact okRods_at h (hlt k hk)
end Go.Proofs.Ytdbgicfbigjmmaa
