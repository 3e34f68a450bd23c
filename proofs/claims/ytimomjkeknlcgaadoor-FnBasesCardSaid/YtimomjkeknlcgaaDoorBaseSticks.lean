/-
  Gaps between the ends of sticks, plainly: they widen from round to round, and the first open round is the first with gaps as wide as told.
-/
import Derived.Test.YtimomjkeknlcgaaDoorBase4
namespace Go.Proofs.YtimomjkeknlcgaaDoor
open Go.RowKit
set_option linter.unusedVariables false

theorem gap_open {r e l : Int} (hr : 0 ≤ r) (he : 0 < e) : l * 7 * e ≤ 44 * r ↔ l * lowD (44 * r) (7 * e) ≤ lowN (44 * r) (7 * e) := by
  obtain ⟨h1, h2⟩ := low_mul (a := 44 * r) (b := 7 * e) (by omega) (by omega)
  have hg := (gcdI_pos (x := 44 * r) (y := 7 * e) (by omega) (by omega)).1
  generalize lowN (44 * r) (7 * e) = N at *
  generalize lowD (44 * r) (7 * e) = D at *
  generalize gcdI (44 * r) (7 * e) = G at *
  rw [show l * 7 * e = l * D * G by rw [Int.mul_assoc l 7, ← h2, Int.mul_assoc], ← h1]
  exact ⟨fun h => Int.le_of_mul_le_mul_right h (by omega), fun h => Int.mul_le_mul_of_nonneg_right h (by omega)⟩
theorem gap_bd {r e : Int} (hr : 1 ≤ r) (hr' : r ≤ 1000) (he : 4 ≤ e) (he' : e ≤ 48) : 1 ≤ lowD (44 * r) (7 * e) ∧ lowD (44 * r) (7 * e) ≤ 336 ∧ 0 ≤ lowN (44 * r) (7 * e) ∧ lowN (44 * r) (7 * e) ≤ 44000 := by
  have h1 := lowD_bd (a := 44 * r) (b := 7 * e) (by omega) (by omega)
  have h2 := lowN_bd (a := 44 * r) (b := 7 * e) (by omega) (by omega)
  omega
theorem gap_rise {r s e : Int} (hr : 0 ≤ r) (hrs : r < s) (he : 0 < e) : lowN (44 * r) (7 * e) * lowD (44 * s) (7 * e) < lowN (44 * s) (7 * e) * lowD (44 * r) (7 * e) := by
  have c1 := low_cross (a := 44 * r) (b := 7 * e) (by omega) (by omega)
  have c2 := low_cross (a := 44 * s) (b := 7 * e) (by omega) (by omega)
  have d1 := (lowD_bd (a := 44 * r) (b := 7 * e) (by omega) (by omega)).1
  have d2 := (lowD_bd (a := 44 * s) (b := 7 * e) (by omega) (by omega)).1
  generalize lowN (44 * r) (7 * e) = n1 at *
  generalize lowD (44 * r) (7 * e) = D1 at *
  generalize lowN (44 * s) (7 * e) = n2 at *
  generalize lowD (44 * s) (7 * e) = D2 at *
  have hp : 0 < D1 * D2 := Int.mul_pos (by omega) (by omega)
  have h : 44 * r * (D1 * D2) < 44 * s * (D1 * D2) := Int.mul_lt_mul_of_pos_right (by omega) hp
  have e1 : n1 * D2 * (7 * e) = 44 * r * (D1 * D2) := by
    rw [Int.mul_right_comm, c1, Int.mul_assoc]
  have e2 : n2 * D1 * (7 * e) = 44 * s * (D1 * D2) := by
    rw [Int.mul_right_comm, c2, Int.mul_assoc, Int.mul_comm D2]
  rw [← e1, ← e2] at h
  exact Int.lt_of_mul_lt_mul_right h (by omega)

theorem ringsF_rise {r k : Int} (hk : 1 ≤ k) : ∀ f i j, j + 1 < (ringsF r k f i).length → (ringsF r k f i).getD j 0 < (ringsF r k f i).getD (j + 1) 0 := by
  intro f
  induction f with
  | zero => intro i j h; simp [ringsF] at h
  | succ f ih =>
    intro i j h
    simp only [ringsF] at h ⊢
    by_cases hc : i + k ≤ r
    · rw [if_pos hc] at h ⊢
      simp only [List.length_cons] at h
      cases j with
      | succ j => simpa using ih (i + k) j (by omega)
      | zero =>
        cases f with
        | zero => simp [ringsF] at h
        | succ f =>
          simp only [ringsF] at h ⊢
          by_cases hc2 : i + k + k ≤ r
          · rw [if_pos hc2]
            simp
            omega
          · rw [if_neg hc2] at h; simp at h
    · rw [if_neg hc] at h; simp at h
theorem rings_rise {t s r k : Int} (h : vBase t s r k = true) {j : Nat} (hj : j + 1 < (rings t s r k).length) : (rings t s r k).getD j 0 < (rings t s r k).getD (j + 1) 0 :=
  ringsF_rise (vBase_iff.1 h).2.2.2.1 _ _ _ hj
theorem openAt_some (l : List Int) (d : Int) : ∀ i, 0 ≤ openAt l d i → ∃ k : Nat, openAt l d i = ((i + k : Nat) : Int) ∧ k < l.length ∧ d ≤ 44 * l.getD k 0 ∧ ∀ j, j < k → ¬ d ≤ 44 * l.getD j 0 := by
  induction l with
  | nil => intro i h; simp [openAt] at h
  | cons x l ih =>
    intro i h
    simp only [openAt] at h ⊢
    by_cases hx : d ≤ 44 * x
    · rw [if_pos hx]
      exact ⟨0, rfl, by simp, by simpa using hx, fun j hj => by omega⟩
    · rw [if_neg hx] at h ⊢
      obtain ⟨k, h1, h2, h3, h4⟩ := ih (i + 1) h
      refine ⟨k + 1, by rw [h1]; omega, by simp; omega, by simpa using h3, fun j hj => ?_⟩
      cases j with
      | zero => simpa using hx
      | succ j => simpa using h4 j (by omega)
theorem gapsR_ok {t s r k i : Int} (h : (gapsR t s r k i).2.2 = 0) : vBase t s r k = true ∧ ∃ j : Nat, i = j ∧ j < (rings t s r k).length ∧ gapsR t s r k i = (lowN (44 * (rings t s r k).getD j 0) (7 * ends t s), lowD (44 * (rings t s r k).getD j 0) (7 * ends t s), 0) := by
  unfold gapsR at *
  cases hv : vBase t s r k
  · rw [hv] at h; simp at h
  · rw [hv] at h
    simp only [if_true] at h ⊢
    cases ha : inB i 0 ((rings t s r k).length - 1)
    · rw [ha] at h; simp at h
    · obtain ⟨h0, h1⟩ := inB_iff.1 ha
      obtain ⟨j, rfl⟩ := Int.eq_ofNat_of_zero_le h0
      exact ⟨by simp, j, by simp, by omega, by simp⟩
theorem gapsR_at {t s r k : Int} (hv : vBase t s r k = true) {j : Nat} (hj : j < (rings t s r k).length) : gapsR t s r k j = (lowN (44 * (rings t s r k).getD j 0) (7 * ends t s), lowD (44 * (rings t s r k).getD j 0) (7 * ends t s), 0) := by
  unfold gapsR
  rw [if_pos hv, if_pos (inB_iff.2 ⟨by omega, by omega⟩)]
  simp
theorem ends_bd {t s r k : Int} (hv : vBase t s r k = true) : 4 ≤ ends t s ∧ ends t s ≤ 48 := by
  obtain ⟨⟨h1, h2⟩, ⟨h3, h4⟩, _⟩ := vBase_iff.1 hv
  unfold ends; omega
theorem firstOpenR_ok {t s r k l : Int} (h : (firstOpenR t s r k l).2 = 0) : vBase t s r k = true ∧ (1 ≤ l ∧ l ≤ 1000) ∧ ∃ j : Nat, (firstOpenR t s r k l).1 = j ∧ j < (rings t s r k).length ∧ l * 7 * ends t s ≤ 44 * (rings t s r k).getD j 0 ∧ ∀ i, i < j → ¬ l * 7 * ends t s ≤ 44 * (rings t s r k).getD i 0 := by
  unfold firstOpenR at *
  cases hv : vBase t s r k
  · rw [hv] at h; simp at h
  · rw [hv] at h
    simp only [if_true] at h ⊢
    cases ha : inB l 1 1000
    · rw [ha] at h; simp at h
    · rw [ha] at h
      simp only [if_true] at h ⊢
      by_cases hn : openAt (rings t s r k) (l * 7 * ends t s) 0 < 0
      · rw [if_pos hn] at h; simp at h
      · rw [if_neg hn] at h ⊢
        obtain ⟨j, h1, h2, h3, h4⟩ := openAt_some (rings t s r k) (l * 7 * ends t s) 0 (by omega)
        exact ⟨by simp, inB_iff.1 ha, j, by simpa using h1, h2, h3, h4⟩
end Go.Proofs.YtimomjkeknlcgaaDoor
