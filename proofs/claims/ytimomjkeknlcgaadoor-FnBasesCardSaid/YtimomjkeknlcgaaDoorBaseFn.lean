/-
  Bases: plain facts for the law on bases.
-/
import Derived.Test.YtimomjkeknlcgaaDoorBaseSticks
import Derived.Test.YtimomjkeknlcgaaDoorBase5
namespace Go.Proofs.YtimomjkeknlcgaaDoor
open Go.RowKit
set_option linter.unusedVariables false

theorem below_of_drewN {w w2 : World} {q : Nat} (h : w2 = w.drewN q) : Below w.heap.size w w2 := h ▸ bdrewN (Below.refl _ _) q
theorem sticksF_ok (st : Int) : ∀ (f : Nat) (y : Int), 0 < y → sticksF st f y ≠ 0 → y ≤ sticksF st f y ∧ sticksF st f y < y + f ∧ 0 ≤ 4 * sticksF st f y - st ∧ 4 * sticksF st f y - st ≤ 4
  | 0, y, _, h => (h rfl).elim
  | f + 1, y, hy, h => by
    unfold sticksF at h ⊢
    split at h
    · rename_i hin
      rw [if_pos hin]
      obtain ⟨h1, h2⟩ := inB_iff.1 hin
      exact ⟨by omega, by omega, h1, h2⟩
    · rename_i hin
      rw [if_neg hin]
      obtain ⟨h1, h2, h3, h4⟩ := sticksF_ok st f (y + 1) (by omega) h
      exact ⟨by omega, by omega, h3, h4⟩

theorem baseForR_ok {st x y f : Int} (h : baseForR st = (x, y, f, 0)) : (1 ≤ x ∧ x ≤ 12) ∧ (1 ≤ y ∧ y ≤ 12) ∧ y ≤ x ∧ x ≤ y + 1 ∧ stakesFromR x y 100 2 2 f = (st, 0) := by
  unfold baseForR at h
  split at h
  · rename_i hst
    obtain ⟨hs1, hs2⟩ := inB_iff.1 hst
    simp only at h
    split at h
    · simp at h
    · rename_i hne
      obtain ⟨h1, h2, h3, h4⟩ := sticksF_ok st 23 2 (by omega) hne
      generalize sticksF st 23 2 = z at *
      simp only [Prod.mk.injEq] at h
      obtain ⟨rfl, rfl, rfl, _⟩ := h
      have hv : vBase ((z + 1) / 2) (z / 2) 100 2 = true := vBase_iff.2 ⟨by omega, by omega, by omega, by omega⟩
      refine ⟨by omega, by omega, by omega, by omega, ?_⟩
      unfold stakesFromR
      rw [if_pos hv, if_pos (by rw [Bool.and_eq_true, inB_iff, inB_iff]; omega)]
      unfold ends
      rw [if_neg (by omega)]
      congr 1
      omega
  · simp at h

theorem stakesFromR_ok {t s r k a f m : Int} (h : stakesFromR t s r k a f = (m, 0)) : 3 ≤ m := by
  unfold stakesFromR at h
  split at h
  · split at h
    · split at h
      · simp at h
      · simp only [Prod.mk.injEq] at h; omega
    · simp at h
  · simp at h

theorem lengthR_at {t s r k : Int} (hv : vBase t s r k = true) {j : Nat} (hj : j < (rings t s r k).length) : lengthR t s r k j = (ringLen ((rings t s r k).getD j 0), 0) := by
  unfold lengthR
  rw [if_pos hv, if_pos (by rw [inB_iff]; omega)]
  simp

theorem rings_in {t s r k : Int} (h : vBase t s r k = true) {i : Nat} (hi : i < (rings t s r k).length) : (rings t s r k).getD i 0 ≤ r := by
  obtain ⟨⟨h1, h2⟩, ⟨h3, h4⟩, ⟨h5, h6⟩, ⟨h7, h8⟩⟩ := vBase_iff.1 h
  have hb : 1 * 1 ≤ k * max t s := Int.mul_le_mul h7 (by omega) (by omega) (by omega)
  exact (ringsF_bd h7 h8 60 (k * max t s) (by omega) _ (show (rings t s r k).getD i 0 ∈ rings t s r k by simp [hi])).2

theorem ringsR_ok {t s r k : Int} {l : List Int} (h : ringsR t s r k = (l, 0)) : vBase t s r k = true ∧ l = rings t s r k := by
  unfold ringsR at h
  split at h
  · rename_i hv; exact ⟨hv, (Prod.mk.inj h).1.symm⟩
  · simp at h
theorem weaverR_at {t s r k : Int} (hv : vBase t s r k = true) : weaverR t s r k = (sumLen (rings t s r k), 0) := by unfold weaverR; rw [if_pos hv]
end Go.Proofs.YtimomjkeknlcgaaDoor
