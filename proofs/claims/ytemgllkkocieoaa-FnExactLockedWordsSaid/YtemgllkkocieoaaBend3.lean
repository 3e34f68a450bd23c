/-
  Bends: locked borders and rods for borders, by walks.
-/
import Derived.Test.YtemgllkkocieoaaBend2
namespace Go.Proofs.Ytemgllkkocieoaa
open Go.RowKit
set_option linter.unusedVariables false

theorem codeS_ok {l : List UInt8} {st : Int} (h : codeS l st = 0) : vB l = true ∧ ((l.length : Int) + 2 ≤ st ∧ st ≤ 40) := by
  rw [← codeB_zero] at h
  have := codeB_ok h
  exact ⟨this.1, this.2.1⟩

/-! ### a word with a letter b -/
theorem idx_pos {l : List UInt8} {c : UInt8} (h : c ∈ l) : 0 ≤ Lib.indexByte l c := by
  induction l with
  | nil => simp at h
  | cons b l ih =>
    unfold Lib.indexByte
    have hg := Lib.indexByte_ge l c
    by_cases hb : b = c
    · simp [hb]
    · have h2 : c ∈ l := by
        rcases List.mem_cons.1 h with e | e
        · exact absurd e.symm hb
        · exact e
      have h3 := ih h2
      have hb2 : (b == c) = false := by simp [hb]
      have h4 : (Lib.indexByte l c == -1) = false := by simp; omega
      rw [hb2, h4]
      simp; omega
theorem idx_neg {l : List UInt8} {c : UInt8} (h : c ∉ l) : ¬ 0 ≤ Lib.indexByte l c := by
  induction l with
  | nil => simp [Lib.indexByte]
  | cons b l ih =>
    unfold Lib.indexByte
    have hb : ¬ b = c := fun e => h (by simp [e])
    have h3 := ih (fun e => h (by simp [e]))
    have hg := Lib.indexByte_ge l c
    have hb2 : (b == c) = false := by simp [hb]
    have h4 : (Lib.indexByte l c == -1) = true := by simp; omega
    rw [hb2, h4]
    simp
theorem idx_behind (l : List UInt8) : decide (0 ≤ Lib.indexByte l 98) = decide (0 < (behindW l : Int)) := by
  by_cases h : (98 : UInt8) ∈ l
  · have h2 := List.count_pos_iff.2 h
    have h3 := idx_pos h
    have h4 : 0 < (behindW l : Int) := by unfold behindW; omega
    rw [decide_eq_true h3, decide_eq_true h4]
  · have h2 := List.count_eq_zero.2 h
    have h3 := idx_neg h
    have h4 : ¬ 0 < (behindW l : Int) := by unfold behindW; omega
    rw [decide_eq_false h3, decide_eq_false h4]
def lockR (l : List UInt8) (st : Int) : Bool × Int := if codeS l st = 0 then (decide (0 < (behindW l : Int)), 0) else (false, codeS l st)



/-! ### rods for a border -/
theorem over_up (a b : Int) (ha : 0 ≤ a) (hb : 0 < b) : (a + b - 1) / b = if a % b > 0 then a / b + 1 else a / b := by
  have h1 := Int.emod_nonneg a (show b ≠ 0 by omega)
  have h2 := Int.emod_lt_of_pos a hb
  have h3 : b * (a / b) + a % b = a := Int.mul_ediv_add_emod a b
  obtain ⟨q, hq⟩ : ∃ q, a / b = q := ⟨_, rfl⟩
  obtain ⟨r, hr⟩ : ∃ r, a % b = r := ⟨_, rfl⟩
  rw [hq, hr] at h3 ⊢
  rw [hr] at h1 h2
  have e1 : a + b - 1 = (r + b - 1) + b * q := by omega
  rw [e1, Int.add_mul_ediv_left _ _ (show b ≠ 0 by omega)]
  by_cases h : r > 0
  · rw [if_pos h]
    have e2 : r + b - 1 = (r - 1) + b * 1 := by omega
    rw [e2, Int.add_mul_ediv_left _ _ (show b ≠ 0 by omega), Int.ediv_eq_zero_of_lt (by omega) (by omega)]
    omega
  · rw [if_neg h]
    rw [Int.ediv_eq_zero_of_lt (by omega) (by omega)]
    omega

def rodP (l : List UInt8) : Int := 10 * ((l.length : Int) + 1) + behindW l
def rodR (l : List UInt8) (ar st : Int) : Int × Int :=
  if codeS l st = 0 then if inB ar 100 5000 then ((ar * rodP l + 10 * st - 1) / (10 * st), 0) else (0, 2) else (0, codeS l st)
theorem rodP_bd {l : List UInt8} (h : l.length ≤ 8) : 10 ≤ rodP l ∧ rodP l ≤ 98 := by
  have := behindW_le l
  unfold rodP; omega
theorem prod_bd {a p : Int} (ha : 100 ≤ a ∧ a ≤ 5000) (hp : 10 ≤ p ∧ p ≤ 98) : 0 ≤ a * p ∧ a * p ≤ 490000 := by
  have h1 : a * p ≤ 5000 * p := Int.mul_le_mul_of_nonneg_right ha.2 (by omega)
  have h2 : 0 ≤ a * p := Int.mul_nonneg (by omega) (by omega)
  omega


end Go.Proofs.Ytemgllkkocieoaa
