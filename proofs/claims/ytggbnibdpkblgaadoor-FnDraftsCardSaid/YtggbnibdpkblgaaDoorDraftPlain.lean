/-
  Drafts, plainly: a row turned to where it begins with F and ends with B; its runs. No program in sight.
-/
import Derived.Test.YtggbnibdpkblgaaDoorStrs
namespace Go.Proofs.YtggbnibdpkblgaaDoor
open Go.RowKit
set_option linter.unusedVariables false

theorem take_snocD {α : Type} {l : List α} {d : α} {k : Nat} (hk : k < l.length) : l.take (k + 1) = l.take k ++ [l.getD k d] := by
  rw [List.take_add_one]
  simp [hk]
/-- a stroke -/
def vS (l : List UInt8) : Bool := decide (1 ≤ l.length) && decide (l.length ≤ 12) && two 70 66 l
theorem vS_iff {l : List UInt8} : vS l = true ↔ 1 ≤ l.length ∧ l.length ≤ 12 ∧ two 70 66 l = true := by
  simp [vS, and_assoc]

/-- place i is the first of a front whose place before is a back -/
def goodT (l : List UInt8) (i : Nat) : Bool := bat l i == 70 && bat l ((i + l.length - 1) % l.length) == 66
/-- the first such place from i on -/
def goodFrom (l : List UInt8) : Nat → Nat → Option Nat
  | 0, _ => none
  | f + 1, i => if goodT l i then some i else goodFrom l f (i + 1)
def goodI (l : List UInt8) : Option Nat := goodFrom l l.length 0
theorem goodFrom_some {l : List UInt8} : ∀ {f i j : Nat}, goodFrom l f i = some j → i ≤ j ∧ j < i + f ∧ goodT l j = true ∧ ∀ k, i ≤ k → k < j → goodT l k = false := by
  intro f
  induction f with
  | zero => intro i j h; simp [goodFrom] at h
  | succ f ih =>
    intro i j h
    unfold goodFrom at h
    cases hg : goodT l i
    · rw [hg] at h
      simp only [Bool.false_eq_true, if_false] at h
      have h2 := ih h
      refine ⟨by omega, by omega, h2.2.2.1, fun k hk hkj => ?_⟩
      rcases Nat.eq_or_lt_of_le hk with e | e
      · rw [← e]; exact hg
      · exact h2.2.2.2 k e hkj
    · rw [hg] at h
      simp only [if_true, Option.some.injEq] at h
      subst h
      exact ⟨Nat.le_refl _, by omega, hg, fun k h1 h2 => by omega⟩
theorem goodFrom_none {l : List UInt8} : ∀ {f i : Nat}, goodFrom l f i = none → ∀ k, i ≤ k → k < i + f → goodT l k = false := by
  intro f
  induction f with
  | zero => intro i h k h1 h2; omega
  | succ f ih =>
    intro i h k h1 h2
    unfold goodFrom at h
    cases hg : goodT l i
    · rw [hg] at h
      simp only [Bool.false_eq_true, if_false] at h
      rcases Nat.eq_or_lt_of_le h1 with e | e
      · rw [← e]; exact hg
      · exact ih h k e (by omega)
    · rw [hg] at h; simp at h
theorem bat_of_mem {l : List UInt8} {c : UInt8} (h : c ∈ l) : ∃ j, j < l.length ∧ bat l j = c.toNat := by
  obtain ⟨j, hj, e⟩ := List.getElem_of_mem h
  exact ⟨j, hj, by unfold bat; simp [hj, e]⟩
theorem mem_of_bat {l : List UInt8} {c : UInt8} {j : Nat} (hj : j < l.length) (h : bat l j = c.toNat) : c ∈ l := by
  have : l.getD j 0 = c := UInt8.toNat_inj.1 h
  rw [← this]
  exact bat_mem hj
/-- both letters: there is such a place -/
theorem good_both {l : List UInt8} (h2 : two 70 66 l = true) (hF : (70 : UInt8) ∈ l) (hB : (66 : UInt8) ∈ l) : ∃ i, goodI l = some i := by
  cases h : goodI l with
  | some i => exact ⟨i, rfl⟩
  | none =>
    exfalso
    have hn := goodFrom_none h
    obtain ⟨j, hj, ej⟩ := bat_of_mem hF
    obtain ⟨q, hq, eq⟩ := bat_of_mem hB
    have ej : bat l j = 70 := ej
    have eq : bat l q = 66 := eq
    have step : ∀ i, i < l.length → bat l i = 70 → bat l ((i + l.length - 1) % l.length) = 70 := by
      intro i hi e
      have h3 := hn i (Nat.zero_le _) (by omega)
      unfold goodT at h3
      rw [e] at h3
      have h5 : (i + l.length - 1) % l.length < l.length := Nat.mod_lt _ (by omega)
      rcases two_at h2 h5 with h4 | h4
      · exact h4
      · rw [h4] at h3; simp at h3
    have down : ∀ m i, i < l.length → bat l i = 70 → m ≤ i → bat l (i - m) = 70 := by
      intro m
      induction m with
      | zero => intro i hi e _; simpa using e
      | succ m ih =>
        intro i hi e hm
        have h3 := ih i hi e (by omega)
        have h4 := step (i - m) (by omega) h3
        have h5 : (i - m + l.length - 1) % l.length = i - (m + 1) := by
          rw [show i - m + l.length - 1 = (i - (m + 1)) + l.length by omega, Nat.add_mod_right, Nat.mod_eq_of_lt (by omega)]
        rw [h5] at h4; exact h4
    have h0 : bat l 0 = 70 := by have := down j j hj ej (Nat.le_refl _); simpa using this
    have hl : bat l (l.length - 1) = 70 := by
      have := step 0 (by omega) h0
      rw [show (0 + l.length - 1) % l.length = l.length - 1 from by rw [Nat.zero_add]; exact Nat.mod_eq_of_lt (by omega)] at this
      exact this
    have hq2 := down (l.length - 1 - q) (l.length - 1) (by omega) hl (by omega)
    rw [show l.length - 1 - (l.length - 1 - q) = q by omega, eq] at hq2
    omega
theorem good_both' {l : List UInt8} {i : Nat} (hn : 0 < l.length) (h : goodI l = some i) : (70 : UInt8) ∈ l ∧ (66 : UInt8) ∈ l := by
  have h2 := goodFrom_some h
  have h3 := h2.2.2.1
  unfold goodT at h3
  simp only [Bool.and_eq_true, beq_iff_eq] at h3
  exact ⟨mem_of_bat (by omega) h3.1, mem_of_bat (Nat.mod_lt _ hn) h3.2⟩

/-! ### turned by one -/
theorem turnW_succ {l : List UInt8} {i : Nat} (h : i < l.length) : turnW l (i + 1) = turnW (turnW l i) 1 := by
  unfold turnW
  rw [take_snocD (d := 0) h]
  have e : l.drop i = l.getD i 0 :: l.drop (i + 1) := by
    rw [List.drop_eq_getElem_cons h]; simp [h]
  rw [e]
  simp
theorem turnW_bat {l : List UInt8} {i k : Nat} (hi : i < l.length) (hk : k < l.length) : bat (turnW l i) k = bat l ((i + k) % l.length) := by
  unfold bat turnW
  congr 1
  simp only [List.getD_eq_getElem?_getD]
  congr 1
  by_cases h : i + k < l.length
  · rw [List.getElem?_append_left (by simp; omega), List.getElem?_drop, Nat.mod_eq_of_lt h]
  · rw [List.getElem?_append_right (by simp; omega)]
    rw [show (i + k) % l.length = i + k - l.length by rw [Nat.mod_eq_sub_mod (by omega), Nat.mod_eq_of_lt (by omega)]]
    rw [List.getElem?_take]
    simp only [List.length_drop]
    rw [if_pos (by omega)]
    congr 1
    omega
/-- the row turned -/
def turnT (l : List UInt8) : List UInt8 := match goodI l with
  | some i => turnW l i
  | none => []

/-! ### runs -/
def incLast (xs : List Int) : List Int := xs.set (xs.length - 1) (xs.getD (xs.length - 1) 0 + 1)
def partsTo (l : List UInt8) : Nat → List Int
  | 0 => []
  | k + 1 => if decide (k = 0) || decide (bat l k ≠ bat l (k - 1)) then partsTo l k ++ [1] else incLast (partsTo l k)
theorem incLast_len (xs : List Int) : (incLast xs).length = xs.length := by simp [incLast]
theorem incLast_zero (xs : List Int) : incLast (xs ++ [0]) = xs ++ [1] := by
  simp [incLast, List.set_append_right]
theorem partsTo_len (l : List UInt8) (k : Nat) : (partsTo l k).length ≤ k := by
  induction k with
  | zero => simp [partsTo]
  | succ k ih => unfold partsTo; split <;> simp [incLast_len] <;> omega
theorem partsTo_pos (l : List UInt8) (k : Nat) : 1 ≤ (partsTo l (k + 1)).length := by
  induction k with
  | zero => simp [partsTo]
  | succ k ih =>
    rw [partsTo]
    split
    · simp
    · rw [incLast_len]; exact ih
theorem partsTo_bd (l : List UInt8) (k : Nat) : ∀ x ∈ partsTo l k, 0 ≤ x ∧ x ≤ k := by
  induction k with
  | zero => intro x hx; simp [partsTo] at hx
  | succ k ih =>
    intro x hx
    unfold partsTo at hx
    split at hx
    · rcases List.mem_append.1 hx with hx | hx
      · have := ih x hx; omega
      · simp at hx; omega
    · unfold incLast at hx
      rcases List.mem_or_eq_of_mem_set hx with hx | hx
      · have := ih x hx; omega
      · by_cases h : (partsTo l k).length = 0
        · have e : partsTo l k = [] := List.eq_nil_of_length_eq_zero h
          rw [e] at hx; simp at hx; omega
        · have h2 := ih ((partsTo l k).getD ((partsTo l k).length - 1) 0) (by simp [show (partsTo l k).length - 1 < (partsTo l k).length by omega])
          omega
/-- the runs of a row -/
def partsW (l : List UInt8) : List Int := partsTo l l.length
end Go.Proofs.YtggbnibdpkblgaaDoor
