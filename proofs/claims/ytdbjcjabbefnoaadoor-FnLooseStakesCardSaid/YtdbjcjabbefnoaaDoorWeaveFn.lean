/-
  Weaves: plain facts for the law on loose stakes.
-/
import Derived.Test.YtdbjcjabbefnoaaDoorWeaveDraw
import Derived.Test.YtdbjcjabbefnoaaDoorA2
namespace Go.Proofs.YtdbjcjabbefnoaaDoor
open Go Go.RowKit
set_option linter.unusedVariables false

/-! ### rising lists -/
theorem pair_get {xs : List Int} (h : xs.Pairwise (· < ·)) {k : Nat} (hk : k + 1 < xs.length) : xs.getD k 0 < xs.getD (k + 1) 0 := by
  have := List.pairwise_iff_getElem.1 h k (k + 1) (by omega) hk (by omega)
  simpa [show k < xs.length by omega, hk] using this
theorem looseTo_mem (l : List UInt8) (st : Int) : ∀ m (x : Int), x ∈ looseTo l st m ↔ ∃ k : Nat, k < m ∧ x = (k : Int) ∧ looseK l st k = true
  | 0, x => by simp [looseTo]
  | m + 1, x => by
    have ih := looseTo_mem l st m x
    rw [looseTo]
    cases hb : looseK l st m
    · rw [if_neg (by simp), ih]
      constructor
      · rintro ⟨k, h1, h2, h3⟩; exact ⟨k, by omega, h2, h3⟩
      · rintro ⟨k, h1, h2, h3⟩
        by_cases e : k = m
        · subst e; rw [hb] at h3; cases h3
        · exact ⟨k, by omega, h2, h3⟩
    · rw [if_pos rfl, List.mem_append, ih]
      constructor
      · rintro (⟨k, h1, h2, h3⟩ | h)
        · exact ⟨k, by omega, h2, h3⟩
        · simp at h; exact ⟨m, by omega, h, hb⟩
      · rintro ⟨k, h1, h2, h3⟩
        by_cases e : k = m
        · right; simp [h2, e]
        · left; exact ⟨k, by omega, h2, h3⟩
theorem looseTo_pair (l : List UInt8) (st : Int) : ∀ m, (looseTo l st m).Pairwise (· < ·)
  | 0 => by simp [looseTo]
  | m + 1 => by
    rw [looseTo]
    split
    · refine List.pairwise_append.2 ⟨looseTo_pair l st m, by simp, fun x hx y hy => ?_⟩
      obtain ⟨k, h1, h2, _⟩ := (looseTo_mem l st m x).1 hx
      simp at hy; omega
    · exact looseTo_pair l st m
theorem soundTo_mem (l : List UInt8) (fl : Int) : ∀ m (x : Int), x ∈ soundTo l fl m ↔ ∃ k : Nat, k < m ∧ x = ((k + 3 : Nat) : Int) ∧ soundW l (k + 3) fl = true
  | 0, x => by simp [soundTo]
  | m + 1, x => by
    have ih := soundTo_mem l fl m x
    rw [soundTo]
    cases hb : soundW l (m + 3) fl
    · rw [if_neg (by simp), ih]
      constructor
      · rintro ⟨k, h1, h2, h3⟩; exact ⟨k, by omega, h2, h3⟩
      · rintro ⟨k, h1, h2, h3⟩
        by_cases e : k = m
        · subst e; rw [hb] at h3; cases h3
        · exact ⟨k, by omega, h2, h3⟩
    · rw [if_pos rfl, List.mem_append, ih]
      constructor
      · rintro (⟨k, h1, h2, h3⟩ | h)
        · exact ⟨k, by omega, h2, h3⟩
        · simp only [List.mem_singleton] at h; exact ⟨m, by omega, h, hb⟩
      · rintro ⟨k, h1, h2, h3⟩
        by_cases e : k = m
        · right; simp [h2, e]
        · left; exact ⟨k, by omega, h2, h3⟩
theorem soundTo_pair (l : List UInt8) (fl : Int) : ∀ m, (soundTo l fl m).Pairwise (· < ·)
  | 0 => by simp [soundTo]
  | m + 1 => by
    rw [soundTo]
    split
    · refine List.pairwise_append.2 ⟨soundTo_pair l fl m, by simp, fun x hx y hy => ?_⟩
      obtain ⟨k, h1, h2, _⟩ := (soundTo_mem l fl m x).1 hx
      simp only [List.mem_singleton] at hy; omega
    · exact soundTo_pair l fl m
theorem loose_has {l : List UInt8} {st : Int} {m k : Nat} (hk : k < m) : decide ((k : Int) ∈ looseTo l st m) = looseK l st k := by
  cases hb : looseK l st k
  · refine decide_eq_false fun h => ?_
    obtain ⟨q, h1, h2, h3⟩ := (looseTo_mem l st m k).1 h
    have : q = k := by omega
    subst this; rw [hb] at h3; cases h3
  · exact decide_eq_true ((looseTo_mem l st m k).2 ⟨k, hk, rfl, hb⟩)
theorem sound_has {l : List UInt8} {fl : Int} {m k : Nat} (hk : k < m) : decide (((k + 3 : Nat) : Int) ∈ soundTo l fl m) = soundW l (k + 3) fl := by
  cases hb : soundW l (k + 3) fl
  · refine decide_eq_false fun h => ?_
    obtain ⟨q, h1, h2, h3⟩ := (soundTo_mem l fl m _).1 h
    have : q = k := by omega
    subst this; rw [hb] at h3; cases h3
  · exact decide_eq_true ((soundTo_mem l fl m _).2 ⟨k, hk, rfl, hb⟩)
theorem loose_in {l : List UInt8} {st : Int} {m k : Nat} (hk : k < (looseTo l st m).length) : 0 ≤ (looseTo l st m).getD k 0 ∧ (looseTo l st m).getD k 0 < m := by
  have hm : (looseTo l st m).getD k 0 ∈ looseTo l st m := by simp [hk]
  obtain ⟨q, h1, h2, _⟩ := (looseTo_mem l st m _).1 hm
  omega
theorem sound_in {l : List UInt8} {fl : Int} {m k : Nat} (hk : k < (soundTo l fl m).length) : 3 ≤ (soundTo l fl m).getD k 0 ∧ (soundTo l fl m).getD k 0 ≤ m + 2 := by
  have hm : (soundTo l fl m).getD k 0 ∈ soundTo l fl m := by simp [hk]
  obtain ⟨q, h1, h2, _⟩ := (soundTo_mem l fl m _).1 hm
  omega

/-! ### one side in all rounds -/
/-- place of stake k in round r -/
def plW (l : List UInt8) (st : Int) (k r : Nat) : Nat := (((k : Int) + r * st) % l.length).toNat
def sameW (l : List UInt8) (st : Int) (k : Nat) : Nat → Bool
  | 0 => true
  | r + 1 => sameW l st k r && (bat l (plW l st k r) == bat l (k % l.length))
theorem plW_zero (l : List UInt8) (st : Int) (k : Nat) : plW l st k 0 = k % l.length := by
  unfold plW
  rw [show ((k : Int) + ((0 : Nat) : Int) * st) = (k : Int) by simp, ← Int.natCast_emod, Int.toNat_natCast]
theorem sameW_one (l : List UInt8) (st : Int) (k : Nat) : sameW l st k 1 = true := by
  rw [sameW, sameW, plW_zero]; simp
theorem sameW_iff (l : List UInt8) (st : Int) (k : Nat) : ∀ n, sameW l st k n = true ↔ ∀ r, r < n → bat l (plW l st k r) = bat l (k % l.length)
  | 0 => by simp [sameW]
  | n + 1 => by
    rw [sameW, Bool.and_eq_true, sameW_iff l st k n, beq_iff_eq]
    constructor
    · rintro ⟨h1, h2⟩ r hr
      by_cases e : r = n
      · rw [e]; exact h2
      · exact h1 r (by omega)
    · intro h
      exact ⟨fun r hr => h r (by omega), h n (by omega)⟩
theorem stackW_bat {l : List UInt8} {st : Int} {k r : Nat} (hr : r < agW l.length st) : bat (stackW l st k) r = bat l (plW l st k r) := by
  unfold stackW plW bat
  rw [alongL_get hr]
theorem plW_period {l : List UInt8} {st : Int} (hl : 1 ≤ l.length) (h0 : 1 ≤ st) (k r : Nat) : plW l st k r = plW l st k (r % agW l.length st) := by
  obtain ⟨q, hq⟩ := agW_mul (n := l.length) (st := st) hl h0
  unfold plW
  congr 1
  generalize agW l.length st = M at *
  have e : (r : Int) = (M : Int) * ((r / M : Nat) : Int) + ((r % M : Nat) : Int) := by
    have := Nat.div_add_mod r M
    exact_mod_cast this.symm
  have e2 : (k : Int) + (r : Int) * st = ((k : Int) + ((r % M : Nat) : Int) * st) + (l.length : Int) * (q * ((r / M : Nat) : Int)) := by
    have h3 : (r : Int) * st = ((M : Int) * st) * ((r / M : Nat) : Int) + ((r % M : Nat) : Int) * st := by
      conv => lhs; rw [e]
      rw [Int.add_mul, Int.mul_assoc, Int.mul_assoc, Int.mul_comm ((r / M : Nat) : Int) st]
    rw [h3, hq, Int.mul_assoc]
    omega
  rw [e2, Int.add_mul_emod_self_left]
theorem sameW_end {l : List UInt8} {st : Int} (h2 : two 70 66 l = true) (hl : 1 ≤ l.length) (h0 : 1 ≤ st) (k : Nat) : sameW l st k l.length = looseK l st k := by
  have hag := agW_spec (n := l.length) (st := st) hl h0
  have hlen : (stackW l st k).length = agW l.length st := by unfold stackW; rw [alongL_len]
  have htw : two 70 66 (stackW l st k) = true := two_along h2 hl _ _ _
  cases hb : looseK l st k
  · have hB : bothW (stackW l st k) = true := by unfold looseK at hb; simpa using hb
    rw [← Bool.not_eq_true]
    intro hs
    have hs := (sameW_iff l st k _).1 hs
    simp only [bothW, Bool.and_eq_true, decide_eq_true_eq] at hB
    obtain ⟨i, hi, e1⟩ := mem_bat hB.1
    obtain ⟨j, hj, e2⟩ := mem_bat hB.2
    rw [stackW_bat (by omega), hs i (by omega)] at e1
    rw [stackW_bat (by omega), hs j (by omega)] at e2
    exact absurd (e1.symm.trans e2) (by decide)
  · have hB : bothW (stackW l st k) = false := by unfold looseK at hb; simpa using hb
    refine (sameW_iff l st k _).2 fun r hr => ?_
    have hm : r % agW l.length st < agW l.length st := Nat.mod_lt _ (by omega)
    rw [plW_period hl h0 k r, ← plW_zero l st k, ← stackW_bat hm, ← stackW_bat (show 0 < agW l.length st by omega)]
    rcases two_at htw (k := r % agW l.length st) (by omega) with e1 | e1 <;> rcases two_at htw (k := 0) (by omega) with e2 | e2
    · rw [e1, e2]
    · have : bothW (stackW l st k) = true := by
        simp only [bothW, Bool.and_eq_true, decide_eq_true_eq]
        exact ⟨bat_eq (by omega) e1, bat_eq (by omega) e2⟩
      rw [hB] at this; cases this
    · have : bothW (stackW l st k) = true := by
        simp only [bothW, Bool.and_eq_true, decide_eq_true_eq]
        exact ⟨bat_eq (by omega) e2, bat_eq (by omega) e1⟩
      rw [hB] at this; cases this
    · rw [e1, e2]
end Go.Proofs.YtdbjcjabbefnoaaDoor
