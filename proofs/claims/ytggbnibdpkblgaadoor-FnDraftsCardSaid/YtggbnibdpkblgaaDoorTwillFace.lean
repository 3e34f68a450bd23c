/-
  Twills: one face, plainly: a row's period, its turns, and what is held in the row twice.
-/
import Derived.Test.YtggbnibdpkblgaaDoorTwillPlain2
import Derived.Lib.IndexMore
namespace Go.Proofs.YtggbnibdpkblgaaDoor
open Go.RowKit
set_option linter.unusedVariables false

theorem perFrom_ok (l : List UInt8) (h : 0 < l.length) : ∀ f p, p + f = l.length → perOk l (perFrom l f p) = true
  | 0, p, hp => by rw [perFrom, show p = l.length by omega]; exact perOk_all l h
  | f + 1, p, hp => by
    rw [perFrom]
    split
    · assumption
    · exact perFrom_ok l h f (p + 1) (by omega)
theorem period_ok {l : List UInt8} (h : 1 ≤ l.length) : perOk l (period l) = true := perFrom_ok l (by omega) _ _ (by omega)
theorem repeatL_get (t : List UInt8) (ht : 0 < t.length) : ∀ m j, j < m * t.length → (Lib.repeatL t m)[j]? = t[j % t.length]?
  | 0, j, h => by simp at h
  | m + 1, j, h => by
    show (t ++ Lib.repeatL t m)[j]? = _
    by_cases hj : j < t.length
    · rw [List.getElem?_append_left hj, Nat.mod_eq_of_lt hj]
    · rw [List.getElem?_append_right (by omega), repeatL_get t ht m (j - t.length) (by rw [Nat.succ_mul] at h; omega), ← Nat.mod_eq_sub_mod (by omega)]
/-- turn i of the first p bytes of x is the beginning of y -/
def rotE (x y : List UInt8) (p i : Nat) : Bool := (x.drop i).take (p - i) ++ x.take i == y.take p
def rotTo (x y : List UInt8) (p : Nat) : Nat → Bool
  | 0 => false
  | k + 1 => rotTo x y p k || rotE x y p k
theorem rotTo_iff (x y : List UInt8) (p : Nat) : ∀ k, rotTo x y p k = true ↔ ∃ i, i < k ∧ rotE x y p i = true
  | 0 => by simp [rotTo]
  | k + 1 => by
    rw [rotTo, Bool.or_eq_true, rotTo_iff x y p k]
    constructor
    · rintro (⟨i, h1, h2⟩ | h)
      · exact ⟨i, by omega, h2⟩
      · exact ⟨k, by omega, h⟩
    · rintro ⟨i, h1, h2⟩
      by_cases e : i = k
      · right; rw [← e]; exact h2
      · left; exact ⟨i, by omega, h2⟩
theorem twice_get {x : List UInt8} {p : Nat} (h0 : 1 ≤ p) (hp : p ≤ x.length) (hper : perOk x p = true) {j : Nat} (hj : j < (x ++ x).length) : (x ++ x)[j]? = x[j % p]? := by
  obtain ⟨h1, h2⟩ := perOk_iff.1 hper
  have hlt : (x.take p).length = p := by simp; omega
  have hm : x.length = x.length / p * p := by have := Nat.div_add_mod x.length p; rw [Nat.mul_comm]; omega
  have e : x ++ x = Lib.repeatL (x.take p) (x.length / p + x.length / p) := by rw [Lib.repeatL_add, h2]
  have hr : j % p < p := Nat.mod_lt _ (by omega)
  rw [e, repeatL_get _ (by omega) _ _ (by rw [hlt, Nat.add_mul, ← hm]; simpa using hj), hlt, List.getElem?_take_of_lt hr]
theorem twice_rot {x : List UInt8} {p j : Nat} (h0 : 1 ≤ p) (hp : p ≤ x.length) (hper : perOk x p = true) (hj : j + p ≤ (x ++ x).length) : ((x ++ x).drop j).take p = (x.drop (j % p)).take (p - j % p) ++ x.take (j % p) := by
  have hr : j % p < p := Nat.mod_lt _ (by omega)
  obtain ⟨i, hi⟩ : ∃ i, j % p = i := ⟨_, rfl⟩
  rw [hi] at hr ⊢
  apply List.ext_getElem?
  intro t
  have hl : ((x.drop i).take (p - i)).length = p - i := by simp; omega
  by_cases ht : t < p
  · rw [List.getElem?_take_of_lt ht, List.getElem?_drop, twice_get h0 hp hper (by omega)]
    have hmod : (j + t) % p = if i + t < p then i + t else i + t - p := by
      rw [Nat.add_mod, hi, Nat.mod_eq_of_lt ht]
      split
      · rename_i h; exact Nat.mod_eq_of_lt h
      · rename_i h; rw [Nat.mod_eq_sub_mod (by omega), Nat.mod_eq_of_lt (by omega)]
    rw [hmod]
    by_cases hti : i + t < p
    · rw [if_pos hti, List.getElem?_append_left (by rw [hl]; omega), List.getElem?_take_of_lt (by omega), List.getElem?_drop]
    · rw [if_neg hti, List.getElem?_append_right (by rw [hl]; omega), hl, List.getElem?_take_of_lt (by omega)]
      congr 1; omega
  · rw [List.getElem?_eq_none (by simp; omega), List.getElem?_eq_none (by simp; omega)]
theorem index_some {s sub : List UInt8} : ∀ j, j ≤ s.length → Lib.occAt s sub j = true → 0 ≤ Lib.index s sub := by
  intro j
  induction j using Nat.strongRecOn with
  | _ j ih =>
    intro hj ho
    by_cases hex : ∃ i, i < j ∧ Lib.occAt s sub i = true
    · obtain ⟨i, h1, h2⟩ := hex
      exact ih i h1 (by omega) h2
    · rw [Lib.index_first hj ho fun i hi => by
        cases h : Lib.occAt s sub i
        · rfl
        · exact absurd ⟨i, hi, h⟩ hex]
      omega
/-- what the program asks is what the reference asks -/
theorem contains_rot {x y : List UInt8} {p : Nat} (h0 : 1 ≤ p) (hp : p ≤ x.length) (hy : p ≤ y.length) (hper : perOk x p = true) : Lib.contains (x ++ x) (y.take p) = rotTo x y p p := by
  have hyl : (y.take p).length = p := by simp; omega
  rw [Bool.eq_iff_iff, rotTo_iff]
  unfold Lib.contains
  rw [decide_eq_true_eq]
  constructor
  · intro h
    rcases Classical.em (∃ j, j ≤ (x ++ x).length ∧ Lib.occAt (x ++ x) (y.take p) j = true) with ⟨j, hj, ho⟩ | hno
    · rcases Lib.occAt_room ho with hr | hr
      · rw [hyl] at hr
        rw [Lib.occAt_iff_take _ _ _ (by rw [hyl]; exact hr), hyl, twice_rot h0 hp hper hr] at ho
        exact ⟨j % p, Nat.mod_lt _ (by omega), ho⟩
      · rw [hr] at hyl; simp at hyl; omega
    · rw [Lib.index_none fun j hj => by
        cases h2 : Lib.occAt (x ++ x) (y.take p) j
        · rfl
        · exact absurd ⟨j, hj, h2⟩ hno] at h
      omega
  · rintro ⟨i, hi, h⟩
    have hr : i + p ≤ (x ++ x).length := by simp; omega
    refine index_some i (by omega) ?_
    rw [Lib.occAt_iff_take _ _ _ (by rw [hyl]; exact hr), hyl, twice_rot h0 hp hper hr, Nat.mod_eq_of_lt hi]
    exact h
def faceEq (x y : List UInt8) (st st' : Int) : Bool := decide (period x = period y) && decide (st % (period x : Int) = st' % (period x : Int)) && rotTo x y (period x) (period x)
end Go.Proofs.YtggbnibdpkblgaaDoor
