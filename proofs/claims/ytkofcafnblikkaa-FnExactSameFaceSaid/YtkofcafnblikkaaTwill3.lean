/-
  Twills, on: floats, by walks.
-/
import Derived.Test.YtkofcafnblikkaaTwillRow2
import Derived.Test.YtkofcafnblikkaaNumPlain
namespace Go.Proofs.Ytkofcafnblikkaa
open Go.RowKit
set_option linter.unusedVariables false

abbrev rt3t (R : Int × Int × Int) : Ending := .returned (.tuple #[.int .i64 R.1, .int .i64 R.2.1, .int .i64 R.2.2])
/-- the greatest of the first k numbers -/
def upR (r : Nat → Nat) : Nat → Nat
  | 0 => 0
  | k + 1 => max (upR r k) (r k)
theorem upR_le {r : Nat → Nat} {B n : Nat} (h : ∀ k, k < n → r k ≤ B) : ∀ k, k ≤ n → upR r k ≤ B := by
  intro k
  induction k with
  | zero => intro _; simp [upR]
  | succ k ih => intro hk; have := ih (by omega); have := h k (by omega); simp only [upR]; omega
/-- so many rounds until a stake's way begins again -/
def againN (n : Nat) (st : Int) : Nat := ((n : Int) / gcdI n st).toNat
def stakeRun (l : List UInt8) (st : Int) (k : Nat) : Nat := longRun (alongL l k (l.length - st) (againN l.length st))
def floatsR (xs : List Int) (st : Int) : Int × Int × Int :=
  if vTwill xs st then ((longRun (rowW xs) : Nat), (upR (stakeRun (rowW xs) st) (rowW xs).length : Nat), 0) else (0, 0, 1)
theorem againN_spec {n : Nat} {st : Int} (hn : 1 ≤ n) (h0 : 1 ≤ st) : (n : Int).tdiv (gcdI n st) = (againN n st : Int) ∧ 1 ≤ againN n st ∧ againN n st ≤ n ∧ 1 ≤ gcdI n st ∧ gcdI n st ≤ st := by
  have hg := gcdI_pos (x := (n : Int)) (y := st) (by omega) (by omega)
  have hd := (gcdI_dvd (x := (n : Int)) (y := st) (by omega) (by omega)).1
  have h1 : 0 ≤ (n : Int) / gcdI n st := Int.ediv_nonneg (by omega) (by omega)
  have h2 : (n : Int) / gcdI n st ≤ n := Int.ediv_le_self _ (by omega)
  have h3 : (n : Int) / gcdI n st * gcdI n st = n := Int.ediv_mul_cancel hd
  have h4 : (n : Int) / gcdI n st ≠ 0 := by intro e; rw [e] at h3; omega
  refine ⟨?_, ?_, ?_, hg.1, hg.2⟩
  · rw [Int.tdiv_eq_ediv_of_nonneg (by omega), againN]; omega
  · rw [againN]; omega
  · rw [againN]; omega
theorem longRun_le (l : List UInt8) : longRun l ≤ l.length := by unfold longRun; omega
theorem alongIdx {n : Nat} {k st i : Int} : (k + i * ((n : Int) - st)) % n = (k - st * i) % n := by
  have : k + i * ((n : Int) - st) = (k - st * i) + n * i := by
    rw [Int.mul_sub, Int.mul_comm i n, Int.mul_comm i st]; omega
  rw [this, Int.add_mul_emod_self_left]

end Go.Proofs.Ytkofcafnblikkaa
