/-
  Twills, plainly: sums, validity, rows. No program in sight.
-/
import Derived.Test.YtggbnibdpkblgaaDoorWords
import Derived.Test.YtggbnibdpkblgaaDoorLists
namespace Go.Proofs.YtggbnibdpkblgaaDoor
open Go.RowKit
set_option linter.unusedVariables false

/-- the sum of the first k numbers -/
def lsum (l : List Int) : Nat → Int
  | 0 => 0
  | k + 1 => lsum l k + l.getD k 0
theorem lsum_bd {l : List Int} (h : eachIn l 1 12 = true) : ∀ k, k ≤ l.length → k ≤ lsum l k ∧ lsum l k ≤ 12 * k := by
  intro k
  induction k with
  | zero => intro _; simp [lsum]
  | succ k ih =>
    intro hk
    have := ih (by omega)
    have := eachIn_at h (k := k) (by omega)
    simp only [lsum]; omega
theorem lsum_mono {l : List Int} (h : eachIn l 1 12 = true) {k : Nat} : ∀ n, k ≤ n → n ≤ l.length → lsum l k ≤ lsum l n := by
  intro n
  induction n with
  | zero => intro h1 _; obtain rfl : k = 0 := by omega
            exact Int.le_refl _
  | succ n ih =>
    intro h1 h2
    by_cases e : k = n + 1
    · subst e; exact Int.le_refl _
    · have := ih (by omega) (by omega)
      have := eachIn_at h (k := n) (by omega)
      simp only [lsum]; omega
def widthT (xs : List Int) : Int := lsum xs xs.length
def vTwill (xs : List Int) (st : Int) : Bool := eachIn xs 1 12 && decide (2 ≤ xs.length) && decide (xs.length % 2 = 0) && decide (widthT xs ≤ 12) && inB st 1 (widthT xs - 1)
theorem vTwill_bad {xs : List Int} {st : Int} (h : eachIn xs 1 12 = false) : vTwill xs st = false := by simp [vTwill, h]
theorem vTwill_wide {xs : List Int} {st : Int} {k : Nat} (hk : k ≤ xs.length) (h : 12 < lsum xs k) : vTwill xs st = false := by
  cases he : eachIn xs 1 12
  · exact vTwill_bad he
  · have := lsum_mono he (k := k) xs.length hk (Nat.le_refl _)
    have h2 : ¬ widthT xs ≤ 12 := by unfold widthT; omega
    simp [vTwill, h2]
theorem vTwill_iff {xs : List Int} {st : Int} (h : vTwill xs st = true) : eachIn xs 1 12 = true ∧ 2 ≤ xs.length ∧ xs.length % 2 = 0 ∧ widthT xs ≤ 12 ∧ 1 ≤ st ∧ st ≤ widthT xs - 1 ∧ xs.length ≤ 12 := by
  simp only [vTwill, Bool.and_eq_true, decide_eq_true_eq] at h
  obtain ⟨⟨⟨⟨h1, h2⟩, h3⟩, h4⟩, h5⟩ := h
  have h6 := inB_iff.1 h5
  have h7 := lsum_bd h1 xs.length (Nat.le_refl _)
  have h8 : widthT xs = lsum xs xs.length := rfl
  exact ⟨h1, h2, h3, h4, h6.1, h6.2, by omega⟩

/-- the row: parts in front and behind in turn -/
def letter (i : Nat) : UInt8 := if i % 2 = 0 then 70 else 66
def rowTo (xs : List Int) : Nat → List UInt8
  | 0 => []
  | k + 1 => rowTo xs k ++ List.replicate (xs.getD k 0).toNat (letter k)
def rowW (xs : List Int) : List UInt8 := rowTo xs xs.length
theorem rowTo_len {xs : List Int} (h : eachIn xs 1 12 = true) : ∀ k, k ≤ xs.length → ((rowTo xs k).length : Int) = lsum xs k := by
  intro k
  induction k with
  | zero => intro _; simp [rowTo, lsum]
  | succ k ih =>
    intro hk
    have h1 := ih (by omega)
    have h2 := eachIn_at h (k := k) (by omega)
    simp only [rowTo, lsum, List.length_append, List.length_replicate]
    omega
theorem rowW_len {xs : List Int} (h : eachIn xs 1 12 = true) : ((rowW xs).length : Int) = widthT xs := rowTo_len h xs.length (Nat.le_refl _)
theorem rowTo_two (xs : List Int) (k : Nat) : two 70 66 (rowTo xs k) = true := by
  refine two_iff.2 fun c hc => ?_
  induction k with
  | zero => simp [rowTo] at hc
  | succ k ih =>
    simp only [rowTo, List.mem_append] at hc
    rcases hc with hc | hc
    · exact ih hc
    · have := (List.mem_replicate.1 hc).2
      rw [this]; unfold letter
      split
      · exact .inl rfl
      · exact .inr rfl
end Go.Proofs.YtggbnibdpkblgaaDoor
