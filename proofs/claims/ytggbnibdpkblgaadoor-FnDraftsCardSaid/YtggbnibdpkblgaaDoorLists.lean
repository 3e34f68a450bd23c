/-
  Contracts of the small functions over lists of numbers: all within bounds, numbers of stakes, distances, sums.
-/
import Derived.Test.YtggbnibdpkblgaaDoorCore
import Derived.Lib.MinMax
namespace Go.Proofs.YtggbnibdpkblgaaDoor
open Go.RowKit
set_option linter.unusedVariables false

def eachIn (l : List Int) (lo hi : Int) : Bool := l.all fun x => inB x lo hi
theorem eachIn_iff {l : List Int} {lo hi : Int} : eachIn l lo hi = true ↔ ∀ x ∈ l, lo ≤ x ∧ x ≤ hi := by simp [eachIn, inB_iff]
theorem eachIn_at {l : List Int} {lo hi : Int} (h : eachIn l lo hi = true) {k : Nat} (hk : k < l.length) : lo ≤ l.getD k 0 ∧ l.getD k 0 ≤ hi := by
  refine eachIn_iff.1 h _ ?_
  simp [hk]
theorem eachIn_bad {l : List Int} {lo hi : Int} {k : Nat} (hk : k < l.length) (h : inB (l.getD k 0) lo hi = false) : eachIn l lo hi = false := by
  rw [← Bool.not_eq_true]
  intro h2
  have := eachIn_at h2 hk
  rw [← inB_iff, h] at this
  exact absurd this (by simp)
theorem take_snoc' {α : Type} {l : List α} {k : Nat} {d : α} (h : k < l.length) : l.take (k + 1) = l.take k ++ [l.getD k d] := by
  rw [List.take_succ_eq_append_getElem h]; simp [h]
theorem eachIn_take {l : List Int} {lo hi : Int} {k : Nat} (h : eachIn (l.take k) lo hi = true) (hk : k < l.length) (hx : inB (l.getD k 0) lo hi = true) : eachIn (l.take (k + 1)) lo hi = true := by
  rw [take_snoc' (d := 0) hk]
  unfold eachIn at *
  rw [List.all_append, h]
  simp only [List.all_cons, List.all_nil, hx]; rfl
theorem eachIn_all {l : List Int} {lo hi : Int} {k : Nat} (h : eachIn (l.take k) lo hi = true) (hk : l.length ≤ k) : eachIn l lo hi = true := by
  rwa [List.take_of_length_le hk] at h

def areSt (n : Int) : Bool := inB n 3 60




end Go.Proofs.YtggbnibdpkblgaaDoor
