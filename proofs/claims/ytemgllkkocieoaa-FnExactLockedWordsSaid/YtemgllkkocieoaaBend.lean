/-
  Bends: valid words and their codes, by walks.
-/
import Derived.Test.YtemgllkkocieoaaCore
import Derived.Test.YtemgllkkocieoaaStrs
import Derived.Test.YtemgllkkocieoaaShelf
import Derived.Deep.RegionHeld3
import Derived.Lib.OthersKept
import Derived.Shelf.Strings.SlTrimAscii
namespace Go.Proofs.Ytemgllkkocieoaa
open Go.RowKit
set_option linter.unusedVariables false

abbrev rt2 (R : Int × Int) : Ending := .returned (.tuple #[.int .i64 R.1, .int .i64 R.2])
abbrev rtb (R : Bool × Int) : Ending := .returned (.tuple #[.bool R.1, .int .i64 R.2])

def vB (l : List UInt8) : Bool := decide (1 ≤ l.length) && decide (l.length ≤ 8) && two 98 102 l
theorem vB_iff {l : List UInt8} : vB l = true ↔ 1 ≤ l.length ∧ l.length ≤ 8 ∧ two 98 102 l = true := by
  simp [vB, and_assoc]
def codeB (l : List UInt8) (st k : Int) : Int := if vB l then if inB st ((l.length : Int) + 2) 40 && inB k 0 (st - 1) then 0 else 2 else 7
theorem codeB_ok {l : List UInt8} {st k : Int} (h : codeB l st k = 0) : vB l = true ∧ ((l.length : Int) + 2 ≤ st ∧ st ≤ 40) ∧ (0 ≤ k ∧ k < st) := by
  unfold codeB at h
  split at h
  · next hv =>
    split at h
    · next h2 =>
      rw [Bool.and_eq_true] at h2
      have h3 := inB_iff.1 h2.1
      have h4 := inB_iff.1 h2.2
      exact ⟨hv, h3, by omega⟩
    · omega
  · omega

/-! ### words that are valid -/
theorem take_snocB {α : Type} {l : List α} {d : α} {k : Nat} (hk : k < l.length) : l.take (k + 1) = l.take k ++ [l.getD k d] := by
  rw [List.take_add_one]
  simp [hk]
theorem two_step {a b : UInt8} {l : List UInt8} {k : Nat} (h : two a b (l.take k) = true) (hk : k < l.length) (hc : l.getD k 0 = a ∨ l.getD k 0 = b) : two a b (l.take (k + 1)) = true := by
  rw [take_snocB (d := 0) hk]
  refine two_iff.2 fun c hx => ?_
  rcases List.mem_append.1 hx with hx | hx
  · exact two_iff.1 h c hx
  · simp at hx; subst hx; exact hc
theorem two_bad {a b : UInt8} {l : List UInt8} {k : Nat} (hk : k < l.length) (h1 : l.getD k 0 ≠ a) (h2 : l.getD k 0 ≠ b) : two a b l = false := by
  rw [← Bool.not_eq_true]
  intro h
  rcases two_iff.1 h _ (bat_mem hk) with e | e
  · exact h1 e
  · exact h2 e



end Go.Proofs.Ytemgllkkocieoaa
