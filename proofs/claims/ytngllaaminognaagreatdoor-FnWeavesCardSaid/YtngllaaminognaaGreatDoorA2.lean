/-
  Contracts of the laws' own small helpers: bytes that are too many, a number from bytes, rising lists, membership, equality.
-/
import Derived.Test.YtngllaaminognaaGreatDoorCore
namespace Go.Proofs.YtngllaaminognaaGreatDoor
open Go.RowKit
set_option linter.unusedVariables false

theorem a2Long_no (p q : Option Addr) (n m c d : Nat) (w : World) (hn : n ≤ 3000) (hm : m ≤ 3000) :
    Calls Tryz.prog 4 #[.slice p n c, .slice q m d] w fun e w' => e = .returned (.bool false) ∧ w = w' := by
  have h1 : decide (3000 < (n : Int)) = false := by simp; omega
  have h2 : decide (3000 < (m : Int)) = false := by simp; omega
  go_enter Tryz.func4, Tryz.ntmps4
  go_wp2
  go_ret
  exact ⟨rfl, rfl⟩
theorem a2Long_yes (p q : Option Addr) (n m c d : Nat) (w : World) (h : ¬ (n ≤ 3000 ∧ m ≤ 3000)) :
    Calls Tryz.prog 4 #[.slice p n c, .slice q m d] w fun e w' => e = .returned (.bool true) ∧ w = w' := by
  by_cases hn : n ≤ 3000
  · have h1 : decide (3000 < (n : Int)) = false := by simp; omega
    have h2 : decide (3000 < (m : Int)) = true := by simp; omega
    go_enter Tryz.func4, Tryz.ntmps4
    go_wp2
    go_ret
    exact ⟨rfl, rfl⟩
  · have h1 : decide (3000 < (n : Int)) = true := by simp; omega
    clear h
    go_enter Tryz.func4, Tryz.ntmps4
    go_wp2
    go_ret
    exact ⟨rfl, rfl⟩

theorem a2At_any (p : Option Addr) (n c : Nat) (xs : List Int) (at_ m : Int) (w : World) (h0 : 0 ≤ at_) (hm : 1 ≤ m) (hr : RV w p n c (xs.map (.int .u8))) (hb : ∀ x ∈ xs, 0 ≤ x ∧ x ≤ 255) :
    Calls Tryz.prog 6 #[.slice p n c, .int .i64 at_, .int .i64 m] w fun e w' => (∃ x : Int, e = .returned (.int .i64 x) ∧ 0 ≤ x ∧ x < m) ∧ w = w' := by
  obtain ⟨k, rfl⟩ := Int.eq_ofNat_of_zero_le h0
  have hl := hr.lenI
  have h3 : decide (m < 1) = false := by simp; omega
  by_cases hlt : k < n
  · have h2 : decide ((n : Int) ≤ k) = false := by simp; omega
    have h2' : decide (n ≤ k) = false := by simp; omega
    obtain ⟨b, o, rfl, hbl, hc⟩ := hr.cellk (by omega)
    have hx := hc k hlt
    have hxb := hb (xs.getD k 0) (by simp [show k < xs.length by omega])
    generalize xs.getD k 0 = x at *
    have q1 := Int.emod_nonneg x (show m ≠ 0 by omega)
    have q2 := Int.emod_lt_of_pos x (show 0 < m by omega)
    have q3 : x.tmod m = x % m := Int.tmod_eq_emod_of_nonneg (by omega)
    have hz : m ≠ 0 := by omega
    clear hc hb hr hl
    go_enter Tryz.func6, Tryz.ntmps6
    go_wp2
    go_ret
    exact ⟨⟨_, rfl, q1, q2⟩, rfl⟩
  · have h2 : decide ((n : Int) ≤ k) = true := by simp; omega
    have h2' : decide (n ≤ k) = true := by simp; omega
    clear hb hr hl
    go_enter Tryz.func6, Tryz.ntmps6
    go_wp2
    go_ret
    exact ⟨⟨0, rfl, by omega, by omega⟩, rfl⟩



end Go.Proofs.YtngllaaminognaaGreatDoor
