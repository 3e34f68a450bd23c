/-
  Contracts of the small functions over lists of numbers: all within bounds, numbers of stakes, distances, sums.
-/
import Derived.Test.YtkglcfeopicakaaCore
import Derived.Lib.MinMax
namespace Go.Proofs.Ytkglcfeopicakaa
open Go.RowKit
set_option linter.unusedVariables false

def eachIn (l : List Int) (lo hi : Int) : Bool := l.all fun x => inB x lo hi
theorem eachIn_iff {l : List Int} {lo hi : Int} : eachIn l lo hi = true ↔ ∀ x ∈ l, lo ≤ x ∧ x ≤ hi := by simp [eachIn, inB_iff]
theorem eachIn_at {l : List Int} {lo hi : Int} (h : eachIn l lo hi = true) {k : Nat} (hk : k < l.length) : lo ≤ l.getD k 0 ∧ l.getD k 0 ≤ hi := by
  refine eachIn_iff.1 h _ ?_
  simp [hk]
theorem eachIn_bad {l : List Int} {lo hi : Int} {k : Nat} (hk : k < l.length) (h : inB (l.getD k 0) lo hi = false) : eachIn l lo hi = false := by
  rw [← Bool.not_eq_true]
  intro h2
  have := eachIn_at h2 hk
  rw [← inB_iff, h] at this
  exact absurd this (by simp)
theorem take_snoc' {α : Type} {l : List α} {k : Nat} {d : α} (h : k < l.length) : l.take (k + 1) = l.take k ++ [l.getD k d] := by
  rw [List.take_succ_eq_append_getElem h]; simp [h]
theorem eachIn_take {l : List Int} {lo hi : Int} {k : Nat} (h : eachIn (l.take k) lo hi = true) (hk : k < l.length) (hx : inB (l.getD k 0) lo hi = true) : eachIn (l.take (k + 1)) lo hi = true := by
  rw [take_snoc' (d := 0) hk]
  unfold eachIn at *
  rw [List.all_append, h]
  simp only [List.all_cons, List.all_nil, hx]; rfl
theorem eachIn_all {l : List Int} {lo hi : Int} {k : Nat} (h : eachIn (l.take k) lo hi = true) (hk : l.length ≤ k) : eachIn l lo hi = true := by
  rwa [List.take_of_length_le hk] at h

def areSt (n : Int) : Bool := inB n 3 60

theorem areStakes_any (n : Int) (w : World) : Calls Try.prog 35 #[.int .i64 n] w fun e w' => e = .returned (.bool (areSt n)) ∧ w = w' := by
  go_enter Try.func35, Try.ntmps35
  go_wp2_with (go_at_call 32; refine (within_any _ _ _ _).mono ?_; rintro e w' ⟨rfl, rfl⟩)
  go_ret
  exact ⟨rfl, rfl⟩

theorem l06Stakes_any (n : Int) (w : World) : Calls Try.prog 41 #[.int .i64 n] w fun e w' => e = .returned (.bool (areSt n)) ∧ w = w' := by
  go_enter Try.func41, Try.ntmps41
  go_wp2_with (go_at_call 51; refine (l00In_any _ _ _ _).mono ?_; rintro e w' ⟨rfl, rfl⟩)
  go_ret
  exact ⟨rfl, rfl⟩

theorem distance_any (a b : Int) (w : World) (h : -4611686018427387904 ≤ a - b) (h' : a - b ≤ 4611686018427387904) : Calls Try.prog 29 #[.int .i64 a, .int .i64 b] w fun e w' => e = .returned (.int .i64 (max (a - b) (b - a))) ∧ w = w' := by
  have h1 := IntWalk.i64_in (a - b) (by omega)
  have h2 := IntWalk.i64_in (b - a) (by omega)
  go_enter Try.func29, Try.ntmps29
  go_wp2
  go_ret
  exact ⟨rfl, rfl⟩

theorem eachWithin_any (a : Option Addr) (n c : Nat) (m lo hi : Int) (xs : List Int) (w : World) (ha : RV w a n c (ints xs)) :
    Calls Try.prog 37 #[.slice a n c, .int .i64 m, .int .i64 lo, .int .i64 hi] w fun e w' => e = .returned (.bool (eachIn xs lo hi && decide ((n : Int) = m))) ∧ w = w' := by
  have hl := ha.lenI
  have hm := ha.small
  have Hl := Lib.hid hl
  have Ha := Lib.hid ha
  clear hl ha
  go_enter Try.func37, Try.ntmps37
  go_wp2
  go_loop [13] (fun i => ∃ k : Nat, k ≤ n ∧ i = .int .i64 k ∧ Hid (eachIn (xs.take k) lo hi = true)) (fun i => n - (intOf i).toNat)
  case atStart => exact ⟨0, Nat.zero_le _, rfl, Lib.hid (by simp [eachIn])⟩
  case round =>
    obtain ⟨k, hk, rfl, hR⟩ := hrel
    by_cases hlt : k < n
    · obtain ⟨b, o, x, rfl, hb, hx, Hx⟩ := Ha.out.at hlt
      have hkl : k < xs.length := by have := Hl.out; omega
      have Hkl := Lib.hid hkl
      clear hkl
      cases hin : inB x lo hi
      · go_wp2_with (go_at_call 32; refine (within_any _ _ _ _).mono ?_; rintro e w' ⟨rfl, rfl⟩)
        go_ret
        exact ⟨ret_bool (by rw [eachIn_bad Hkl.out (by rw [← Hx.out]; exact hin)]; simp), rfl⟩
      · go_wp2_with (go_at_call 32; refine (within_any _ _ _ _).mono ?_; rintro e w' ⟨rfl, rfl⟩)
        go_round
        case rel => exact ⟨k + 1, by omega, by go_num, Lib.hid (eachIn_take hR.out Hkl.out (by rw [← Hx.out]; exact hin))⟩
        case measure => simp [intOf]; omega
    · go_wp2
      go_ret
      exact ⟨ret_bool (by rw [eachIn_all hR.out (by have := Hl.out; omega), Bool.true_and]; rfl), rfl⟩
end Go.Proofs.Ytkglcfeopicakaa
