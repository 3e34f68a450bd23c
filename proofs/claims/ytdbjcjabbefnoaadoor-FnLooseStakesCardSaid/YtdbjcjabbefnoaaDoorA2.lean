/-
  Contracts of the laws' own small helpers: bytes that are too many, a number from bytes, rising lists, membership, equality.
-/
import Derived.Test.YtdbjcjabbefnoaaDoorCore
namespace Go.Proofs.YtdbjcjabbefnoaaDoor
open Go.RowKit
set_option linter.unusedVariables false

theorem a2Long_no (p q : Option Addr) (n m c d : Nat) (w : World) (hn : n ≤ 3000) (hm : m ≤ 3000) :
    Calls Tryd.prog 5 #[.slice p n c, .slice q m d] w fun e w' => e = .returned (.bool false) ∧ w = w' := by
  have h1 : decide (3000 < (n : Int)) = false := by simp; omega
  have h2 : decide (3000 < (m : Int)) = false := by simp; omega
  go_enter Tryd.func5, Tryd.ntmps5
  go_wp2
  go_ret
  exact ⟨rfl, rfl⟩
theorem a2Long_yes (p q : Option Addr) (n m c d : Nat) (w : World) (h : ¬ (n ≤ 3000 ∧ m ≤ 3000)) :
    Calls Tryd.prog 5 #[.slice p n c, .slice q m d] w fun e w' => e = .returned (.bool true) ∧ w = w' := by
  by_cases hn : n ≤ 3000
  · have h1 : decide (3000 < (n : Int)) = false := by simp; omega
    have h2 : decide (3000 < (m : Int)) = true := by simp; omega
    go_enter Tryd.func5, Tryd.ntmps5
    go_wp2
    go_ret
    exact ⟨rfl, rfl⟩
  · have h1 : decide (3000 < (n : Int)) = true := by simp; omega
    clear h
    go_enter Tryd.func5, Tryd.ntmps5
    go_wp2
    go_ret
    exact ⟨rfl, rfl⟩

theorem a2At_any (p : Option Addr) (n c : Nat) (xs : List Int) (at_ m : Int) (w : World) (h0 : 0 ≤ at_) (hm : 1 ≤ m) (hr : RV w p n c (xs.map (.int .u8))) (hb : ∀ x ∈ xs, 0 ≤ x ∧ x ≤ 255) :
    Calls Tryd.prog 7 #[.slice p n c, .int .i64 at_, .int .i64 m] w fun e w' => (∃ x : Int, e = .returned (.int .i64 x) ∧ 0 ≤ x ∧ x < m) ∧ w = w' := by
  obtain ⟨k, rfl⟩ := Int.eq_ofNat_of_zero_le h0
  have hl := hr.lenI
  have h3 : decide (m < 1) = false := by simp; omega
  by_cases hlt : k < n
  · have h2 : decide ((n : Int) ≤ k) = false := by simp; omega
    have h2' : decide (n ≤ k) = false := by simp; omega
    obtain ⟨b, o, rfl, hbl, hc⟩ := hr.cellk (by omega)
    have hx := hc k hlt
    have hxb := hb (xs.getD k 0) (by simp [show k < xs.length by omega])
    generalize xs.getD k 0 = x at *
    have q1 := Int.emod_nonneg x (show m ≠ 0 by omega)
    have q2 := Int.emod_lt_of_pos x (show 0 < m by omega)
    have q3 : x.tmod m = x % m := Int.tmod_eq_emod_of_nonneg (by omega)
    have hz : m ≠ 0 := by omega
    clear hc hb hr hl
    go_enter Tryd.func7, Tryd.ntmps7
    go_wp2
    go_ret
    exact ⟨⟨_, rfl, q1, q2⟩, rfl⟩
  · have h2 : decide ((n : Int) ≤ k) = true := by simp; omega
    have h2' : decide (n ≤ k) = true := by simp; omega
    clear hb hr hl
    go_enter Tryd.func7, Tryd.ntmps7
    go_wp2
    go_ret
    exact ⟨⟨0, rfl, by omega, by omega⟩, rfl⟩

theorem a2Has_any (a : Option Addr) (n c : Nat) (xs : List Int) (v : Int) (w : World) (ha : RV w a n c (ints xs)) :
    Calls Tryd.prog 12 #[.slice a n c, .int .i64 v] w fun e w' => e = .returned (.bool (decide (v ∈ xs))) ∧ w = w' := by
  have hl := ha.lenI
  have hm := ha.small
  have Hl := Lib.hid hl
  have Ha := Lib.hid ha
  clear hl ha
  go_enter Tryd.func12, Tryd.ntmps12
  go_wp2
  go_loop [5] (fun i => ∃ k : Nat, k ≤ n ∧ i = .int .i64 k ∧ Hid (v ∉ xs.take k)) (fun i => n - (intOf i).toNat)
  case atStart => exact ⟨0, Nat.zero_le _, rfl, Lib.hid (by simp)⟩
  case round =>
    obtain ⟨k, hk, rfl, hR⟩ := hrel
    by_cases hlt : k < n
    · obtain ⟨b, o, x, rfl, hb, hx, Hx⟩ := Ha.out.at hlt
      have hkl : k < xs.length := by have := Hl.out; omega
      have Hkl := Lib.hid hkl
      clear hkl
      by_cases hin : x = v
      · have hmem : v ∈ xs := by
          have h1 := Hkl.out; have h2 := Hx.out
          rw [← hin, h2]; simp [h1]
        have hd : (x == v) = true := by simp [hin]
        have Hm := Lib.hid hmem
        clear hmem hin
        go_wp2
        go_ret
        exact ⟨ret_bool (by simp [Hm.out]), rfl⟩
      · have hd : (x == v) = false := by simp [hin]
        have Hin := Lib.hid hin
        clear hin
        go_wp2
        go_round
        case rel => exact ⟨k + 1, by omega, by go_num, Lib.hid (by
          have h1 := Hkl.out; have h2 := Hx.out; have h3 := hR.out; have h4 := Hin.out
          have e : xs.take (k + 1) = xs.take k ++ [xs.getD k 0] := by
            rw [List.take_succ_eq_append_getElem h1]; simp [h1]
          rw [e, ← h2]
          simp only [List.mem_append, List.mem_singleton, not_or]
          exact ⟨h3, fun h => h4 h.symm⟩)⟩
        case measure => simp [intOf]; omega
    · go_wp2
      go_ret
      have h3 := hR.out
      rw [List.take_of_length_le (by have := Hl.out; omega)] at h3
      exact ⟨ret_bool (by simp [h3]), rfl⟩

set_option maxHeartbeats 1000000 in
theorem a2Rises_yes (a : Option Addr) (n c : Nat) (xs : List Int) (m : Int) (w : World) (ha : RV w a n c (ints xs)) (h0 : ∀ k, k < n → 0 ≤ xs.getD k 0 ∧ xs.getD k 0 < m) (h1 : ∀ k, k + 1 < n → xs.getD k 0 < xs.getD (k + 1) 0) :
    Calls Tryd.prog 11 #[.slice a n c, .int .i64 m] w fun e w' => e = .returned (.bool true) ∧ ∃ q, w' = w.drewN q := by
  have hm := ha.small
  have Ha := Lib.hid ha
  have H0 := Lib.hid h0
  have H1 := Lib.hid h1
  clear ha h0 h1
  go_enter Tryd.func11, Tryd.ntmps11
  go_wp2
  go_loopw [5] (fun i wr => ∃ k : Nat, k ≤ n ∧ i = .int .i64 k ∧ ∃ q, Hid (wr = w.drewN q)) (fun i _ => n - (intOf i).toNat)
  case atStart => exact ⟨0, Nat.zero_le _, rfl, 0, Lib.hid rfl⟩
  case round =>
    obtain ⟨k, hk, rfl, q, Hw⟩ := hrel
    by_cases hlt : k < n
    · have Ha' : RV wr a n c (ints xs) := by rw [Hw.out]; exact Ha.out.drewN q
      obtain ⟨b, o, rfl, hb, hc⟩ := Ha'.cell (by omega)
      clear Ha'
      have e1 := hc k hlt
      have b1 := H0.out k hlt
      by_cases hz : k = 0
      · subst hz
        replace e1 : wr.cell? ⟨b, o, none⟩ = some (.int .i64 (xs.getD 0 0)) := e1
        have hn0 : 0 < (n : Int) := by omega
        clear hc
        generalize xs.getD 0 0 = u at *
        have d1 : decide (u < 0) = false := by simp; omega
        have d2 : decide (m ≤ u) = false := by simp; omega
        go_wp2
        go_quiet (fail)
        go_wp2
        go_roundw
        case rel => exact ⟨1, by omega, by go_num, q + nq, Lib.hid (by rw [Hw.out, World.drewN_drewN])⟩
        case measure => simp [intOf]; omega
      · obtain ⟨j, hj⟩ : ∃ j, k = j + 1 := ⟨k - 1, by omega⟩
        have e2 := hc j (by omega)
        have h12 := H1.out j (by omega)
        rw [show xs.getD (j + 1) 0 = xs.getD k 0 by rw [hj]] at h12
        clear hc
        generalize xs.getD k 0 = u at *
        generalize xs.getD j 0 = v at *
        have d1 : decide (u < 0) = false := by simp; omega
        have d2 : decide (m ≤ u) = false := by simp; omega
        have d3 : decide (0 < (k : Int)) = true := by simp; omega
        have d3' : decide (0 < k) = true := by simp; omega
        have d4 : decide (u ≤ v) = false := by simp; omega
        have hlt' : (k : Int) < n := by omega
        have hlj : (j : Int) < n := by omega
        have hw1 : IntKind.i64.wrap ((k : Int) - 1) = (j : Int) := by rw [IntWalk.i64_in _ (by omega)]; omega
        have hw0 := IntWalk.i64_in (j : Int) (by omega)
        clear hj hz
        go_wp2
        go_quiet (fail)
        go_wp2
        go_roundw
        case rel => exact ⟨k + 1, by omega, by go_num, q + nq, Lib.hid (by rw [Hw.out, World.drewN_drewN])⟩
        case measure => simp [intOf]; omega
    · go_wp2
      go_ret
      exact ⟨rfl, q, Hw.out⟩

end Go.Proofs.YtdbjcjabbefnoaaDoor
