/-
  Shapes: validity, ranges, changes: walks.
-/
import Derived.Test.YtkglcfeopicakaaShapePlain
import Derived.Test.YtkglcfeopicakaaNumPlain
namespace Go.Proofs.Ytkglcfeopicakaa
open Go.RowKit
set_option linter.unusedVariables false

abbrev rt2 (R : Int × Int) : Ending := .returned (.tuple #[.int .i64 R.1, .int .i64 R.2])
abbrev rt3 (R : Int × Int × Int) : Ending := .returned (.tuple #[.int .i64 R.1, .int .i64 R.2.1, .int .i64 R.2.2])

theorem validShape_any (a : Option Addr) (n c : Nat) (xs : List Int) (w : World) (ha : RV w a n c (ints xs)) :
    Calls Try.prog 34 #[.slice a n c] w fun e w' => e = .returned (.bool (vShape xs)) ∧ w = w' := by
  have hl := ha.lenI
  have hm := ha.small
  have hv : vShape xs = (eachIn xs 1 5000 && inB (n : Int) 1 12) := by rw [vShape, hl]
  have Hv := Lib.hid hv
  have Ha := Lib.hid ha
  clear hv hl ha
  by_cases h1 : 1 ≤ n
  · by_cases h2 : n ≤ 12
    · go_enter Try.func34, Try.ntmps34
      go_wp2_with (go_at_call 37; refine (eachWithin_any _ _ _ _ _ _ _ _ Ha.out).mono ?_; rintro e w' ⟨rfl, rfl⟩)
      go_ret
      refine ⟨ret_bool ?_, rfl⟩
      rw [Hv.out]
      have : inB (n : Int) 1 12 = true := inB_iff.2 (by omega)
      simp [this]
    · have : inB (n : Int) 1 12 = false := inB_not.2 (by omega)
      have h3 : decide ((n : Int) ≤ 12) = false := by simp; omega
      go_enter Try.func34, Try.ntmps34
      go_wp2
      go_ret
      exact ⟨ret_bool (by rw [Hv.out, this]; simp), rfl⟩
  · have : inB (n : Int) 1 12 = false := inB_not.2 (by omega)
    have h3 : decide (1 ≤ (n : Int)) = false := by simp; omega
    go_enter Try.func34, Try.ntmps34
    go_wp2
    go_ret
    exact ⟨ret_bool (by rw [Hv.out, this]; simp), rfl⟩

theorem l08Ok_any (a : Option Addr) (n c : Nat) (xs : List Int) (w : World) (ha : RV w a n c (ints xs)) :
    Calls Try.prog 52 #[.slice a n c] w fun e w' => e = .returned (.bool (vShape xs)) ∧ w = w' := by
  have hl := ha.lenI
  have hm := ha.small
  have Hl := Lib.hid hl
  have hv : vShape xs = (eachIn xs 1 5000 && inB (n : Int) 1 12) := by rw [vShape, hl]
  have Hv := Lib.hid hv
  have Ha := Lib.hid ha
  clear hv hl ha
  go_enter Try.func52, Try.ntmps52
  go_wp2
  go_loop [3] (fun i => ∃ k : Nat, k ≤ n ∧ i = .int .i64 k ∧ Hid (eachIn (xs.take k) 1 5000 = true)) (fun i => n - (intOf i).toNat)
  case atStart => exact ⟨0, Nat.zero_le _, rfl, Lib.hid (by simp [eachIn])⟩
  case round =>
    obtain ⟨k, hk, rfl, hR⟩ := hrel
    by_cases hlt : k < n
    · obtain ⟨b, o, x, rfl, hb, hx, Hx⟩ := Ha.out.at hlt
      have hkl : k < xs.length := by have := Hl.out; omega
      have Hkl := Lib.hid hkl
      clear hkl
      cases hin : inB x 1 5000
      · go_wp2_with (go_at_call 51; refine (l00In_any _ _ _ _).mono ?_; rintro e w' ⟨rfl, rfl⟩)
        go_ret
        exact ⟨ret_bool (by rw [Hv.out, eachIn_bad Hkl.out (by rw [← Hx.out]; exact hin)]; simp), rfl⟩
      · go_wp2_with (go_at_call 51; refine (l00In_any _ _ _ _).mono ?_; rintro e w' ⟨rfl, rfl⟩)
        go_round
        case rel => exact ⟨k + 1, by omega, by go_num, Lib.hid (eachIn_take hR.out Hkl.out (by rw [← Hx.out]; exact hin))⟩
        case measure => simp [intOf]; omega
    · go_wp2_with (go_at_call 51; refine (l00In_any _ _ _ _).mono ?_; rintro e w' ⟨rfl, rfl⟩)
      go_ret
      exact ⟨ret_bool (by rw [Hv.out, eachIn_all hR.out (by have := Hl.out; omega)]; simp), rfl⟩


theorem areApart_any (low high : Int) (w : World) : Calls Try.prog 33 #[.int .i64 low, .int .i64 high] w fun e w' => e = .returned (.bool (apart low high)) ∧ w = w' := by
  have hv : apart low high = (inB low 1 200 && inB high low 200) := rfl
  generalize apart low high = v at *
  have Hv := Lib.hid hv
  clear hv
  cases h1 : inB low 1 200 <;> cases h2 : inB high low 200
  all_goals
    go_enter Try.func33, Try.ntmps33
    go_wp2_with (go_at_call 32; refine (within_any _ _ _ _).mono ?_; rintro e w' ⟨rfl, rfl⟩)
    go_ret
    exact ⟨ret_bool (by rw [Hv.out]; simp [h1, h2]), rfl⟩

theorem l08Apart_any (low high : Int) (w : World) : Calls Try.prog 53 #[.int .i64 low, .int .i64 high] w fun e w' => e = .returned (.bool (apart low high)) ∧ w = w' := by
  have hv : apart low high = (inB low 1 200 && inB high low 200) := rfl
  generalize apart low high = v at *
  have Hv := Lib.hid hv
  clear hv
  cases h1 : inB low 1 200 <;> cases h2 : inB high low 200
  all_goals
    go_enter Try.func53, Try.ntmps53
    go_wp2_with (go_at_call 51; refine (l00In_any _ _ _ _).mono ?_; rintro e w' ⟨rfl, rfl⟩)
    go_ret
    exact ⟨ret_bool (by rw [Hv.out]; simp [h1, h2]), rfl⟩

theorem over_any (a b : Int) (w : World) (ha : 0 ≤ a) (ha' : a ≤ 4611686018427387904) (hb : 1 ≤ b) (hb' : b ≤ 4611686018427387904) : Calls Try.prog 49 #[.int .i64 a, .int .i64 b] w fun e w' => e = .returned (.int .i64 ((a + b - 1) / b)) ∧ w = w' := by
  have ho := over_eq ha hb
  have h3 : 0 ≤ a / b ∧ a / b ≤ a := ⟨Int.ediv_nonneg ha (by omega), Int.ediv_le_self _ ha⟩
  have hq : a.tdiv b = a / b := Int.tdiv_eq_ediv_of_nonneg ha
  have hr : a.tmod b = a % b := Int.tmod_eq_emod_of_nonneg ha
  generalize hG : (a + b - 1) / b = G at *
  clear hG
  have Ho := Lib.hid ho
  clear ho
  by_cases hm : a % b > 0
  · have e1 := Ho.out
    rw [if_pos hm] at e1
    have hz : b ≠ 0 := by omega
    go_enter Try.func49, Try.ntmps49
    go_wp2
    go_ret
    exact ⟨ret_int (by omega), rfl⟩
  · have e1 := Ho.out
    rw [if_neg hm] at e1
    go_enter Try.func49, Try.ntmps49
    go_wp2
    go_ret
    exact ⟨ret_int (by omega), rfl⟩
end Go.Proofs.Ytkglcfeopicakaa
