/-
  Bases, on: first open round, length of a round, sticks for stakes, gaps as fractions.
-/
import Derived.Test.YtimomjkeknlcgaaDoorBase2
namespace Go.Proofs.YtimomjkeknlcgaaDoor
open Go.RowKit
set_option linter.unusedVariables false

theorem sticksF_step {st : Int} {f : Nat} {y : Int} (h : inB (4 * y - st) 0 4 = false) : sticksF st (f + 1) y = sticksF st f (y + 1) := by simp [sticksF, h]
theorem sticksF_hit {st : Int} {f : Nat} {y : Int} (h : inB (4 * y - st) 0 4 = true) : sticksF st (f + 1) y = y := by simp [sticksF, h]
abbrev ret4 (p : Int × Int × Int × Int) : Ending := .returned (.tuple #[.int .i64 p.1, .int .i64 p.2.1, .int .i64 p.2.2.1, .int .i64 p.2.2.2])

theorem BaseFor_any (st : Int) (w : World) : Calls Tryd.prog 15 #[.int .i64 st] w fun e w' => e = ret4 (baseForR st) ∧ w = w' := by
  cases hv : inB st 3 100
  · rw [show baseForR st = (0, 0, 0, 2) by simp [baseForR, hv]]
    go_enter Tryd.func15, Tryd.ntmps15
    go_wp2_with (go_at_call 36; refine (within_any _ _ _ _).mono ?_; rintro e w1 ⟨rfl, rfl⟩)
    refine bodyPost_ret (results_tmp4 rfl _ _ _) rfl ?_
    exact ⟨rfl, rfl⟩
  · have hb := inB_iff.1 hv
    have hR : baseForR st = if sticksF st 23 2 = 0 then (0, 0, 0, 3) else ((sticksF st 23 2 + 1) / 2, sticksF st 23 2 / 2, 4 * sticksF st 23 2 - st, 0) := by simp [baseForR, hv]
    generalize baseForR st = R at *
    have HR := Lib.hid hR
    clear hR
    go_enter Tryd.func15, Tryd.ntmps15
    go_wp2_with (go_at_call 36; refine (within_any _ _ _ _).mono ?_; rintro e w1 ⟨rfl, rfl⟩)
    go_loop [6] (fun x => ∃ (f : Nat) (y : Int), x = .int .i64 y ∧ y + f = 25 ∧ 2 ≤ y ∧ Hid (sticksF st 23 2 = sticksF st f y)) (fun x => (25 - intOf x).toNat)
    case atStart => exact ⟨23, 2, rfl, rfl, by omega, rfl⟩
    case round =>
      obtain ⟨f, y, rfl, hf, hy, hS⟩ := hrel
      have hF := Lib.hid hf
      clear hf
      by_cases hlt : y ≤ 24
      · obtain ⟨f', rfl⟩ : ∃ f', f = f' + 1 := ⟨f - 1, by have := hF.out; omega⟩
        cases hh : inB (4 * y - st) 0 4
        · go_wp2_with (go_at_call 36; refine (within_any _ _ _ _).mono ?_; rintro e w1 ⟨rfl, rfl⟩)
          go_round
          case rel => exact ⟨f', y + 1, rfl, by have := hF.out; omega, by omega, hS.out.trans (sticksF_step hh)⟩
          case measure => simp [intOf]; omega
        · have hyy := hS.out.trans (sticksF_hit hh)
          have e1 := HR.out
          rw [hyy, if_neg (by omega)] at e1
          subst e1
          clear hyy
          go_wp2_with (go_at_call 36; refine (within_any _ _ _ _).mono ?_; rintro e w1 ⟨rfl, rfl⟩)
          refine bodyPost_ret (results_tmp4 rfl _ _ _) rfl ?_
          exact ⟨rfl, rfl⟩
      · have hf0 : f = 0 := by have := hF.out; omega
        subst hf0
        have e1 := HR.out
        rw [hS.out, show sticksF st 0 y = 0 from rfl, if_pos rfl] at e1
        subst e1
        go_wp2
        refine bodyPost_ret (results_tmp4 rfl _ _ _) rfl ?_
        exact ⟨rfl, rfl⟩

theorem specBaseFor_any (st : Int) (w : World) : Calls Tryd.prog 16 #[.int .i64 st] w fun e w' => e = ret4 (baseForR st) ∧ w = w' := by
  cases hv : inB st 3 100
  · rw [show baseForR st = (0, 0, 0, 2) by simp [baseForR, hv]]
    go_enter Tryd.func16, Tryd.ntmps16
    go_wp2_with (go_at_call 37; refine (l00In_any _ _ _ _).mono ?_; rintro e w1 ⟨rfl, rfl⟩)
    refine bodyPost_ret (results_tmp4 rfl _ _ _) rfl ?_
    exact ⟨rfl, rfl⟩
  · have hb := inB_iff.1 hv
    have hR : baseForR st = if sticksF st 23 2 = 0 then (0, 0, 0, 3) else ((sticksF st 23 2 + 1) / 2, sticksF st 23 2 / 2, 4 * sticksF st 23 2 - st, 0) := by simp [baseForR, hv]
    generalize baseForR st = R at *
    have HR := Lib.hid hR
    clear hR
    go_enter Tryd.func16, Tryd.ntmps16
    go_wp2_with (go_at_call 37; refine (l00In_any _ _ _ _).mono ?_; rintro e w1 ⟨rfl, rfl⟩)
    go_loop [6] (fun x => ∃ (f : Nat) (y : Int), x = .int .i64 y ∧ y + f = 25 ∧ 2 ≤ y ∧ Hid (sticksF st 23 2 = sticksF st f y)) (fun x => (25 - intOf x).toNat)
    case atStart => exact ⟨23, 2, rfl, rfl, by omega, rfl⟩
    case round =>
      obtain ⟨f, y, rfl, hf, hy, hS⟩ := hrel
      have hF := Lib.hid hf
      clear hf
      by_cases hlt : y ≤ 24
      · obtain ⟨f', rfl⟩ : ∃ f', f = f' + 1 := ⟨f - 1, by have := hF.out; omega⟩
        cases hh : inB (4 * y - st) 0 4
        · go_wp2_with (go_at_call 37; refine (l00In_any _ _ _ _).mono ?_; rintro e w1 ⟨rfl, rfl⟩)
          go_round
          case rel => exact ⟨f', y + 1, rfl, by have := hF.out; omega, by omega, hS.out.trans (sticksF_step hh)⟩
          case measure => simp [intOf]; omega
        · have hyy := hS.out.trans (sticksF_hit hh)
          have e1 := HR.out
          rw [hyy, if_neg (by omega)] at e1
          subst e1
          clear hyy
          go_wp2_with (go_at_call 37; refine (l00In_any _ _ _ _).mono ?_; rintro e w1 ⟨rfl, rfl⟩)
          refine bodyPost_ret (results_tmp4 rfl _ _ _) rfl ?_
          exact ⟨rfl, rfl⟩
      · have hf0 : f = 0 := by have := hF.out; omega
        subst hf0
        have e1 := HR.out
        rw [hS.out, show sticksF st 0 y = 0 from rfl, if_pos rfl] at e1
        subst e1
        go_wp2
        refine bodyPost_ret (results_tmp4 rfl _ _ _) rfl ?_
        exact ⟨rfl, rfl⟩



end Go.Proofs.YtimomjkeknlcgaaDoor
