/-
  Shapes: how many stakes are good: walks.
-/
import Derived.Test.YtkglcfeopicakaaShape
namespace Go.Proofs.Ytkglcfeopicakaa
open Go.RowKit
set_option linter.unusedVariables false

set_option maxHeartbeats 2000000 in
theorem stakesRange_any (around low high : Int) (w : World) (h1 : 1 ≤ around) (h2 : around ≤ 5000) (h3 : 1 ≤ low) (h4 : low ≤ 200) (h5 : low ≤ high) (h6 : high ≤ 200) :
    Calls Try.prog 28 #[.int .i64 around, .int .i64 low, .int .i64 high] w fun e w' => e = .returned (.tuple #[.int .i64 (leastOf around high), .int .i64 (mostOf around low)]) ∧ ∃ m, w' = w.drewN m := by
  have hov := fun W => over_any around high W (by omega) (by omega) (by omega) (by omega)
  have e1 : leastOf around high = max 3 ((around + high - 1) / high) := rfl
  have e2 : mostOf around low = min 60 (around / low) := rfl
  have hq : around.tdiv low = around / low := Int.tdiv_eq_ediv_of_nonneg (by omega)
  have h7 : 0 ≤ around / low ∧ around / low ≤ around := ⟨Int.ediv_nonneg (by omega) (by omega), Int.ediv_le_self _ (by omega)⟩
  have hz : low ≠ 0 := by omega
  generalize (around + high - 1) / high = q at *
  generalize leastOf around high = L at *
  generalize mostOf around low = M at *
  have E1 := Lib.hid e1
  have E2 := Lib.hid e2
  have Hov := Lib.hid hov
  clear e1 e2 hov
  go_enter Try.func28, Try.ntmps28
  go_wp2
  go_quiet ((go_at_call 49; exact Calls.quiet_of_same ((Hov.out _).mono fun e w' ⟨h1, h2⟩ => ⟨h1, h2.symm⟩)))
  go_wp2
  go_ret2
  exact ⟨by rw [E1.out, E2.out]; rfl, _, rfl⟩

theorem stakesRangeI_any (around low high : Int) (w : World) : Calls Try.prog 11 #[.int .i64 around, .int .i64 low, .int .i64 high] w fun e w' => e = rt3 (stakesRangeR around low high) ∧ ∃ m, w' = w.drewN m := by
  cases h1 : inB around 1 5000
  · rw [show stakesRangeR around low high = (0, 0, 2) by simp [stakesRangeR, h1]]
    go_enter Try.func11, Try.ntmps11
    go_wp2_with (go_at_call 32; refine (within_any _ _ _ _).mono ?_; rintro e w' ⟨rfl, rfl⟩)
    go_ret3
    exact ⟨rfl, 0, rfl⟩
  · cases h2 : apart low high
    · rw [show stakesRangeR around low high = (0, 0, 2) by simp [stakesRangeR, h2]]
      go_enter Try.func11, Try.ntmps11
      go_wp2_with (first | (go_at_call 32; refine (within_any _ _ _ _).mono ?_; rintro e w' ⟨rfl, rfl⟩) | (go_at_call 33; refine (areApart_any _ _ _).mono ?_; rintro e w' ⟨rfl, rfl⟩))
      go_ret3
      exact ⟨rfl, 0, rfl⟩
    · have hR : stakesRangeR around low high = if leastOf around high > mostOf around low then (0, 0, 3) else (leastOf around high, mostOf around low, 0) := by simp [stakesRangeR, h1, h2]
      obtain ⟨⟨b1, b2⟩, b3, b4⟩ := apart_iff.1 h2
      obtain ⟨b5, b6⟩ := inB_iff.1 h1
      have hsr := fun W => stakesRange_any around low high W b5 b6 b1 b2 b3 b4
      generalize leastOf around high = L at *
      generalize mostOf around low = M at *
      generalize stakesRangeR around low high = R at *
      have Hsr := Lib.hid hsr
      clear hsr
      by_cases h3 : L > M
      · rw [if_pos h3] at hR
        subst hR
        go_enter Try.func11, Try.ntmps11
        go_wp2_with (first | (go_at_call 32; refine (within_any _ _ _ _).mono ?_; rintro e w' ⟨rfl, rfl⟩) | (go_at_call 33; refine (areApart_any _ _ _).mono ?_; rintro e w' ⟨rfl, rfl⟩) | (go_at_call 28; refine (Hsr.out _).mono ?_; rintro e w' ⟨rfl, m, rfl⟩))
        go_ret3
        exact ⟨rfl, _, rfl⟩
      · rw [if_neg h3] at hR
        subst hR
        go_enter Try.func11, Try.ntmps11
        go_wp2_with (first | (go_at_call 32; refine (within_any _ _ _ _).mono ?_; rintro e w' ⟨rfl, rfl⟩) | (go_at_call 33; refine (areApart_any _ _ _).mono ?_; rintro e w' ⟨rfl, rfl⟩) | (go_at_call 28; refine (Hsr.out _).mono ?_; rintro e w' ⟨rfl, m, rfl⟩))
        go_ret3
        exact ⟨rfl, _, rfl⟩

end Go.Proofs.Ytkglcfeopicakaa
