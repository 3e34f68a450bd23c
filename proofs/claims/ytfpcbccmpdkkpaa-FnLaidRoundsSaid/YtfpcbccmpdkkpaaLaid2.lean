/-
  Laid rods, on: rounds laid, places of joins, joins of.
-/
import Derived.Test.YtfpcbccmpdkkpaaLaid
namespace Go.Proofs.Ytfpcbccmpdkkpaa
open Go.RowKit
set_option linter.unusedVariables false

def roundsR (st : Int) (l : List Int) : Int × Int × Int := if vLaid st l then (psum l l.length / st, psum l l.length % st, 0) else (0, 0, 1)

theorem sumOf_any (a : Option Addr) (n c : Nat) (xs : List Int) (w : World) (hok : okRods xs = true) (ha : RV w a n c (ints xs)) :
    Calls Try.prog 45 #[.slice a n c] w fun e w' => e = .returned (.int .i64 (psum xs n)) ∧ w = w' := by
  have hm := ha.small
  have Hl := Lib.hid ha.lenI
  have h7 : n ≤ 7 := by have := (okRods_iff.1 hok).2; rw [ha.lenI] at this; exact this
  have Hb := Lib.hid (fun k (hk : k ≤ n) => psum_bd hok k (by rw [ha.lenI]; exact hk))
  have Hx := Lib.hid (fun k (hk : k < n) => okRods_at hok (k := k) (by rw [ha.lenI]; exact hk))
  have Ha := Lib.hid ha
  clear ha hok
  go_enter Try.func45, Try.ntmps45
  go_wp2
  go_loop [3, 8] (fun q i => ∃ k : Nat, k ≤ n ∧ i = .int .i64 k ∧ q = .int .i64 (psum xs k)) (fun _ i => n - (intOf i).toNat)
  case atStart => exact ⟨0, Nat.zero_le _, rfl, rfl⟩
  case round =>
    obtain ⟨k, hk, rfl, rfl⟩ := hrel
    by_cases hlt : k < n
    · obtain ⟨b, o, rfl, hb, hc⟩ := Ha.out.cell (by omega)
      have e1 := hc k hlt
      clear hc
      have b1 := Hb.out k hk
      have b2 := Hx.out k hlt
      have Hs := Lib.hid (show psum xs (k + 1) = psum xs k + xs.getD k 0 from rfl)
      generalize psum xs k = s at *
      generalize xs.getD k 0 = u at *
      go_wp2
      go_round
      case rel => exact ⟨k + 1, by omega, by go_num, by rw [Hs.out]⟩
      case measure => simp [intOf]; omega
    · have hkn : k = n := by omega
      subst hkn
      go_wp2
      go_ret
      exact ⟨rfl, rfl⟩

theorem l00Sum_any (a : Option Addr) (n c : Nat) (xs : List Int) (w : World) (hok : okRods xs = true) (ha : RV w a n c (ints xs)) :
    Calls Try.prog 44 #[.slice a n c] w fun e w' => e = .returned (.int .i64 (psum xs n)) ∧ w = w' := by
  have hm := ha.small
  have Hl := Lib.hid ha.lenI
  have h7 : n ≤ 7 := by have := (okRods_iff.1 hok).2; rw [ha.lenI] at this; exact this
  have Hb := Lib.hid (fun k (hk : k ≤ n) => psum_bd hok k (by rw [ha.lenI]; exact hk))
  have Hx := Lib.hid (fun k (hk : k < n) => okRods_at hok (k := k) (by rw [ha.lenI]; exact hk))
  have Ha := Lib.hid ha
  clear ha hok
  go_enter Try.func44, Try.ntmps44
  go_wp2
  go_loop [3, 4] (fun q i => ∃ k : Nat, k ≤ n ∧ i = .int .i64 k ∧ q = .int .i64 (psum xs k)) (fun _ i => n - (intOf i).toNat)
  case atStart => exact ⟨0, Nat.zero_le _, rfl, rfl⟩
  case round =>
    obtain ⟨k, hk, rfl, rfl⟩ := hrel
    by_cases hlt : k < n
    · obtain ⟨b, o, rfl, hb, hc⟩ := Ha.out.cell (by omega)
      have e1 := hc k hlt
      clear hc
      have b1 := Hb.out k hk
      have b2 := Hx.out k hlt
      have Hs := Lib.hid (show psum xs (k + 1) = psum xs k + xs.getD k 0 from rfl)
      generalize psum xs k = s at *
      generalize xs.getD k 0 = u at *
      go_wp2
      go_round
      case rel => exact ⟨k + 1, by omega, by go_num, by rw [Hs.out]⟩
      case measure => simp [intOf]; omega
    · have hkn : k = n := by omega
      subst hkn
      go_wp2
      go_ret
      exact ⟨rfl, rfl⟩

theorem roundsLaid_any (st : Int) (a : Option Addr) (n c : Nat) (xs : List Int) (w : World) (ha : RV w a n c (ints xs)) :
    Calls Try.prog 18 #[.int .i64 st, .slice a n c] w fun e w' => e = rt3 (roundsR st xs) ∧ ∃ m, w' = w.drewN m := by
  have Ha := Lib.hid ha
  cases hv : vLaid st xs
  · rw [show roundsR st xs = (0, 0, 1) by simp [roundsR, hv]]
    clear ha
    go_enter Try.func18, Try.ntmps18
    go_wp2_with (go_at_call 15; refine (validLaid_any _ _ _ _ _ _ Ha.out).mono ?_; rintro e w' ⟨rfl, rfl⟩)
    go_ret3
    exact ⟨rfl, 0, rfl⟩
  · have hv2 : areSt st = true ∧ okRods xs = true := by simpa [vLaid] using hv
    have Hok := Lib.hid hv2.2
    have hst := inB_iff.1 hv2.1
    have hb := psum_bd hv2.2 n (by rw [ha.lenI]; exact Nat.le_refl _)
    have h7 : n ≤ 7 := by have := (okRods_iff.1 hv2.2).2; rw [ha.lenI] at this; exact this
    rw [show roundsR st xs = (psum xs n / st, psum xs n % st, 0) by simp [roundsR, hv, ha.lenI]]
    have hsum := Lib.hid (fun W h => sumOf_any a n c xs W hv2.2 h)
    clear ha hv2
    generalize psum xs n = s at *
    have q1 : s.tdiv st = s / st := Int.tdiv_eq_ediv_of_nonneg (by omega)
    have q2 : s.tmod st = s % st := Int.tmod_eq_emod_of_nonneg (by omega)
    have q3 : 0 ≤ s / st ∧ s / st ≤ s := ⟨Int.ediv_nonneg (by omega) (by omega), Int.ediv_le_self _ (by omega)⟩
    have q4 := Int.emod_nonneg s (show st ≠ 0 by omega)
    have q5 := Int.emod_lt_of_pos s (show 0 < st by omega)
    have hz : st ≠ 0 := by omega
    have q6 := IntWalk.i64_in (s / st) (by omega)
    have q7 := IntWalk.i64_in (s % st) (by omega)
    go_enter Try.func18, Try.ntmps18
    go_wp2_with (first | (go_at_call 15; refine (validLaid_any _ _ _ _ _ _ Ha.out).mono ?_; rintro e w' ⟨rfl, rfl⟩) | (go_at_call 45; refine (hsum.out _ Ha.out).mono ?_; rintro e w' ⟨rfl, rfl⟩))
    go_quiet (fail)
    go_wp2
    go_ret3
    exact ⟨rfl, _, rfl⟩

theorem specRoundsLaid_any (st : Int) (a : Option Addr) (n c : Nat) (xs : List Int) (w : World) (ha : RV w a n c (ints xs)) :
    Calls Try.prog 17 #[.int .i64 st, .slice a n c] w fun e w' => e = rt3 (roundsR st xs) ∧ ∃ m, w' = w.drewN m := by
  have Ha := Lib.hid ha
  cases hv : vLaid st xs
  · rw [show roundsR st xs = (0, 0, 1) by simp [roundsR, hv]]
    clear ha
    go_enter Try.func17, Try.ntmps17
    go_wp2_with (go_at_call 41; refine (l10Ok_any _ _ _ _ _ _ Ha.out).mono ?_; rintro e w' ⟨rfl, rfl⟩)
    go_ret3
    exact ⟨rfl, 0, rfl⟩
  · have hv2 : areSt st = true ∧ okRods xs = true := by simpa [vLaid] using hv
    have Hok := Lib.hid hv2.2
    have hst := inB_iff.1 hv2.1
    have hb := psum_bd hv2.2 n (by rw [ha.lenI]; exact Nat.le_refl _)
    have h7 : n ≤ 7 := by have := (okRods_iff.1 hv2.2).2; rw [ha.lenI] at this; exact this
    rw [show roundsR st xs = (psum xs n / st, psum xs n % st, 0) by simp [roundsR, hv, ha.lenI]]
    have hsum := Lib.hid (fun W h => l00Sum_any a n c xs W hv2.2 h)
    clear ha hv2
    generalize psum xs n = s at *
    have q1 : s.tdiv st = s / st := Int.tdiv_eq_ediv_of_nonneg (by omega)
    have q2 : s.tmod st = s % st := Int.tmod_eq_emod_of_nonneg (by omega)
    have q3 : 0 ≤ s / st ∧ s / st ≤ s := ⟨Int.ediv_nonneg (by omega) (by omega), Int.ediv_le_self _ (by omega)⟩
    have q4 := Int.emod_nonneg s (show st ≠ 0 by omega)
    have q5 := Int.emod_lt_of_pos s (show 0 < st by omega)
    have hz : st ≠ 0 := by omega
    have q6 := IntWalk.i64_in (s / st) (by omega)
    have q7 := IntWalk.i64_in (s % st) (by omega)
    go_enter Try.func17, Try.ntmps17
    go_wp2_with (first | (go_at_call 41; refine (l10Ok_any _ _ _ _ _ _ Ha.out).mono ?_; rintro e w' ⟨rfl, rfl⟩) | (go_at_call 44; refine (hsum.out _ Ha.out).mono ?_; rintro e w' ⟨rfl, rfl⟩))
    go_quiet (fail)
    go_wp2
    go_ret3
    exact ⟨rfl, _, rfl⟩

end Go.Proofs.Ytfpcbccmpdkkpaa
