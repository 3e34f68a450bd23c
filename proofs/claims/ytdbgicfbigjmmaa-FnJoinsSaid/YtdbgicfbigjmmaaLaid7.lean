/-
  Laid rods, on: how many joins lie above earlier ones, and the first.
-/
import Derived.Test.YtdbgicfbigjmmaaLaid6
namespace Go.Proofs.Ytdbgicfbigjmmaa
open Go.RowKit
set_option linter.unusedVariables false

def laidC (st : Int) (l : List Int) (be : Int) : Int := if vLaid st l then if inB be 0 5 then 0 else 2 else 1
theorem laidC_ok {st : Int} {l : List Int} {be : Int} (h : laidC st l be = 0) : (3 ≤ st ∧ st ≤ 60) ∧ okRods l = true := by
  unfold laidC at h
  split at h
  · next hv =>
    have h2 : areSt st = true ∧ okRods l = true := by simpa [vLaid] using hv
    exact ⟨inB_iff.1 h2.1, h2.2⟩
  · omega

theorem laidCode_any (st be : Int) (a : Option Addr) (n c : Nat) (xs : List Int) (w : World) (ha : RV w a n c (ints xs)) :
    Calls Try.prog 25 #[.int .i64 st, .slice a n c, .int .i64 be] w fun e w' => e = .returned (.int .i64 (laidC st xs be)) ∧ w = w' := by
  cases hv : vLaid st xs
  · rw [show laidC st xs be = 1 by simp [laidC, hv]]
    go_enter Try.func25, Try.ntmps25
    go_wp2_with (first | (go_at_call 37; refine (validLaid_any _ _ _ _ _ _ ha).mono ?_; rintro e w' ⟨rfl, rfl⟩) | (go_at_call 38; refine (within_any _ _ _ _).mono ?_; rintro e w' ⟨rfl, rfl⟩))
    go_ret
    exact ⟨rfl, rfl⟩
  · cases hb : inB be 0 5
    · rw [show laidC st xs be = 2 by simp [laidC, hv, hb]]
      go_enter Try.func25, Try.ntmps25
      go_wp2_with (first | (go_at_call 37; refine (validLaid_any _ _ _ _ _ _ ha).mono ?_; rintro e w' ⟨rfl, rfl⟩) | (go_at_call 38; refine (within_any _ _ _ _).mono ?_; rintro e w' ⟨rfl, rfl⟩))
      go_ret
      exact ⟨rfl, rfl⟩
    · rw [show laidC st xs be = 0 by simp [laidC, hv, hb]]
      go_enter Try.func25, Try.ntmps25
      go_wp2_with (first | (go_at_call 37; refine (validLaid_any _ _ _ _ _ _ ha).mono ?_; rintro e w' ⟨rfl, rfl⟩) | (go_at_call 38; refine (within_any _ _ _ _).mono ?_; rintro e w' ⟨rfl, rfl⟩))
      go_ret
      exact ⟨rfl, rfl⟩

theorem l10Code_any (st be : Int) (a : Option Addr) (n c : Nat) (xs : List Int) (w : World) (ha : RV w a n c (ints xs)) :
    Calls Try.prog 23 #[.int .i64 st, .slice a n c, .int .i64 be] w fun e w' => e = .returned (.int .i64 (laidC st xs be)) ∧ w = w' := by
  cases hv : vLaid st xs
  · rw [show laidC st xs be = 1 by simp [laidC, hv]]
    go_enter Try.func23, Try.ntmps23
    go_wp2_with (first | (go_at_call 34; refine (l10Ok_any _ _ _ _ _ _ ha).mono ?_; rintro e w' ⟨rfl, rfl⟩) | (go_at_call 35; refine (l00In_any _ _ _ _).mono ?_; rintro e w' ⟨rfl, rfl⟩))
    go_ret
    exact ⟨rfl, rfl⟩
  · cases hb : inB be 0 5
    · rw [show laidC st xs be = 2 by simp [laidC, hv, hb]]
      go_enter Try.func23, Try.ntmps23
      go_wp2_with (first | (go_at_call 34; refine (l10Ok_any _ _ _ _ _ _ ha).mono ?_; rintro e w' ⟨rfl, rfl⟩) | (go_at_call 35; refine (l00In_any _ _ _ _).mono ?_; rintro e w' ⟨rfl, rfl⟩))
      go_ret
      exact ⟨rfl, rfl⟩
    · rw [show laidC st xs be = 0 by simp [laidC, hv, hb]]
      go_enter Try.func23, Try.ntmps23
      go_wp2_with (first | (go_at_call 34; refine (l10Ok_any _ _ _ _ _ _ ha).mono ?_; rintro e w' ⟨rfl, rfl⟩) | (go_at_call 35; refine (l00In_any _ _ _ _).mono ?_; rintro e w' ⟨rfl, rfl⟩))
      go_ret
      exact ⟨rfl, rfl⟩


def allAbv (st : Int) (l : List Int) (be : Int) : List Nat := abovesTo (places l) st be (places l).length
def countR (st : Int) (l : List Int) (be : Int) : Int × Int := if laidC st l be = 0 then ((allAbv st l be).length, 0) else (0, laidC st l be)

theorem countAbove_any (st be : Int) (a : Option Addr) (n c : Nat) (xs : List Int) (w : World) (ha : RV w a n c (ints xs)) :
    Calls Try.prog 18 #[.int .i64 st, .slice a n c, .int .i64 be] w fun e w' => e = rt2 (countR st xs be) ∧ Below w.heap.size w w' := by
  by_cases hc : laidC st xs be = 0
  · obtain ⟨hst, hok⟩ := laidC_ok hc
    rw [show countR st xs be = (((allAbv st xs be).length : Int), 0) by simp [countR, hc]]
    have hcode := fun W h => laidCode_any st be a n c xs W h
    rw [hc] at hcode
    go_enter Try.func18, Try.ntmps18
    go_wp2_with (first | (go_at_call 25; refine (hcode _ ha).mono ?_; rintro e w' ⟨rfl, rfl⟩) | (go_at_call 30; refine (aboves_any _ _ _ _ _ _ _ hst hok ha).mono ?_; rintro e w1 ⟨rfl, hb⟩))
    go_ret2
    exact ⟨rfl, hb⟩
  · rw [show countR st xs be = (0, laidC st xs be) by simp [countR, hc]]
    go_enter Try.func18, Try.ntmps18
    go_wp2_with (go_at_call 25; refine (laidCode_any _ _ _ _ _ _ _ ha).mono ?_; rintro e w' ⟨rfl, rfl⟩)
    go_ret2
    exact ⟨rfl, Below.refl _ _⟩

theorem specCountAbove_any (st be : Int) (a : Option Addr) (n c : Nat) (xs : List Int) (w : World) (ha : RV w a n c (ints xs)) :
    Calls Try.prog 21 #[.int .i64 st, .slice a n c, .int .i64 be] w fun e w' => e = rt2 (countR st xs be) ∧ Below w.heap.size w w' := by
  by_cases hc : laidC st xs be = 0
  · obtain ⟨hst, hok⟩ := laidC_ok hc
    rw [show countR st xs be = (((nats (allAbv st xs be)).length : Int), 0) by simp [countR, hc, nats]]
    have hcode := fun W h => l10Code_any st be a n c xs W h
    rw [hc] at hcode
    go_enter Try.func21, Try.ntmps21
    go_wp2_with (first | (go_at_call 23; refine (hcode _ ha).mono ?_; rintro e w' ⟨rfl, rfl⟩) | (go_at_call 31; refine (l10Above_any _ _ _ _ _ _ _ hst hok ha).mono ?_; rintro e w1 ⟨v, rfl, ho, hb⟩; obtain ⟨a1, c1, rfl, hr1⟩ := ho.sliceI))
    go_ret2
    exact ⟨rfl, hb⟩
  · rw [show countR st xs be = (0, laidC st xs be) by simp [countR, hc]]
    go_enter Try.func21, Try.ntmps21
    go_wp2_with (go_at_call 23; refine (l10Code_any _ _ _ _ _ _ _ ha).mono ?_; rintro e w' ⟨rfl, rfl⟩)
    go_ret2
    exact ⟨rfl, Below.refl _ _⟩
end Go.Proofs.Ytdbgicfbigjmmaa
