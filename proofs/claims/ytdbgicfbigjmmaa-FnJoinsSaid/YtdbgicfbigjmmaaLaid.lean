/-
  Laid rods: validity, sums, places of joins: plainly, and by walks.
-/
import Derived.Test.YtdbgicfbigjmmaaLists
namespace Go.Proofs.Ytdbgicfbigjmmaa
open Go.RowKit
set_option linter.unusedVariables false

abbrev rt2 (R : Int × Int) : Ending := .returned (.tuple #[.int .i64 R.1, .int .i64 R.2])
abbrev rt3 (R : Int × Int × Int) : Ending := .returned (.tuple #[.int .i64 R.1, .int .i64 R.2.1, .int .i64 R.2.2])

def okRods (l : List Int) : Bool := eachIn l 1 200 && decide (l.length ≤ 7)
theorem okRods_iff {l : List Int} : okRods l = true ↔ (∀ x ∈ l, 1 ≤ x ∧ x ≤ 200) ∧ l.length ≤ 7 := by simp [okRods, eachIn_iff]
theorem okRods_at {l : List Int} (h : okRods l = true) {k : Nat} (hk : k < l.length) : 1 ≤ l.getD k 0 ∧ l.getD k 0 ≤ 200 := by
  refine (okRods_iff.1 h).1 _ ?_
  simp [hk]
def vLaid (st : Int) (l : List Int) : Bool := areSt st && okRods l

/-- the sum of the first k rods -/
def psum (l : List Int) : Nat → Int
  | 0 => 0
  | k + 1 => psum l k + l.getD k 0
theorem psum_bd {l : List Int} (h : okRods l = true) : ∀ k, k ≤ l.length → k ≤ psum l k ∧ psum l k ≤ 200 * k := by
  intro k
  induction k with
  | zero => intro _; simp [psum]
  | succ k ih =>
    intro hk
    have := ih (by omega)
    have := okRods_at h (k := k) (by omega)
    simp only [psum]; omega
/-- the places of the first k joins -/
def placesTo (l : List Int) (k : Nat) : List Int := (List.range k).map fun j => psum l (j + 1)
theorem placesTo_len (l : List Int) (k : Nat) : (placesTo l k).length = k := by simp [placesTo]
theorem placesTo_step (l : List Int) (k : Nat) : placesTo l (k + 1) = placesTo l k ++ [psum l (k + 1)] := by simp [placesTo, List.range_succ]
theorem placesTo_get {l : List Int} {k j : Nat} (h : j < k) : (placesTo l k).getD j 0 = psum l (j + 1) := by simp [placesTo, h]
def places (l : List Int) : List Int := placesTo l (l.length - 1)
theorem places_len (l : List Int) : (places l).length = l.length - 1 := placesTo_len _ _
theorem places_at {l : List Int} (h : okRods l = true) {j : Nat} (hj : j < (places l).length) : 1 ≤ (places l).getD j 0 ∧ (places l).getD j 0 ≤ 1400 := by
  rw [places_len] at hj
  have h7 := (okRods_iff.1 h).2
  have := psum_bd h (j + 1) (by omega)
  rw [places, placesTo_get hj]
  omega

theorem validLaid_any (st : Int) (a : Option Addr) (n c : Nat) (xs : List Int) (w : World) (ha : RV w a n c (ints xs)) :
    Calls Try.prog 37 #[.int .i64 st, .slice a n c] w fun e w' => e = .returned (.bool (vLaid st xs)) ∧ w = w' := by
  have hl := ha.lenI
  have hm := ha.small
  have hv : vLaid st xs = (areSt st && (eachIn xs 1 200 && decide (n ≤ 7))) := by rw [vLaid, okRods, hl]
  have Hv := Lib.hid hv
  have Ha := Lib.hid ha
  clear hv hl ha
  cases hs : areSt st
  · go_enter Try.func37, Try.ntmps37
    go_wp2_with (go_at_call 47; refine (areStakes_any _ _).mono ?_; rintro e w' ⟨rfl, rfl⟩)
    go_ret
    exact ⟨ret_bool (by rw [Hv.out, hs]; simp), rfl⟩
  · by_cases h2 : n ≤ 7
    · have h3 : decide ((n : Int) ≤ 7) = true := by simp; omega
      go_enter Try.func37, Try.ntmps37
      go_wp2_with (first | (go_at_call 47; refine (areStakes_any _ _).mono ?_; rintro e w' ⟨rfl, rfl⟩) | (go_at_call 48; refine (eachWithin_any _ _ _ _ _ _ _ _ Ha.out).mono ?_; rintro e w' ⟨rfl, rfl⟩))
      go_ret
      exact ⟨ret_bool (by rw [Hv.out, hs]; simp [h2]), rfl⟩
    · have h3 : decide ((n : Int) ≤ 7) = false := by simp; omega
      go_enter Try.func37, Try.ntmps37
      go_wp2_with (go_at_call 47; refine (areStakes_any _ _).mono ?_; rintro e w' ⟨rfl, rfl⟩)
      go_ret
      exact ⟨ret_bool (by rw [Hv.out, hs]; simp [h2]), rfl⟩

theorem l10Rods_any (a : Option Addr) (n c : Nat) (xs : List Int) (w : World) (ha : RV w a n c (ints xs)) :
    Calls Try.prog 45 #[.slice a n c] w fun e w' => e = .returned (.bool (okRods xs)) ∧ w = w' := by
  have hl := ha.lenI
  have hm := ha.small
  have Hl := Lib.hid hl
  have hv : okRods xs = (eachIn xs 1 200 && decide (n ≤ 7)) := by rw [okRods, hl]
  have Hv := Lib.hid hv
  have Ha := Lib.hid ha
  clear hv hl ha
  go_enter Try.func45, Try.ntmps45
  go_wp2
  go_loop [3] (fun i => ∃ k : Nat, k ≤ n ∧ i = .int .i64 k ∧ Hid (eachIn (xs.take k) 1 200 = true)) (fun i => n - (intOf i).toNat)
  case atStart => exact ⟨0, Nat.zero_le _, rfl, Lib.hid (by simp [eachIn])⟩
  case round =>
    obtain ⟨k, hk, rfl, hR⟩ := hrel
    by_cases hlt : k < n
    · obtain ⟨b, o, x, rfl, hb, hx, Hx⟩ := Ha.out.at hlt
      have hkl : k < xs.length := by have := Hl.out; omega
      have Hkl := Lib.hid hkl
      clear hkl
      cases hin : inB x 1 200
      · go_wp2_with (go_at_call 35; refine (l00In_any _ _ _ _).mono ?_; rintro e w' ⟨rfl, rfl⟩)
        go_ret
        exact ⟨ret_bool (by rw [Hv.out, eachIn_bad Hkl.out (by rw [← Hx.out]; exact hin)]; simp), rfl⟩
      · go_wp2_with (go_at_call 35; refine (l00In_any _ _ _ _).mono ?_; rintro e w' ⟨rfl, rfl⟩)
        go_round
        case rel => exact ⟨k + 1, by omega, by go_num, Lib.hid (eachIn_take hR.out Hkl.out (by rw [← Hx.out]; exact hin))⟩
        case measure => simp [intOf]; omega
    · go_wp2
      go_ret
      exact ⟨ret_bool (by rw [Hv.out, eachIn_all hR.out (by have := Hl.out; omega)]; simp; omega), rfl⟩

theorem l10Ok_any (st : Int) (a : Option Addr) (n c : Nat) (xs : List Int) (w : World) (ha : RV w a n c (ints xs)) :
    Calls Try.prog 34 #[.int .i64 st, .slice a n c] w fun e w' => e = .returned (.bool (vLaid st xs)) ∧ w = w' := by
  have hv : vLaid st xs = (areSt st && okRods xs) := rfl
  have Hv := Lib.hid hv
  clear hv
  cases hs : areSt st
  all_goals
    go_enter Try.func34, Try.ntmps34
    go_wp2_with (first | (go_at_call 44; refine (l06Stakes_any _ _).mono ?_; rintro e w' ⟨rfl, rfl⟩) | (go_at_call 45; refine (l10Rods_any _ _ _ _ _ ha).mono ?_; rintro e w' ⟨rfl, rfl⟩))
    go_ret
    exact ⟨ret_bool (by rw [Hv.out, hs]; simp), rfl⟩

end Go.Proofs.Ytdbgicfbigjmmaa
