/-
  Shapes: changes: walks.
-/
import Derived.Test.YtkglcfeopicakaaShape
import Derived.Test.YtkglcfeopicakaaNumPlain
namespace Go.Proofs.Ytkglcfeopicakaa
open Go.RowKit
set_option linter.unusedVariables false

theorem changesOf_any (a : Option Addr) (n c : Nat) (xs : List Int) (w : World) (ha : RV w a n c (ints xs)) :
    Calls Try.prog 13 #[.slice a n c] w fun e w' => e = rt2 (changesR xs) ∧ ∃ m, w' = w.drewN m := by
  have hl := ha.lenI
  have hm := ha.small
  have hv : vPlan xs = (eachIn xs 3 60 && decide (n ≤ 12)) := by rw [vPlan, hl]
  by_cases h1 : n ≤ 12
  · cases h2 : eachIn xs 3 60
    · rw [show changesR xs = (0, 2) by simp [changesR, hv, h2]]
      clear hv hl
      go_enter Try.func13, Try.ntmps13
      go_wp2_with (go_at_call 37; refine (eachWithin_any _ _ _ _ _ _ _ _ ha).mono ?_; rw [h2]; rintro e w' ⟨rfl, rfl⟩)
      go_ret2
      exact ⟨rfl, 0, rfl⟩
    · have hv2 : vPlan xs = true := by rw [hv, h2]; simp [h1]
      rw [show changesR xs = (changes xs n, 0) by simp [changesR, hv2, hl]]
      have Hb := Lib.hid (changes_bd hv2)
      have He := Lib.hid (fun k hk => eachIn_at h2 (k := k) hk)
      have Hl := Lib.hid hl
      have Ha := Lib.hid ha
      have hew := fun W m h => eachWithin_any a n c m 3 60 xs W h
      rw [h2] at hew
      have Hew := Lib.hid hew
      clear hv hv2 hl ha h2 hew
      go_enter Try.func13, Try.ntmps13
      go_wp2_with (go_at_call 37; refine (Hew.out _ _ Ha.out).mono ?_; rintro e w' ⟨rfl, rfl⟩)
      go_loopw [4, 5] (fun q i wr => ∃ k j : Nat, k = j + 1 ∧ (j + 1 ≤ n ∨ j = 0) ∧ i = .int .i64 k ∧ q = .int .i64 (changes xs (j + 1)) ∧ ∃ m, Hid (wr = w.drewN m)) (fun _ i _ => n - (intOf i).toNat)
      case atStart => exact ⟨1, 0, rfl, .inr rfl, rfl, rfl, 0, Lib.hid rfl⟩
      case round =>
        obtain ⟨k', j, hkj, hj, rfl, rfl, m, Hw⟩ := hrel
        by_cases hlt : k' < n
        · have Ha' : RV wr a n c (ints xs) := by rw [Hw.out]; exact Ha.out.drewN m
          obtain ⟨b, o, rfl, hb, hc⟩ := Ha'.cell (by omega)
          clear Ha'
          have e1 := hc j (by omega)
          have e2 := hc k' hlt
          rw [show xs.getD k' 0 = xs.getD (j + 1) 0 by rw [hkj]] at e2
          have b1 := Hb.out (j + 1) (by have := Hl.out; omega)
          have b2 := He.out j (by have := Hl.out; omega)
          have b3 := He.out (j + 1) (by have := Hl.out; omega)
          have Hs := Lib.hid (show changes xs (j + 1 + 1) = changes xs (j + 1) + max (xs.getD j 0 - xs.getD (j + 1) 0) (xs.getD (j + 1) 0 - xs.getD j 0) from rfl)
          clear hc
          have hlt' : (k' : Int) < n := by omega
          have hlj : (j : Int) < n := by omega
          have hkn : j + 1 ≤ n := by omega
          have Hkj := Lib.hid hkj
          generalize changes xs (j + 1) = s at *
          generalize xs.getD j 0 = u at *
          generalize xs.getD (j + 1) 0 = v at *
          have hw1 : IntKind.i64.wrap ((k' : Int) - 1) = (j : Int) := by rw [IntWalk.i64_in _ (by omega)]; omega
          have hw0 := IntWalk.i64_in (j : Int) (by omega)
          clear hkj
          have hw2 := IntWalk.i64_in (s + max (u - v) (v - u)) (by omega)
          go_wp2
          go_quiet ((go_at_call 29; exact Calls.quiet_of_same ((distance_any u v _ (by omega) (by omega)).mono fun e w' ⟨h1, h2⟩ => ⟨h1, h2.symm⟩)))
          go_wp2
          go_roundw
          case rel => exact ⟨k' + 1, j + 1, by have := Hkj.out; omega, .inl (by have := Hkj.out; omega), by go_num, by rw [Hs.out], m + nq, Lib.hid (by rw [Hw.out, World.drewN_drewN])⟩
          case measure => simp [intOf]; omega
        · go_wp2
          go_ret2
          have hfin : changes xs n = changes xs (j + 1) := changes_fin (by omega)
          exact ⟨by rw [hfin]; rfl, m, Hw.out⟩
  · rw [show changesR xs = (0, 2) by simp [changesR, hv, h1]]
    clear hv hl
    have h3 : decide (12 < (n : Int)) = true := by simp; omega
    go_enter Try.func13, Try.ntmps13
    go_wp2
    go_ret2
    exact ⟨rfl, 0, rfl⟩

theorem specChangesOf_any (a : Option Addr) (n c : Nat) (xs : List Int) (w : World) (ha : RV w a n c (ints xs)) :
    Calls Try.prog 17 #[.slice a n c] w fun e w' => e = rt2 (changesR xs) ∧ ∃ m, w' = w.drewN m := by
  have hl := ha.lenI
  have hm := ha.small
  have hv : vPlan xs = (eachIn xs 3 60 && decide (n ≤ 12)) := by rw [vPlan, hl]
  have Hv := Lib.hid hv
  have Hl := Lib.hid hl
  have Ha := Lib.hid ha
  clear hv hl ha
  go_enter Try.func17, Try.ntmps17
  go_wp2
  go_loop [4] (fun i => ∃ k : Nat, k ≤ n ∧ i = .int .i64 k ∧ Hid (eachIn (xs.take k) 3 60 = true)) (fun i => n - (intOf i).toNat)
  case atStart => exact ⟨0, Nat.zero_le _, rfl, Lib.hid (by simp [eachIn])⟩
  case round =>
    obtain ⟨k, hk, rfl, hR⟩ := hrel
    by_cases hlt : k < n
    · obtain ⟨b, o, x, rfl, hb, hx, Hx⟩ := Ha.out.at hlt
      have hkl : k < xs.length := by have := Hl.out; omega
      have Hkl := Lib.hid hkl
      clear hkl
      cases hin : areSt x
      · go_wp2_with (go_at_call 41; refine (l06Stakes_any _ _).mono ?_; rintro e w' ⟨rfl, rfl⟩)
        go_ret2
        refine ⟨?_, 0, rfl⟩
        rw [show changesR xs = (0, 2) by simp [changesR, Hv.out, eachIn_bad Hkl.out (by rw [← Hx.out]; exact hin)]]; rfl
      · go_wp2_with (go_at_call 41; refine (l06Stakes_any _ _).mono ?_; rintro e w' ⟨rfl, rfl⟩)
        go_round
        case rel => exact ⟨k + 1, by omega, by go_num, Lib.hid (eachIn_take hR.out Hkl.out (by rw [← Hx.out]; exact hin))⟩
        case measure => simp [intOf]; omega
    · have h2 := eachIn_all hR.out (by have := Hl.out; omega)
      by_cases h1 : n ≤ 12
      · have hv2 : vPlan xs = true := by rw [Hv.out, h2]; simp [h1]
        have He := Lib.hid (fun k hk => eachIn_at h2 (k := k) hk)
        have Hb := Lib.hid (changes_bd hv2)
        have HR := Lib.hid (show changesR xs = (changes xs n, 0) by simp [changesR, hv2, Hl.out])
        clear h2 hv2
        go_wp2
        go_loopw [5, 6] (fun q i wr => ∃ k j : Nat, k = j + 1 ∧ (j + 1 ≤ n ∨ j = 0) ∧ i = .int .i64 k ∧ q = .int .i64 (changes xs (j + 1)) ∧ ∃ m, Hid (wr = w.drewN m)) (fun _ i _ => n - (intOf i).toNat)
        case atStart => exact ⟨1, 0, rfl, .inr rfl, rfl, rfl, 0, Lib.hid rfl⟩
        case round =>
          obtain ⟨k', j, hkj, hj, rfl, rfl, m, Hw⟩ := hrel
          by_cases hlt : k' < n
          · have Ha' : RV wr a n c (ints xs) := by rw [Hw.out]; exact Ha.out.drewN m
            obtain ⟨b, o, rfl, hb, hc⟩ := Ha'.cell (by omega)
            clear Ha'
            have e1 := hc j (by omega)
            have e2 := hc k' hlt
            rw [show xs.getD k' 0 = xs.getD (j + 1) 0 by rw [hkj]] at e2
            have b1 := Hb.out (j + 1) (by have := Hl.out; omega)
            have b2 := He.out j (by have := Hl.out; omega)
            have b3 := He.out (j + 1) (by have := Hl.out; omega)
            have Hs := Lib.hid (show changes xs (j + 1 + 1) = changes xs (j + 1) + max (xs.getD j 0 - xs.getD (j + 1) 0) (xs.getD (j + 1) 0 - xs.getD j 0) from rfl)
            clear hc
            have hlt' : (k' : Int) < n := by omega
            have hlj : (j : Int) < n := by omega
            have hkn : j + 1 ≤ n := by omega
            have Hkj := Lib.hid hkj
            generalize changes xs (j + 1) = s at *
            generalize xs.getD j 0 = u at *
            generalize xs.getD (j + 1) 0 = v at *
            have hw1 : IntKind.i64.wrap ((k' : Int) - 1) = (j : Int) := by rw [IntWalk.i64_in _ (by omega)]; omega
            have hw0 := IntWalk.i64_in (j : Int) (by omega)
            clear hkj
            have hw3 := IntWalk.i64_in (v - u) (by omega)
            have hw2 := IntWalk.i64_in (s + max (v - u) (-(v - u))) (by omega)
            go_wp2
            go_quiet ((go_at_call 42; exact Calls.quiet_of_same ((l00Size_any (v - u) _ (by omega) (by omega)).mono fun e w' ⟨h1, h2⟩ => ⟨h1, h2.symm⟩)))
            go_wp2
            go_roundw
            case rel => exact ⟨k' + 1, j + 1, by have := Hkj.out; omega, .inl (by have := Hkj.out; omega), by go_num, by rw [Hs.out, show max (v - u) (-(v - u)) = max (u - v) (v - u) by omega], m + nq, Lib.hid (by rw [Hw.out, World.drewN_drewN])⟩
            case measure => simp [intOf]; omega
          · go_wp2
            go_ret2
            have hfin : changes xs n = changes xs (j + 1) := changes_fin (by omega)
            exact ⟨by rw [HR.out, hfin]; rfl, m, Hw.out⟩
      · have h3 : decide (12 < (n : Int)) = true := by simp; omega
        go_wp2
        go_ret2
        refine ⟨?_, 0, rfl⟩
        rw [show changesR xs = (0, 2) by simp [changesR, Hv.out, h1]]; rfl
end Go.Proofs.Ytkglcfeopicakaa
