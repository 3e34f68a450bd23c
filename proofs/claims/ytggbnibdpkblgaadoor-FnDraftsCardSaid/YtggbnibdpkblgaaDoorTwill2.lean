/-
  Twills, on: validity and sameness, by walks.
-/
import Derived.Test.YtggbnibdpkblgaaDoorTwill
namespace Go.Proofs.YtggbnibdpkblgaaDoor
open Go.RowKit
set_option linter.unusedVariables false

/-! ### same -/
def sameT (xs ys : List Int) (st st' : Int) : Bool := decide (st = st') && decide (xs = ys)

theorem specSameTwill_any (a a' : Option Addr) (n n' c c' : Nat) (xs ys : List Int) (st st' : Int) (w : World) (ha : RV w a n c (ints xs)) (hb : RV w a' n' c' (ints ys)) :
    Calls Tryd.prog 17 #[.agg #[.slice a n c, .int .i64 st], .agg #[.slice a' n' c', .int .i64 st']] w fun e w' => e = .returned (.bool (sameT xs ys st st')) ∧ Below w.heap.size w w' := by
  have hv : sameT xs ys st st' = (decide (st = st') && decide (xs = ys)) := rfl
  have Hv := Lib.hid hv
  have Ha := Lib.hid ((ha.below ((Below.refl _ _).alloc (Nat.le_refl _) (.cells #[.slice a n c, .int .i64 st] 28))).below ((Below.refl _ _).alloc (Nat.le_refl _) (.cells #[.slice a' n' c', .int .i64 st'] 28)))
  have Hb := Lib.hid ((hb.below ((Below.refl _ _).alloc (Nat.le_refl _) (.cells #[.slice a n c, .int .i64 st] 28))).below ((Below.refl _ _).alloc (Nat.le_refl _) (.cells #[.slice a' n' c', .int .i64 st'] 28)))
  clear hv ha hb
  by_cases h : st = st'
  · subst h
    go_enter Tryd.func17, Tryd.ntmps17
    go_wp2_with (go_at_call 50; refine (l00Same_any _ _ _ _ _ _ _ _ _ Ha.out Hb.out).mono ?_; rintro e w' ⟨rfl, q, rfl⟩)
    go_ret
    exact ⟨ret_bool (by rw [Hv.out]; simp), bdrewN (((Below.refl _ _).alloc (Nat.le_refl _) _).alloc (by simp) _) q⟩
  · have hd : (st == st') = false := by simp [h]
    have Hh := Lib.hid h
    clear h
    go_enter Tryd.func17, Tryd.ntmps17
    go_wp2
    go_ret
    exact ⟨ret_bool (by rw [Hv.out]; simp [Hh.out]), ((Below.refl _ _).alloc (Nat.le_refl _) _).alloc (by simp) _⟩

/-! ### validity -/
theorem l00Sum_gen (a : Option Addr) (n c : Nat) (xs : List Int) (w : World) (hb : ∀ k, k ≤ n → 0 ≤ lsum xs k ∧ lsum xs k ≤ 1000000) (ha : RV w a n c (ints xs)) :
    Calls Tryd.prog 65 #[.slice a n c] w fun e w' => e = .returned (.int .i64 (lsum xs n)) ∧ w = w' := by
  have hm := ha.small
  have Hb := Lib.hid hb
  have Ha := Lib.hid ha
  clear ha hb
  go_enter Tryd.func65, Tryd.ntmps65
  go_wp2
  go_loop [3, 4] (fun q i => ∃ k : Nat, k ≤ n ∧ i = .int .i64 k ∧ q = .int .i64 (lsum xs k)) (fun _ i => n - (intOf i).toNat)
  case atStart => exact ⟨0, Nat.zero_le _, rfl, rfl⟩
  case round =>
    obtain ⟨k, hk, rfl, rfl⟩ := hrel
    by_cases hlt : k < n
    · obtain ⟨b, o, rfl, hb, hc⟩ := Ha.out.cell (by omega)
      have e1 := hc k hlt
      clear hc
      have b1 := Hb.out k hk
      have b2 := Hb.out (k + 1) (by omega)
      have Hs := Lib.hid (show lsum xs (k + 1) = lsum xs k + xs.getD k 0 from rfl)
      rw [Hs.out] at b2
      generalize lsum xs k = s at *
      generalize xs.getD k 0 = u at *
      have hw := IntWalk.i64_in (s + u) (by omega)
      go_wp2
      go_round
      case rel => exact ⟨k + 1, by omega, by go_num, by rw [Hs.out]⟩
      case measure => simp [intOf]; omega
    · have hkn : k = n := by omega
      subst hkn
      go_wp2
      go_ret
      exact ⟨rfl, rfl⟩
theorem l09Width_any (b : Nat) (a : Option Addr) (n c : Nat) (xs : List Int) (st : Int) (w : World) (hb : ∀ k, k ≤ n → 0 ≤ lsum xs k ∧ lsum xs k ≤ 1000000) (h : TwAt w b a n c xs st) :
    Calls Tryd.prog 54 #[.pointer (some ⟨b, 0, none⟩)] w fun e w' => e = .returned (.int .i64 (lsum xs n)) ∧ w = w' := by
  obtain ⟨c0, c1, hr⟩ := h
  have Hr := Lib.hid hr
  have Hb := Lib.hid hb
  clear hr hb
  go_enter Tryd.func54, Tryd.ntmps54
  go_wp2_with (go_at_call 65; refine (l00Sum_gen _ _ _ _ _ Hb.out Hr.out).mono ?_; rintro e w' ⟨rfl, rfl⟩)
  go_ret
  exact ⟨rfl, rfl⟩
set_option maxHeartbeats 2000000 in
theorem validTwill_any (a : Option Addr) (n c : Nat) (xs : List Int) (st : Int) (w : World) (ha : RV w a n c (ints xs)) :
    Calls Tryd.prog 36 #[.agg #[.slice a n c, .int .i64 st]] w fun e w' => e = .returned (.bool (vTwill xs st)) ∧ Below w.heap.size w w' := by
  have hl := ha.lenI
  have hm := ha.small
  have Hl := Lib.hid hl
  have Ha := Lib.hid (ha.below ((Below.refl _ _).alloc (Nat.le_refl _) (.cells #[.slice a n c, .int .i64 st] 28)))
  have hB : Below w.heap.size w (w.alloc (.cells #[.slice a n c, .int .i64 st] 28)) := (Below.refl _ _).alloc (Nat.le_refl _) _
  have HB := Lib.hid hB
  clear hl ha hB
  go_enter Tryd.func36, Tryd.ntmps36
  go_wp2
  go_loop [3, 9] (fun q i => ∃ k : Nat, k ≤ n ∧ i = .int .i64 k ∧ ∃ s : Int, q = .int .i64 s ∧ 0 ≤ s ∧ s ≤ 24 ∧ Hid (s = lsum xs k) ∧ Hid (eachIn (xs.take k) 1 12 = true)) (fun _ i => n - (intOf i).toNat)
  case atStart => exact ⟨0, Nat.zero_le _, rfl, 0, rfl, by omega, by omega, Lib.hid rfl, Lib.hid (by simp [eachIn])⟩
  case round =>
    obtain ⟨k, hk, rfl, s, rfl, hs0, hs1, Hs, hR⟩ := hrel
    by_cases hlt : k < n
    · obtain ⟨b, o, x, rfl, hb, hx, Hx⟩ := Ha.out.at hlt
      have hkl : k < xs.length := by have := Hl.out; omega
      have Hkl := Lib.hid hkl
      clear hkl
      cases hin : inB x 1 12
      · have Hf := Lib.hid (show vTwill xs st = false from vTwill_bad (eachIn_bad Hkl.out (by rw [← Hx.out]; exact hin)))
        go_wp2_with (go_at_call 28; refine (within_any _ _ _ _).mono ?_; rintro e w' ⟨rfl, rfl⟩)
        go_ret
        exact ⟨ret_bool Hf.out.symm, HB.out⟩
      · have hxb := inB_iff.1 hin
        by_cases hw : s ≤ 12
        · have hd : decide (12 < s) = false := by simp; omega
          go_wp2_with (go_at_call 28; refine (within_any _ _ _ _).mono ?_; rintro e w' ⟨rfl, rfl⟩)
          go_round
          case rel => exact ⟨k + 1, by omega, by go_num, s + x, rfl, by omega, by omega, Lib.hid (by rw [Hs.out, Hx.out]; rfl), Lib.hid (eachIn_take hR.out Hkl.out (by rw [← Hx.out]; exact hin))⟩
          case measure => simp [intOf]; omega
        · have hd : decide (12 < s) = true := by simp; omega
          have Hf := Lib.hid (show vTwill xs st = false from vTwill_wide (k := k) (by have := Hkl.out; omega) (by rw [← Hs.out]; omega))
          go_wp2_with (go_at_call 28; refine (within_any _ _ _ _).mono ?_; rintro e w' ⟨rfl, rfl⟩)
          go_ret
          exact ⟨ret_bool Hf.out.symm, HB.out⟩
    · have hkn : k = n := by omega
      have h2 := eachIn_all hR.out (by have := Hl.out; omega)
      have hwd : widthT xs = s := by rw [Hs.out, widthT, Hl.out, hkn]
      have Hv := Lib.hid (show vTwill xs st = (decide (2 ≤ n) && decide (n % 2 = 0) && decide (s ≤ 12) && inB st 1 (s - 1)) by rw [vTwill, h2, hwd, Hl.out, Bool.true_and])
      have hws := IntWalk.i64_in (s - 1) (by omega)
      clear h2 hwd hkn
      by_cases h3 : 2 ≤ n
      · have d3 : decide (2 ≤ (n : Int)) = true := by simp; omega
        have d3' : decide (2 ≤ n) = true := by simp [h3]
        by_cases h4 : n % 2 = 0
        · have d4 : (((n : Int) % 2) == 0) = true := by simp; omega
          have d4' : (n % 2 == 0) = true := by simp [h4]
          by_cases h5 : s ≤ 12
          · have d5 : decide (s ≤ 12) = true := by simp [h5]
            have Hvv := Lib.hid (show vTwill xs st = inB st 1 (s - 1) by rw [Hv.out, d3', d5]; simp [h4])
            clear h4
            go_wp2_with (go_at_call 28; refine (within_any _ _ _ _).mono ?_; rintro e w' ⟨rfl, rfl⟩)
            go_ret
            exact ⟨ret_bool Hvv.out.symm, HB.out⟩
          · have d5 : decide (s ≤ 12) = false := by simp; omega
            have Hvv := Lib.hid (show vTwill xs st = false by rw [Hv.out, d5]; simp)
            clear h4
            go_wp2_with fail
            go_ret
            exact ⟨ret_bool Hvv.out.symm, HB.out⟩
        · have d4 : (((n : Int) % 2) == 0) = false := by simp; omega
          have d4' : (n % 2 == 0) = false := by simp [h4]
          have Hvv := Lib.hid (show vTwill xs st = false by rw [Hv.out]; simp [h4])
          clear h4
          go_wp2_with fail
          go_ret
          exact ⟨ret_bool Hvv.out.symm, HB.out⟩
      · have d3 : decide (2 ≤ (n : Int)) = false := by simp; omega
        have d3' : decide (2 ≤ n) = false := by simp [h3]
        have Hvv := Lib.hid (show vTwill xs st = false by rw [Hv.out]; simp [h3])
        go_wp2_with fail
        go_ret
        exact ⟨ret_bool Hvv.out.symm, HB.out⟩
set_option maxHeartbeats 4000000 in
theorem l09Ok_any (b0 : Nat) (a : Option Addr) (n c : Nat) (xs : List Int) (st : Int) (w : World) (h : TwAt w b0 a n c xs st) :
    Calls Tryd.prog 38 #[.pointer (some ⟨b0, 0, none⟩)] w fun e w' => e = .returned (.bool (vTwill xs st)) ∧ ∃ q, w' = w.drewN q := by
  obtain ⟨c0, c1, hr⟩ := h
  have hl := hr.lenI
  have hm := hr.small
  have Hl := Lib.hid hl
  have Ha := Lib.hid hr
  have HT := Lib.hid (show TwAt w b0 a n c xs st from ⟨c0, c1, hr⟩)
  clear hl hr
  go_enter Tryd.func38, Tryd.ntmps38
  go_wp2
  go_loop [3] (fun i => ∃ k : Nat, k ≤ n ∧ i = .int .i64 k ∧ Hid (eachIn (xs.take k) 1 12 = true)) (fun i => n - (intOf i).toNat)
  case atStart => exact ⟨0, Nat.zero_le _, rfl, Lib.hid (by simp [eachIn])⟩
  case round =>
    obtain ⟨k, hk, rfl, hR⟩ := hrel
    by_cases hlt : k < n
    · obtain ⟨b, o, x, rfl, hb, hx, Hx⟩ := Ha.out.at hlt
      have hkl : k < xs.length := by have := Hl.out; omega
      have Hkl := Lib.hid hkl
      clear hkl
      cases hin : inB x 1 12
      · have Hf := Lib.hid (show vTwill xs st = false from vTwill_bad (eachIn_bad Hkl.out (by rw [← Hx.out]; exact hin)))
        go_wp2_with (go_at_call 32; refine (l00In_any _ _ _ _).mono ?_; rintro e w' ⟨rfl, rfl⟩)
        go_ret
        exact ⟨ret_bool Hf.out.symm, 0, rfl⟩
      · go_wp2_with (go_at_call 32; refine (l00In_any _ _ _ _).mono ?_; rintro e w' ⟨rfl, rfl⟩)
        go_round
        case rel => exact ⟨k + 1, by omega, by go_num, Lib.hid (eachIn_take hR.out Hkl.out (by rw [← Hx.out]; exact hin))⟩
        case measure => simp [intOf]; omega
    · have hkn : k = n := by omega
      have h2 := eachIn_all hR.out (by have := Hl.out; omega)
      have hbd := lsum_bd h2
      obtain ⟨s, Hs⟩ : ∃ s, Hid (s = lsum xs n) := ⟨_, rfl⟩
      have hwd : widthT xs = s := by rw [Hs.out, widthT, Hl.out]
      have Hv := Lib.hid (show vTwill xs st = (decide (2 ≤ n) && decide (n % 2 = 0) && decide (s ≤ 12) && inB st 1 (s - 1)) by rw [vTwill, h2, hwd, Hl.out, Bool.true_and])
      have hs0 := hbd n (by have := Hl.out; omega)
      rw [← Hs.out] at hs0
      have Hbd := Lib.hid hbd
      have Hlen := Lib.hid (show n ≤ xs.length by have := Hl.out; omega)
      clear h2 hwd hkn hbd
      by_cases h3 : 2 ≤ n
      · have d3 : decide (2 ≤ (n : Int)) = true := by simp; omega
        have d3' : decide (2 ≤ n) = true := by simp [h3]
        by_cases h6 : n ≤ 12
        · have d6 : decide ((n : Int) ≤ 12) = true := by simp; omega
          have d6' : decide (n ≤ 12) = true := by simp [h6]
          have hws := IntWalk.i64_in (s - 1) (by omega)
          have Hwd := Lib.hid (fun W (hW : TwAt W b0 a n c xs st) => by
            have hh := l09Width_any b0 a n c xs st W (fun k hk => by have := Hbd.out k (by have := Hlen.out; omega); omega) hW
            rw [← Hs.out] at hh
            exact hh)
          by_cases h4 : n % 2 = 0
          · have d4 : (((n : Int) % 2) == 0) = true := by simp; omega
            have d4' : (n % 2 == 0) = true := by simp [h4]
            by_cases h5 : s ≤ 12
            · have d5 : decide (s ≤ 12) = true := by simp [h5]
              have Hvv := Lib.hid (show vTwill xs st = inB st 1 (s - 1) by rw [Hv.out, d3', d5]; simp [h4])
              clear h4
              go_wp2
              go_quiet ((first | (go_at_call 54; exact Calls.quiet_of_same ((Hwd.out _ (by exact HT.out)).mono fun e w' ⟨h1, h2⟩ => ⟨h1, h2.symm⟩)) | (go_at_call 32; exact Calls.quiet_of_same ((l00In_any _ _ _ _).mono fun e w' ⟨h1, h2⟩ => ⟨h1, h2.symm⟩))))
              go_wp2
              go_ret
              exact ⟨ret_bool Hvv.out.symm, _, rfl⟩
            · have d5 : decide (s ≤ 12) = false := by simp; omega
              have Hvv := Lib.hid (show vTwill xs st = false by rw [Hv.out, d5]; simp)
              clear h4
              go_wp2
              go_quiet ((first | (go_at_call 54; exact Calls.quiet_of_same ((Hwd.out _ (by exact HT.out)).mono fun e w' ⟨h1, h2⟩ => ⟨h1, h2.symm⟩)) | (go_at_call 32; exact Calls.quiet_of_same ((l00In_any _ _ _ _).mono fun e w' ⟨h1, h2⟩ => ⟨h1, h2.symm⟩))))
              go_wp2
              go_ret
              exact ⟨ret_bool Hvv.out.symm, _, rfl⟩
          · have d4 : (((n : Int) % 2) == 0) = false := by simp; omega
            have d4' : (n % 2 == 0) = false := by simp [h4]
            have Hvv := Lib.hid (show vTwill xs st = false by rw [Hv.out]; simp [h4])
            clear h4
            go_wp2
            go_quiet (fail)
            go_wp2
            go_ret
            exact ⟨ret_bool Hvv.out.symm, _, rfl⟩
        · have d6 : decide ((n : Int) ≤ 12) = false := by simp; omega
          have d6' : decide (n ≤ 12) = false := by simp [h6]
          have d5 : decide (s ≤ 12) = false := by simp; omega
          have Hvv := Lib.hid (show vTwill xs st = false by rw [Hv.out, d5]; simp)
          clear d5
          go_wp2
          go_quiet (fail)
          go_wp2
          go_ret
          exact ⟨ret_bool Hvv.out.symm, _, rfl⟩
      · have d3 : decide (2 ≤ (n : Int)) = false := by simp; omega
        have d3' : decide (2 ≤ n) = false := by simp [h3]
        have Hvv := Lib.hid (show vTwill xs st = false by rw [Hv.out]; simp [h3])
        go_wp2
        go_quiet (fail)
        go_wp2
        go_ret
        exact ⟨ret_bool Hvv.out.symm, _, rfl⟩
end Go.Proofs.YtggbnibdpkblgaaDoor
