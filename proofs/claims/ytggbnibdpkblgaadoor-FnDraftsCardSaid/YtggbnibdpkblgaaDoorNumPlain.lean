/-
  Greatest common divisors and fractions in lowest terms, plainly, and the functions that compute them.
-/
import Derived.Test.YtggbnibdpkblgaaDoorCore
namespace Go.Proofs.YtggbnibdpkblgaaDoor
open Go.RowKit
set_option linter.unusedVariables false

def gcdI (a b : Int) : Int := (Nat.gcd a.toNat b.toNat : Nat)
theorem gcdI_zero {a : Int} (h : 0 ≤ a) : gcdI a 0 = a := by simp [gcdI]; omega
theorem gcdI_step {x y : Int} (hx : 0 ≤ x) (hy : 0 < y) : gcdI x y = gcdI y (x % y) := by
  unfold gcdI
  obtain ⟨a, rfl⟩ := Int.eq_ofNat_of_zero_le hx
  obtain ⟨b, rfl⟩ := Int.eq_ofNat_of_zero_le (Int.le_of_lt hy)
  have : ((a : Int) % (b : Int)).toNat = a % b := by omega
  rw [this, Int.toNat_natCast, Int.toNat_natCast, Nat.gcd_comm b, ← Nat.gcd_rec, Nat.gcd_comm]
theorem gcdI_pos {x y : Int} (hx : 0 ≤ x) (hy : 0 < y) : 1 ≤ gcdI x y ∧ gcdI x y ≤ y := by
  unfold gcdI
  have h1 : 0 < y.toNat := by omega
  have h2 := Nat.gcd_pos_of_pos_right x.toNat h1
  have h3 := Nat.le_of_dvd h1 (Nat.gcd_dvd_right x.toNat y.toNat)
  omega
theorem gcdI_dvd {x y : Int} (hx : 0 ≤ x) (hy : 0 ≤ y) : gcdI x y ∣ x ∧ gcdI x y ∣ y := by
  obtain ⟨a, rfl⟩ := Int.eq_ofNat_of_zero_le hx
  obtain ⟨b, rfl⟩ := Int.eq_ofNat_of_zero_le hy
  simp only [gcdI, Int.toNat_natCast]
  exact ⟨Int.natCast_dvd_natCast.2 (Nat.gcd_dvd_left a b), Int.natCast_dvd_natCast.2 (Nat.gcd_dvd_right a b)⟩
/-- a fraction in lowest terms -/
def lowN (a b : Int) : Int := a / gcdI a b
def lowD (a b : Int) : Int := b / gcdI a b
theorem low_mul {a b : Int} (ha : 0 ≤ a) (hb : 0 < b) : lowN a b * gcdI a b = a ∧ lowD a b * gcdI a b = b :=
  ⟨Int.ediv_mul_cancel (gcdI_dvd ha (Int.le_of_lt hb)).1, Int.ediv_mul_cancel (gcdI_dvd ha (Int.le_of_lt hb)).2⟩
theorem low_cross {a b : Int} (ha : 0 ≤ a) (hb : 0 < b) : lowN a b * b = a * lowD a b := by
  obtain ⟨h1, h2⟩ := low_mul ha hb
  calc lowN a b * b = lowN a b * (lowD a b * gcdI a b) := by rw [h2]
    _ = (lowN a b * gcdI a b) * lowD a b := by rw [Int.mul_comm (lowD a b), Int.mul_assoc]
    _ = a * lowD a b := by rw [h1]
theorem lowD_bd {a b : Int} (ha : 0 ≤ a) (hb : 0 < b) : 1 ≤ lowD a b ∧ lowD a b ≤ b := by
  have hg := gcdI_pos ha hb
  have hm := (low_mul ha hb).2
  have h0 : 0 ≤ lowD a b := Int.ediv_nonneg (by omega) (by omega)
  constructor
  · rcases Int.lt_or_le 0 (lowD a b) with h | h
    · omega
    · have : lowD a b = 0 := by omega
      rw [this] at hm; omega
  · have := Int.mul_le_mul_of_nonneg_left hg.1 h0
    omega
theorem lowN_bd {a b : Int} (ha : 0 ≤ a) (hb : 0 < b) : 0 ≤ lowN a b ∧ lowN a b ≤ a := by
  have hg := gcdI_pos ha hb
  have hm := (low_mul ha hb).1
  have h0 : 0 ≤ lowN a b := Int.ediv_nonneg ha (by omega)
  refine ⟨h0, ?_⟩
  have := Int.mul_le_mul_of_nonneg_left hg.1 h0
  omega

theorem l00Gcd_any (a b : Int) (w : World) (ha : 0 ≤ a) (ha' : a ≤ 4611686018427387904) (hb : 0 ≤ b) (hb' : b ≤ 4611686018427387904) :
    Calls Tryd.prog 63 #[.int .i64 a, .int .i64 b] w fun e w' => e = .returned (.int .i64 (gcdI a b)) ∧ w = w' := by
  go_enter Tryd.func63, Tryd.ntmps63
  go_wp2
  go_loop [0, 1] (fun u v => ∃ x y : Int, u = .int .i64 x ∧ v = .int .i64 y ∧ 0 ≤ x ∧ x ≤ 4611686018427387904 ∧ 0 ≤ y ∧ y ≤ 4611686018427387904 ∧ Hid (gcdI a b = gcdI x y)) (fun _ v => (intOf v).toNat)
  case atStart => exact ⟨a, b, rfl, rfl, ha, ha', hb, hb', rfl⟩
  case round =>
    obtain ⟨x, y, rfl, rfl, hx, hx', hy, hy', hg⟩ := hrel
    by_cases h0 : y = 0
    · subst h0
      go_wp2
      go_ret
      exact ⟨ret_int (hg.out.trans (gcdI_zero hx)).symm, rfl⟩
    · have h1 := Int.emod_nonneg x h0
      have h2 := Int.emod_lt_of_pos x (show 0 < y by omega)
      have hst := Lib.hid (gcdI_step hx (show 0 < y by omega))
      have hne : (y != 0) = true := by simp [h0]
      go_wp2
      go_round
      case rel => exact ⟨_, _, rfl, rfl, hy, hy', h1, by omega, hg.out.trans hst.out⟩
      case measure => simp [intOf]; omega

theorem divisor_any (a b : Int) (w : World) (ha : 0 ≤ a) (ha' : a ≤ 4611686018427387904) (hb : 0 ≤ b) (hb' : b ≤ 4611686018427387904) :
    Calls Tryd.prog 53 #[.int .i64 a, .int .i64 b] w fun e w' => e = .returned (.int .i64 (gcdI a b)) ∧ ∃ m, w' = w.drewN m := by
  go_enter Tryd.func53, Tryd.ntmps53
  go_wp2
  go_loopw [0, 1] (fun u v wr => ∃ x y : Int, u = .int .i64 x ∧ v = .int .i64 y ∧ 0 ≤ x ∧ x ≤ 4611686018427387904 ∧ 0 ≤ y ∧ y ≤ 4611686018427387904 ∧ Hid (gcdI a b = gcdI x y) ∧ Hid (∃ m, wr = w.drewN m)) (fun _ v _ => (intOf v).toNat)
  case atStart => exact ⟨a, b, rfl, rfl, ha, ha', hb, hb', rfl, 0, rfl⟩
  case round =>
    obtain ⟨x, y, rfl, rfl, hx, hx', hy, hy', hg, hw⟩ := hrel
    by_cases h0 : y = 0
    · subst h0
      go_wp2
      go_ret
      exact ⟨ret_int (hg.out.trans (gcdI_zero hx)).symm, hw.out⟩
    · have h1 := Int.emod_nonneg x h0
      have h2 := Int.emod_lt_of_pos x (show 0 < y by omega)
      have hst := Lib.hid (gcdI_step hx (show 0 < y by omega))
      have hne : (y != 0) = true := by simp [h0]
      have hne' : (y == 0) = false := by simp [h0]
      go_wp2
      go_quiet (fail)
      go_wp2
      go_roundw
      case rel =>
        refine ⟨_, _, rfl, rfl, hy, hy', h1, by omega, hg.out.trans hst.out, ?_⟩
        obtain ⟨m, rfl⟩ := hw.out
        exact ⟨_, World.drewN_drewN _ _ _⟩
      case measure => simp [intOf]; omega

theorem l00Size_any (a : Int) (w : World) (ha : -4611686018427387904 ≤ a) (ha' : a ≤ 4611686018427387904) : Calls Tryd.prog 64 #[.int .i64 a] w fun e w' => e = .returned (.int .i64 (max a (-a))) ∧ w = w' := by
  by_cases h : a < 0
  all_goals
    go_enter Tryd.func64, Tryd.ntmps64
    go_wp2
    go_ret
    exact ⟨ret_int (by omega), rfl⟩

theorem l02Make_exact (a b : Int) (w : World) (ha : 0 ≤ a) (ha' : a ≤ 4611686018427387904) (hb : 1 ≤ b) (hb' : b ≤ 4611686018427387904) :
    Calls Tryd.prog 43 #[.int .i64 a, .int .i64 b] w fun e w' => e = .returned (.agg #[.int .i64 (lowN a b), .int .i64 (lowD a b)]) ∧ ∃ m, w' = (w.alloc (.cells #[.int .i64 (lowN a b), .int .i64 (lowD a b)] 35)).drewN m := by
  have hm : max a (-a) = a := by omega
  have hg := gcdI_pos ha (show 0 < b by omega)
  have hN : lowN a b = a / gcdI a b := rfl
  have hD : lowD a b = b / gcdI a b := rfl
  have hNb := lowN_bd ha (show 0 < b by omega)
  have hDb := lowD_bd ha (show 0 < b by omega)
  rw [hN] at hNb
  rw [hD] at hDb
  have HN := Lib.hid hN
  have HD := Lib.hid hD
  clear hN hD
  generalize lowN a b = N at *
  generalize lowD a b = D at *
  have Hsz := Lib.hid (fun w => (l00Size_any a w (by omega) ha').mono fun e w' h => (⟨h.1.trans (by rw [hm]), h.2⟩ : e = .returned (.int .i64 a) ∧ w = w'))
  have Hgc := Lib.hid (fun w => l00Gcd_any a b w ha ha' (by omega) hb')
  clear hm
  generalize gcdI a b = G at *
  go_enter Tryd.func43, Tryd.ntmps43
  go_wp2_with (first | (go_at_call 64; refine (Hsz.out _).mono ?_; rintro e w1 ⟨rfl, rfl⟩) | (go_at_call 63; refine (Hgc.out _).mono ?_; rintro e w1 ⟨rfl, rfl⟩))
  go_region
  go_wp2
  go_returns
  rw [HN.out, HD.out]
  exact ⟨rfl, 1, rfl⟩

theorem lowest_exact (a b : Int) (w : World) (ha : 0 ≤ a) (ha' : a ≤ 4611686018427387904) (hb : 1 ≤ b) (hb' : b ≤ 4611686018427387904) :
    Calls Tryd.prog 41 #[.int .i64 a, .int .i64 b] w fun e w' => e = .returned (.agg #[.int .i64 (lowN a b), .int .i64 (lowD a b)]) ∧ ∃ m, w' = (w.alloc (.cells #[.int .i64 (lowN a b), .int .i64 (lowD a b)] 35)).drewN m := by
  have hg := gcdI_pos ha (show 0 < b by omega)
  have hN : lowN a b = a / gcdI a b := rfl
  have hD : lowD a b = b / gcdI a b := rfl
  have hNb := lowN_bd ha (show 0 < b by omega)
  have hDb := lowD_bd ha (show 0 < b by omega)
  rw [hN] at hNb
  rw [hD] at hDb
  have HN := Lib.hid hN
  have HD := Lib.hid hD
  clear hN hD
  generalize lowN a b = N at *
  generalize lowD a b = D at *
  have Hgc := Lib.hid (fun w => divisor_any a b w ha ha' (by omega) hb')
  generalize gcdI a b = G at *
  by_cases hz : a < -a
  · omega
  · go_enter Tryd.func41, Tryd.ntmps41
    go_wp2_with (go_at_call 53; refine (Hgc.out _).mono ?_; rintro e w1 ⟨rfl, m, rfl⟩)
    go_region
    go_wp2
    go_returns
    rw [HN.out, HD.out]
    exact ⟨rfl, _, rfl⟩
end Go.Proofs.YtggbnibdpkblgaaDoor
