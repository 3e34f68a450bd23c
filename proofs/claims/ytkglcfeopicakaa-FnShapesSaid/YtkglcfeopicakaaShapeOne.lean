/-
  Shapes, on: one number of stakes for all levels.
-/
import Derived.Test.YtkglcfeopicakaaShapeRng
namespace Go.Proofs.Ytkglcfeopicakaa
open Go.RowKit
set_option linter.unusedVariables false

def shCode (l : List Int) (low high : Int) : Int := if vShape l then if apart low high then 0 else 2 else 1

theorem shapeCode_any (a : Option Addr) (n c : Nat) (xs : List Int) (low high : Int) (w : World) (ha : RV w a n c (ints xs)) :
    Calls Try.prog 26 #[.slice a n c, .int .i64 low, .int .i64 high] w fun e w' => e = .returned (.int .i64 (shCode xs low high)) ∧ w = w' := by
  cases hv : vShape xs
  · rw [show shCode xs low high = 1 by simp [shCode, hv]]
    go_enter Try.func26, Try.ntmps26
    go_wp2_with (go_at_call 34; refine (validShape_any _ _ _ _ _ ha).mono ?_; rintro e w' ⟨rfl, rfl⟩)
    go_ret
    exact ⟨rfl, rfl⟩
  · cases hp : apart low high
    · rw [show shCode xs low high = 2 by simp [shCode, hv, hp]]
      go_enter Try.func26, Try.ntmps26
      go_wp2_with (first | (go_at_call 34; refine (validShape_any _ _ _ _ _ ha).mono ?_; rintro e w' ⟨rfl, rfl⟩) | (go_at_call 33; refine (areApart_any _ _ _).mono ?_; rintro e w' ⟨rfl, rfl⟩))
      go_ret
      exact ⟨rfl, rfl⟩
    · rw [show shCode xs low high = 0 by simp [shCode, hv, hp]]
      go_enter Try.func26, Try.ntmps26
      go_wp2_with (first | (go_at_call 34; refine (validShape_any _ _ _ _ _ ha).mono ?_; rintro e w' ⟨rfl, rfl⟩) | (go_at_call 33; refine (areApart_any _ _ _).mono ?_; rintro e w' ⟨rfl, rfl⟩))
      go_ret
      exact ⟨rfl, rfl⟩

theorem l08Code_any (a : Option Addr) (n c : Nat) (xs : List Int) (low high : Int) (w : World) (ha : RV w a n c (ints xs)) :
    Calls Try.prog 43 #[.slice a n c, .int .i64 low, .int .i64 high] w fun e w' => e = .returned (.int .i64 (shCode xs low high)) ∧ w = w' := by
  cases hv : vShape xs
  · rw [show shCode xs low high = 1 by simp [shCode, hv]]
    go_enter Try.func43, Try.ntmps43
    go_wp2_with (go_at_call 52; refine (l08Ok_any _ _ _ _ _ ha).mono ?_; rintro e w' ⟨rfl, rfl⟩)
    go_ret
    exact ⟨rfl, rfl⟩
  · cases hp : apart low high
    · rw [show shCode xs low high = 2 by simp [shCode, hv, hp]]
      go_enter Try.func43, Try.ntmps43
      go_wp2_with (first | (go_at_call 52; refine (l08Ok_any _ _ _ _ _ ha).mono ?_; rintro e w' ⟨rfl, rfl⟩) | (go_at_call 53; refine (l08Apart_any _ _ _).mono ?_; rintro e w' ⟨rfl, rfl⟩))
      go_ret
      exact ⟨rfl, rfl⟩
    · rw [show shCode xs low high = 0 by simp [shCode, hv, hp]]
      go_enter Try.func43, Try.ntmps43
      go_wp2_with (first | (go_at_call 52; refine (l08Ok_any _ _ _ _ _ ha).mono ?_; rintro e w' ⟨rfl, rfl⟩) | (go_at_call 53; refine (l08Apart_any _ _ _).mono ?_; rintro e w' ⟨rfl, rfl⟩))
      go_ret
      exact ⟨rfl, rfl⟩

/-- a number of stakes is good for a circumference -/
def goodB (around n low high : Int) : Bool := decide (low * n ≤ around) && decide (around ≤ high * n)
theorem goodB_iff {around n low high : Int} (h1 : 1 ≤ around) (h2 : around ≤ 5000) (hl : 1 ≤ low) (hh : 1 ≤ high) (hn : 3 ≤ n) (hn' : n ≤ 60) : goodB around n low high = true ↔ leastOf around high ≤ n ∧ n ≤ mostOf around low := by
  unfold goodB leastOf mostOf
  simp only [Bool.and_eq_true, decide_eq_true_eq]
  have e1 : low * n ≤ around ↔ n ≤ around / low := by
    rw [Int.le_ediv_iff_mul_le (by omega), Int.mul_comm]
  have e2 : around ≤ high * n ↔ (around + high - 1) / high ≤ n := by
    constructor
    · intro h
      have : (around + high - 1) / high < n + 1 := by
        rw [Int.ediv_lt_iff_lt_mul (by omega)]
        have : (n + 1) * high = high * n + high := by rw [Int.add_mul, Int.one_mul, Int.mul_comm]
        omega
      omega
    · intro h
      have : (around + high - 1) / high < n + 1 := by omega
      rw [Int.ediv_lt_iff_lt_mul (by omega)] at this
      have e : (n + 1) * high = high * n + high := by rw [Int.add_mul, Int.one_mul, Int.mul_comm]
      omega
  rw [e1, e2]
  omega

theorem l08Good_any (around n low high : Int) (w : World) (h1 : 1 ≤ low) (h2 : low ≤ 200) (h3 : 1 ≤ high) (h4 : high ≤ 200) (h5 : 0 ≤ n) (h6 : n ≤ 60) :
    Calls Try.prog 44 #[.int .i64 around, .int .i64 n, .int .i64 low, .int .i64 high] w fun e w' => e = .returned (.bool (goodB around n low high)) ∧ w = w' := by
  have b1 : low * n ≤ 200 * 60 := Int.mul_le_mul h2 h6 h5 (by omega)
  have b2 : high * n ≤ 200 * 60 := Int.mul_le_mul h4 h6 h5 (by omega)
  have b3 : 0 ≤ low * n := Int.mul_nonneg (by omega) h5
  have b4 : 0 ≤ high * n := Int.mul_nonneg (by omega) h5
  have e : goodB around n low high = (decide (low * n ≤ around) && decide (around ≤ high * n)) := rfl
  have w1 := IntWalk.i64_in (low * n) (by omega)
  have w2 := IntWalk.i64_in (high * n) (by omega)
  generalize goodB around n low high = G at *
  have E := Lib.hid e
  clear e
  cases d1 : decide (low * n ≤ around) <;> cases d2 : decide (around ≤ high * n)
  all_goals
    go_enter Try.func44, Try.ntmps44
    go_wp2
    go_ret
    exact ⟨ret_bool (by rw [E.out, d1, d2]; rfl), rfl⟩

/-! ### one number for all levels -/
def leastTo (l : List Int) (high : Int) : Nat → Int
  | 0 => 3
  | k + 1 => max (leastTo l high k) (leastOf (l.getD k 0) high)
def mostTo (l : List Int) (low : Int) : Nat → Int
  | 0 => 60
  | k + 1 => min (mostTo l low k) (mostOf (l.getD k 0) low)
def oneR (l : List Int) (low high : Int) : Int × Int :=
  if shCode l low high = 0 then if leastTo l high l.length > mostTo l low l.length then (0, 3) else (leastTo l high l.length, 0) else (0, shCode l low high)
theorem leastTo_ge (l : List Int) (high : Int) : ∀ k, 3 ≤ leastTo l high k := by
  intro k; induction k with
  | zero => exact Int.le_refl _
  | succ k ih => simp only [leastTo]; omega
theorem mostTo_le (l : List Int) (low : Int) : ∀ k, mostTo l low k ≤ 60 := by
  intro k; induction k with
  | zero => exact Int.le_refl _
  | succ k ih => simp only [mostTo]; omega
theorem shCode_ok {l : List Int} {low high : Int} (h : shCode l low high = 0) : vShape l = true ∧ apart low high = true := by
  unfold shCode at h
  split at h
  · split at h
    · exact ⟨by assumption, by assumption⟩
    · omega
  · omega
/-- n is good for the first k levels -/
def goodTo (l : List Int) (n low high : Int) (k : Nat) : Bool := (l.take k).all fun x => goodB x n low high
theorem goodTo_step {l : List Int} {n low high : Int} {k : Nat} (hk : k < l.length) : goodTo l n low high (k + 1) = (goodTo l n low high k && goodB (l.getD k 0) n low high) := by
  unfold goodTo
  rw [take_snoc' (d := 0) hk, List.all_append]
  simp
theorem goodTo_iff {l : List Int} {low high : Int} (hv : vShape l = true) (hp : apart low high = true) {n : Int} (h3 : 3 ≤ n) (h60 : n ≤ 60) : ∀ k, k ≤ l.length → (goodTo l n low high k = true ↔ leastTo l high k ≤ n ∧ n ≤ mostTo l low k) := by
  obtain ⟨⟨b1, b2⟩, b3, b4⟩ := apart_iff.1 hp
  intro k
  induction k with
  | zero => intro _; simp [goodTo, leastTo, mostTo, h3, h60]
  | succ k ih =>
    intro hk
    have hx := vShape_at hv (k := k) (by omega)
    rw [goodTo_step (by omega), Bool.and_eq_true, ih (by omega), goodB_iff hx.1 hx.2 b1 (by omega) h3 h60]
    simp only [leastTo, mostTo]
    omega

theorem oneNumber_any (a : Option Addr) (n c : Nat) (xs : List Int) (low high : Int) (w : World) (ha : RV w a n c (ints xs)) :
    Calls Try.prog 10 #[.slice a n c, .int .i64 low, .int .i64 high] w fun e w' => e = rt2 (oneR xs low high) ∧ ∃ m, w' = w.drewN m := by
  have Ha := Lib.hid ha
  have Hl := Lib.hid ha.lenI
  have hm := ha.small
  by_cases hc : shCode xs low high = 0
  · obtain ⟨hv, hp⟩ := shCode_ok hc
    have HR := Lib.hid (show oneR xs low high = if leastTo xs high n > mostTo xs low n then (0, 3) else (leastTo xs high n, 0) by simp [oneR, hc, ha.lenI])
    obtain ⟨⟨b1, b2⟩, b3, b4⟩ := apart_iff.1 hp
    have Hx := Lib.hid (fun k (hk : k < n) => vShape_at hv (k := k) (by rw [ha.lenI]; exact hk))
    have Hsr := Lib.hid (fun x W h1 h2 => stakesRange_any x low high W h1 h2 b1 b2 b3 b4)
    clear ha
    go_enter Try.func10, Try.ntmps10
    go_wp2_with (go_at_call 26; refine (shapeCode_any _ _ _ _ _ _ _ Ha.out).mono ?_; rw [hc]; rintro e w' ⟨rfl, rfl⟩)
    go_loopw [9, 10, 24] (fun p q i wr => ∃ k : Nat, k ≤ n ∧ i = .int .i64 k ∧ p = .int .i64 (leastTo xs high k) ∧ q = .int .i64 (mostTo xs low k) ∧ ∃ m, Hid (wr = w.drewN m)) (fun _ _ i _ => n - (intOf i).toNat)
    case atStart => exact ⟨0, Nat.zero_le _, rfl, rfl, rfl, 0, rfl⟩
    case round =>
      obtain ⟨k, hk, rfl, rfl, rfl, m, Hw⟩ := hrel
      by_cases hlt : k < n
      · have Ha' : RV wr a n c (ints xs) := by rw [Hw.out]; exact Ha.out.drewN m
        obtain ⟨b, o, rfl, hb, hcc⟩ := Ha'.cell (by omega)
        have e1 := hcc k hlt
        have bx := Hx.out k hlt
        clear Ha' hcc
        have hs1 := Lib.hid (show leastTo xs high (k + 1) = max (leastTo xs high k) (leastOf (xs.getD k 0) high) from rfl)
        have hs2 := Lib.hid (show mostTo xs low (k + 1) = min (mostTo xs low k) (mostOf (xs.getD k 0) low) from rfl)
        generalize xs.getD k 0 = u at *
        go_wp2_with (go_at_call 28; refine (Hsr.out _ _ bx.1 bx.2).mono ?_; rintro e w' ⟨rfl, m2, rfl⟩)
        go_roundw
        case rel => exact ⟨k + 1, by omega, by go_num, by rw [hs1.out], by rw [hs2.out], m + m2, Lib.hid (by rw [Hw.out, World.drewN_drewN])⟩
        case measure => simp [intOf]; omega
      · have hkn : k = n := by omega
        subst hkn
        by_cases hlm : leastTo xs high k > mostTo xs low k
        · have e1 := HR.out
          rw [if_pos hlm] at e1
          generalize leastTo xs high k = L at *
          generalize mostTo xs low k = M at *
          go_wp2
          go_ret2
          first | exact ⟨rfl, m, Hw.out⟩ | exact ⟨by rw [e1]; rfl, m, Hw.out⟩
        · have e1 := HR.out
          rw [if_neg hlm] at e1
          generalize leastTo xs high k = L at *
          generalize mostTo xs low k = M at *
          go_wp2
          go_ret2
          first | exact ⟨rfl, m, Hw.out⟩ | exact ⟨by rw [e1]; rfl, m, Hw.out⟩
  · rw [show oneR xs low high = (0, shCode xs low high) by simp [oneR, hc]]
    clear ha
    go_enter Try.func10, Try.ntmps10
    go_wp2_with (go_at_call 26; refine (shapeCode_any _ _ _ _ _ _ _ Ha.out).mono ?_; rintro e w' ⟨rfl, rfl⟩)
    go_ret2
    exact ⟨rfl, 0, rfl⟩
end Go.Proofs.Ytkglcfeopicakaa
