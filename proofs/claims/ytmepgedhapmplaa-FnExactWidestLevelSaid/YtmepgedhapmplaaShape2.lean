/-
  Shapes, on: the widest level, turned, levels between: plainly, and by walks.
-/
import Derived.Test.YtmepgedhapmplaaShape
import Derived.Test.YtmepgedhapmplaaSlicesK
import Derived.StillTailTactics
namespace Go.Proofs.Ytmepgedhapmplaa
open Go.RowKit
set_option linter.unusedVariables false

/-! ### the widest level -/
def widestR (l : List Int) : Int × Int × Int := if vShape l then (indexF l (maxTo l (l.length - 1)) 0, maxTo l (l.length - 1), 0) else (0, 0, 1)
/-- b is the first place of the greatest of the first k + 1 -/
def FirstMax (l : List Int) (k b : Nat) : Prop := b ≤ k ∧ l.getD b 0 = maxTo l k ∧ ∀ i, i < b → l.getD i 0 < l.getD b 0
theorem maxTo_ge (l : List Int) : ∀ k i, i ≤ k → l.getD i 0 ≤ maxTo l k := by
  intro k
  induction k with
  | zero => intro i hi; obtain rfl : i = 0 := by omega
            exact Int.le_refl _
  | succ k ih =>
    intro i hi
    simp only [maxTo]
    by_cases h : i = k + 1
    · subst h; omega
    · have := ih i (by omega); omega
theorem firstMax_zero (l : List Int) : FirstMax l 0 0 := ⟨Nat.le_refl _, rfl, fun i hi => by omega⟩
theorem firstMax_more {l : List Int} {k b : Nat} (h : FirstMax l k b) (hx : l.getD b 0 < l.getD (k + 1) 0) : FirstMax l (k + 1) (k + 1) := by
  refine ⟨Nat.le_refl _, ?_, fun i hi => ?_⟩
  · simp only [maxTo]; have := h.2.1; omega
  · have := maxTo_ge l k i (by omega); have := h.2.1; omega
theorem firstMax_less {l : List Int} {k b : Nat} (h : FirstMax l k b) (hx : ¬ l.getD b 0 < l.getD (k + 1) 0) : FirstMax l (k + 1) b := by
  refine ⟨by have := h.1; omega, ?_, h.2.2⟩
  simp only [maxTo]; have := h.2.1; omega
theorem firstMax_idx {l : List Int} {k b : Nat} (h : FirstMax l k b) (hk : k < l.length) : indexF l (maxTo l k) 0 = b := by
  obtain ⟨h1, h2, h3⟩ := h
  have hn : ∀ j, j ≤ b → noIdx l (maxTo l k) j := by
    intro j
    induction j with
    | zero => intro _; rfl
    | succ j ih => intro hj; exact noIdx_step (ih (by omega)) (by omega) (by have := h3 j (by omega); omega)
  exact noIdx_hit (hn b (Nat.le_refl _)) (by omega) h2.symm

theorem widestLevel_any (a : Option Addr) (n c : Nat) (xs : List Int) (w : World) (ha : RV w a n c (ints xs)) :
    Calls Try.prog 29 #[.slice a n c] w fun e w' => e = rt3 (widestR xs) ∧ w = w' := by
  have Ha := Lib.hid ha
  cases hv : vShape xs
  · rw [show widestR xs = (0, 0, 1) by simp [widestR, hv]]
    clear ha
    go_enter Try.func29, Try.ntmps29
    go_wp2_with (go_at_call 16; refine (validShape_any _ _ _ _ _ Ha.out).mono ?_; rintro e w' ⟨rfl, rfl⟩)
    go_ret3
    exact ⟨rfl, rfl⟩
  · rw [show widestR xs = (indexF xs (maxTo xs (n - 1)) 0, maxTo xs (n - 1), 0) by simp [widestR, hv, ha.lenI]]
    obtain ⟨_, h1, h2⟩ := vShape_iff.1 hv
    rw [ha.lenI] at h1 h2
    clear ha
    go_enter Try.func29, Try.ntmps29
    go_wp2_with (first | (go_at_call 16; refine (validShape_any _ _ _ _ _ Ha.out).mono ?_; rintro e w' ⟨rfl, rfl⟩) | (go_at_call 61; refine (slMax_any _ _ _ _ _ h1 Ha.out).mono ?_; rintro e w' ⟨rfl, rfl⟩) | (go_at_call 56; refine (slIndex_any _ _ _ _ _ _ Ha.out).mono ?_; rintro e w' ⟨rfl, rfl⟩))
    go_ret3
    exact ⟨rfl, rfl⟩

theorem specWidestLevel_any (a : Option Addr) (n c : Nat) (xs : List Int) (w : World) (ha : RV w a n c (ints xs)) :
    Calls Try.prog 28 #[.slice a n c] w fun e w' => e = rt3 (widestR xs) ∧ ∃ m, w' = w.drewN m := by
  have Ha := Lib.hid ha
  cases hv : vShape xs
  · rw [show widestR xs = (0, 0, 1) by simp [widestR, hv]]
    clear ha
    go_enter Try.func28, Try.ntmps28
    go_wp2_with (go_at_call 41; refine (l08Ok_any _ _ _ _ _ Ha.out).mono ?_; rintro e w' ⟨rfl, rfl⟩)
    go_ret3
    exact ⟨rfl, 0, rfl⟩
  · have HR := Lib.hid (show widestR xs = (indexF xs (maxTo xs (n - 1)) 0, maxTo xs (n - 1), 0) by simp [widestR, hv, ha.lenI])
    obtain ⟨_, h1, h2⟩ := vShape_iff.1 hv
    rw [ha.lenI] at h1 h2
    have Hl := Lib.hid ha.lenI
    clear ha
    go_enter Try.func28, Try.ntmps28
    go_wp2_with (go_at_call 41; refine (l08Ok_any _ _ _ _ _ Ha.out).mono ?_; rintro e w' ⟨rfl, rfl⟩)
    go_loopw [5, 6] (fun q i wr => ∃ k j b : Nat, Hid (k = j + 1) ∧ k ≤ n ∧ b < n ∧ i = .int .i64 k ∧ q = .int .i64 b ∧ Hid (FirstMax xs j b) ∧ ∃ m, Hid (wr = w.drewN m)) (fun _ i _ => n - (intOf i).toNat)
    case atStart => exact ⟨1, 0, 0, rfl, by omega, by omega, rfl, rfl, firstMax_zero _, 0, rfl⟩
    case round =>
      obtain ⟨k, j, d, Hkj, hk, hd, rfl, rfl, hR, m, Hw⟩ := hrel
      have Ha' : RV wr a n c (ints xs) := by rw [Hw.out]; exact Ha.out.drewN m
      obtain ⟨b, o, rfl, hb, hc⟩ := Ha'.cell (by omega)
      clear Ha'
      have e2 := hc d hd
      by_cases hlt : k < n
      · have e1 := hc k hlt
        have Hx := Lib.hid (show xs.getD k 0 = xs.getD (j + 1) 0 by rw [Hkj.out])
        clear hc
        by_cases hx : xs.getD d 0 < xs.getD k 0
        · have Hn := Lib.hid (firstMax_more hR.out (by rw [← Hx.out]; exact hx))
          generalize xs.getD d 0 = u at *
          generalize xs.getD k 0 = v at *
          have hdec : decide (u < v) = true := by simpa using hx
          go_wp2
          go_quiet (fail)
          go_wp2
          go_roundw
          case rel => exact ⟨k + 1, k, k, rfl, by omega, by omega, by go_num, rfl, by rw [Hkj.out]; exact Hn, m + nq, Lib.hid (by rw [Hw.out, World.drewN_drewN])⟩
          case measure => simp [intOf]; omega
        · have Hn := Lib.hid (firstMax_less hR.out (by rw [← Hx.out]; exact hx))
          generalize xs.getD d 0 = u at *
          generalize xs.getD k 0 = v at *
          have hdec : decide (u < v) = false := by simpa using hx
          go_wp2
          go_quiet (fail)
          go_wp2
          go_roundw
          case rel => exact ⟨k + 1, k, d, rfl, by omega, by omega, by go_num, rfl, by rw [Hkj.out]; exact Hn, m + nq, Lib.hid (by rw [Hw.out, World.drewN_drewN])⟩
          case measure => simp [intOf]; omega
      · clear hc
        have hkn : n - 1 = j := by have := Hkj.out; omega
        have Hf := Lib.hid (firstMax_idx hR.out (by have := Hl.out; have := Hkj.out; omega))
        have Hm := Lib.hid hR.out.2.1
        have Hkn := Lib.hid hkn
        clear hkn
        generalize xs.getD d 0 = u at *
        go_wp2
        go_quiet (fail)
        go_wp2
        go_ret3
        exact ⟨by rw [HR.out, Hkn.out, Hf.out, ← Hm.out]; rfl, m + nq, by rw [Hw.out, World.drewN_drewN]⟩

/-! ### turned -/
def turnedR (l : List Int) : List Int × Int := if vShape l then (l.reverse, 0) else ([], 1)
theorem turnedR_len (l : List Int) : (turnedR l).1.length ≤ 1000000 := by
  unfold turnedR; split
  · next h => have := (vShape_iff.1 h).2.2; simp; omega
  · simp

theorem turned_any (a : Option Addr) (n c : Nat) (xs : List Int) (w : World) (ha : RV w a n c (ints xs)) :
    Calls Try.prog 30 #[.slice a n c] w fun e w' => RetL w 2 (turnedR xs) e w' := by
  have Ha := Lib.hid ha
  cases hv : vShape xs
  · rw [show turnedR xs = ([], 1) by simp [turnedR, hv]]
    clear ha
    go_enter Try.func30, Try.ntmps30
    go_wp2_with (go_at_call 16; refine (validShape_any _ _ _ _ _ Ha.out).mono ?_; rintro e w' ⟨rfl, rfl⟩)
    go_ret2
    exact ⟨_, rfl, Own.nil _ _ _ _, Below.refl _ _⟩
  · rw [show turnedR xs = (xs.reverse, 0) by simp [turnedR, hv]]
    obtain ⟨_, h1, h2⟩ := vShape_iff.1 hv
    have Hl := Lib.hid ha.lenI
    have h3 : 1 ≤ n ∧ n ≤ 12 := by rw [ha.lenI] at h1 h2; exact ⟨h1, h2⟩
    clear ha
    go_enter Try.func30, Try.ntmps30
    go_wp2_with (first | (go_at_call 16; refine (validShape_any _ _ _ _ _ Ha.out).mono ?_; rintro e w' ⟨rfl, rfl⟩) | (go_at_call 62; refine (slClone_any _ _ _ _ _ h3.1 (by omega) Ha.out).mono ?_; rintro e w1 ⟨v, rfl, ho, hb⟩) | (go_at_call 63; refine (slReverse_any _ _ _ _ _ h1 (by omega) ho).mono ?_; rintro e w2 ⟨rfl, ho2, hg⟩))
    go_ret2
    exact ⟨_, rfl, ho2.mono (Nat.le_refl _) hg.size, below_grown hb ho hg (Nat.le_refl _) hb.size⟩
end Go.Proofs.Ytmepgedhapmplaa
