/-
  Shapes, on: one number of stakes for all levels, the reference.
-/
import Derived.Test.YtmepgedhapmplaaShapeOne
namespace Go.Proofs.Ytmepgedhapmplaa
open Go.RowKit
set_option linter.unusedVariables false

theorem oneR_first {l : List Int} {low high v : Int} (hc : shCode l low high = 0) (h3 : 3 ≤ v) (h60 : v ≤ 60) (hg : goodTo l v low high l.length = true) (hb : ∀ m, 3 ≤ m → m < v → goodTo l m low high l.length = false) : oneR l low high = (v, 0) := by
  obtain ⟨hv, hp⟩ := shCode_ok hc
  have g1 := (goodTo_iff hv hp h3 h60 _ (Nat.le_refl _)).1 hg
  have g2 := leastTo_ge l high l.length
  have g3 := mostTo_le l low l.length
  have g4 : ¬ leastTo l high l.length < v := by
    intro hlt
    have h5 := hb _ g2 hlt
    have h6 := (goodTo_iff (l := l) hv hp g2 (by omega) _ (Nat.le_refl _)).2 ⟨Int.le_refl _, by omega⟩
    rw [h5] at h6; exact absurd h6 (by simp)
  have g5 : leastTo l high l.length = v := by omega
  rw [oneR, if_pos hc, if_neg (by omega), g5]
theorem oneR_none {l : List Int} {low high : Int} (hc : shCode l low high = 0) (hb : ∀ m, 3 ≤ m → m < 61 → goodTo l m low high l.length = false) : oneR l low high = (0, 3) := by
  obtain ⟨hv, hp⟩ := shCode_ok hc
  have g2 := leastTo_ge l high l.length
  have g3 := mostTo_le l low l.length
  have g4 : leastTo l high l.length > mostTo l low l.length := by
    by_cases h : leastTo l high l.length > mostTo l low l.length
    · exact h
    · have h5 := hb (leastTo l high l.length) g2 (by omega)
      have h6 := (goodTo_iff (l := l) hv hp g2 (by omega) _ (Nat.le_refl _)).2 ⟨Int.le_refl _, by omega⟩
      rw [h5] at h6; exact absurd h6 (by simp)
  rw [oneR, if_pos hc, if_pos g4]

set_option maxHeartbeats 1000000 in
theorem specOneNumber_any (a : Option Addr) (n c : Nat) (xs : List Int) (low high : Int) (w : World) (ha : RV w a n c (ints xs)) :
    Calls Try.prog 39 #[.slice a n c, .int .i64 low, .int .i64 high] w fun e w' => e = rt2 (oneR xs low high) ∧ w = w' := by
  have Ha := Lib.hid ha
  have Hl := Lib.hid ha.lenI
  have hm := ha.small
  by_cases hc : shCode xs low high = 0
  · have Hc := Lib.hid hc
    obtain ⟨hv, hp⟩ := shCode_ok hc
    obtain ⟨⟨b1, b2⟩, b3, b4⟩ := apart_iff.1 hp
    have hcode := fun W h => l08Code_any a n c xs low high W h
    rw [hc] at hcode
    have Hcode := Lib.hid hcode
    clear ha hc hv hp hcode
    go_enter Try.func39, Try.ntmps39
    go_wp2_with (go_at_call 65; refine (Hcode.out _ Ha.out).mono ?_; rintro e w' ⟨rfl, rfl⟩)
    go_loop [9] (fun i => ∃ v : Int, i = .int .i64 v ∧ 3 ≤ v ∧ v ≤ 61 ∧ Hid (∀ m, 3 ≤ m → m < v → goodTo xs m low high xs.length = false)) (fun i => (61 - intOf i).toNat)
    case atStart => exact ⟨3, rfl, by omega, by omega, Lib.hid (fun m h1 h2 => by omega)⟩
    case round =>
      obtain ⟨v, rfl, hv1, hv2, Hb⟩ := hrel
      by_cases hv3 : v ≤ 60
      · go_wp2
        go_loop [10, 11] (fun g i => ∃ k : Nat, k ≤ n ∧ i = .int .i64 k ∧ g = .bool (goodTo xs v low high k)) (fun _ i => n - (intOf i).toNat)
        case atStart => exact ⟨0, Nat.zero_le _, rfl, rfl⟩
        case round =>
          obtain ⟨k, hk, rfl, rfl⟩ := hrel
          by_cases hlt : k < n
          · have hs := goodTo_step (l := xs) (n := v) (low := low) (high := high) (k := k) (by have := Hl.out; omega)
            obtain ⟨b, o, rfl, hb, hcc⟩ := Ha.out.cell (by omega)
            have e1 := hcc k hlt
            clear hcc
            cases hg : goodTo xs v low high k
            · rw [hg] at hs
              have Hs := Lib.hid hs
              clear hs
              go_wp2
              go_round
              case rel => exact ⟨k + 1, by omega, by go_num, by rw [Hs.out]; rfl⟩
              case measure => simp [intOf]; omega
            · rw [hg] at hs
              have Hs := Lib.hid hs
              clear hs
              go_wp2_with (go_at_call 66; refine (l08Good_any _ _ _ _ _ b1 b2 (by omega) b4 (by omega) hv3).mono ?_; rintro e w' ⟨rfl, rfl⟩)
              go_round
              case rel => exact ⟨k + 1, by omega, by go_num, by rw [Hs.out]; rfl⟩
              case measure => simp [intOf]; omega
          · have hkn : k = n := by omega
            have Hkl := Lib.hid (show xs.length = k by rw [Hl.out, hkn])
            clear hkn
            cases hg : goodTo xs v low high k
            · go_wp2
              go_round
              case rel => exact ⟨v + 1, rfl, by omega, by omega, Lib.hid (fun m h1 h2 => by
                by_cases hm : m = v
                · rw [hm, Hkl.out]; exact hg
                · exact Hb.out m h1 (by omega))⟩
              case measure => simp [intOf]; omega
            · have Hf := Lib.hid (oneR_first Hc.out hv1 hv3 (by rw [Hkl.out]; exact hg) Hb.out)
              go_wp2
              go_ret2
              exact ⟨by rw [Hf.out]; rfl, rfl⟩
      · have hv4 : v = 61 := by omega
        have Hf := Lib.hid (oneR_none Hc.out (fun m h1 h2 => Hb.out m h1 (by omega)))
        go_wp2
        go_ret2
        exact ⟨by rw [Hf.out]; rfl, rfl⟩
  · rw [show oneR xs low high = (0, shCode xs low high) by simp [oneR, hc]]
    clear ha
    go_enter Try.func39, Try.ntmps39
    go_wp2_with (go_at_call 65; refine (l08Code_any _ _ _ _ _ _ _ Ha.out).mono ?_; rintro e w' ⟨rfl, rfl⟩)
    go_ret2
    exact ⟨rfl, rfl⟩
end Go.Proofs.Ytmepgedhapmplaa
