/-
  Bases, on: the listed functions of the program and of the reference, each with the result that BasePlain names.
-/
import Derived.Test.YtimomjkeknlcgaaDoorBase
namespace Go.Proofs.YtimomjkeknlcgaaDoor
open Go.RowKit
set_option linter.unusedVariables false

abbrev ret2 (p : Int × Int) : Ending := .returned (.tuple #[.int .i64 p.1, .int .i64 p.2])



theorem StakesFrom_any (t s r k a f : Int) (w : World) : Calls Tryd.prog 18 #[.agg #[.int .i64 t, .int .i64 s, .int .i64 r, .int .i64 k], .int .i64 a, .int .i64 f] w fun e w' => e = ret2 (stakesFromR t s r k a f) ∧ Below w.heap.size w w' := by
  cases hv : vBase t s r k
  · rw [show stakesFromR t s r k a f = (0, 1) by simp [stakesFromR, hv]]
    go_enter Tryd.func18, Tryd.ntmps18
    go_wp2_with (go_at_call 21; refine (validBase_any _ _ _ _ _).mono ?_; rintro e w1 ⟨rfl, hb1⟩)
    go_ret2
    exact ⟨rfl, bstep ((Below.refl _ _).alloc (Nat.le_refl _) _) hb1 (Nat.le_refl _)⟩
  · cases ha : inB a 1 2
    · rw [show stakesFromR t s r k a f = (0, 2) by simp [stakesFromR, hv, ha]]
      go_enter Tryd.func18, Tryd.ntmps18
      go_wp2_with (first | (go_at_call 21; refine (validBase_any _ _ _ _ _).mono ?_; rintro e w1 ⟨rfl, hb1⟩; obtain ⟨hc1, hf1⟩ := bcell hb1) | (go_at_call 36; refine (within_any _ _ _ _).mono ?_; rintro e w2 ⟨rfl, rfl⟩))
      go_ret2
      exact ⟨rfl, bstep ((Below.refl _ _).alloc (Nat.le_refl _) _) hb1 (Nat.le_refl _)⟩
    · cases hf : inB f 0 4
      · rw [show stakesFromR t s r k a f = (0, 2) by simp [stakesFromR, hv, ha, hf]]
        go_enter Tryd.func18, Tryd.ntmps18
        go_wp2_with (first | (go_at_call 21; refine (validBase_any _ _ _ _ _).mono ?_; rintro e w1 ⟨rfl, hb1⟩; obtain ⟨hc1, hf1⟩ := bcell hb1) | (go_at_call 36; refine (within_any _ _ _ _).mono ?_; rintro e w2 ⟨rfl, rfl⟩))
        go_ret2
        exact ⟨rfl, bstep ((Below.refl _ _).alloc (Nat.le_refl _) _) hb1 (Nat.le_refl _)⟩
      · obtain ⟨⟨h1, h2⟩, ⟨h3, h4⟩, _⟩ := vBase_iff.1 hv
        have hE : 4 ≤ ends t s ∧ ends t s ≤ 48 := by unfold ends; omega
        have ha' := inB_iff.1 ha
        have hf' := inB_iff.1 hf
        have hb1 : 0 ≤ a * ends t s := Int.mul_nonneg (by omega) (by omega)
        have hb2 : a * ends t s ≤ 2 * 48 := Int.mul_le_mul ha'.2 hE.2 (by omega) (by omega)
        clear h1 h2 h3 h4
        by_cases hlt : a * ends t s - f < 3
        · rw [show stakesFromR t s r k a f = (0, 6) by simp [stakesFromR, hv, ha, hf, hlt]]
          go_enter Tryd.func18, Tryd.ntmps18
          go_wp2_with (first | (go_at_call 21; refine (validBase_any _ _ _ _ _).mono ?_; rintro e w1 ⟨rfl, hb1⟩; obtain ⟨hc1, hf1⟩ := bcell hb1) | (go_at_call 36; refine (within_any _ _ _ _).mono ?_; rintro e w2 ⟨rfl, rfl⟩) | (go_at_call 38; refine (endsOf_any _ _ _ _ _ hv).mono ?_; rintro e w2 ⟨rfl, hb2⟩))
          go_ret2
          exact ⟨rfl, bstep (bstep ((Below.refl _ _).alloc (Nat.le_refl _) _) hb1 (Nat.le_refl _)) hb2 (Nat.le_refl _)⟩
        · rw [show stakesFromR t s r k a f = (a * ends t s - f, 0) by simp [stakesFromR, hv, ha, hf, hlt]]
          go_enter Tryd.func18, Tryd.ntmps18
          go_wp2_with (first | (go_at_call 21; refine (validBase_any _ _ _ _ _).mono ?_; rintro e w1 ⟨rfl, hb1⟩; obtain ⟨hc1, hf1⟩ := bcell hb1) | (go_at_call 36; refine (within_any _ _ _ _).mono ?_; rintro e w2 ⟨rfl, rfl⟩) | (go_at_call 38; refine (endsOf_any _ _ _ _ _ hv).mono ?_; rintro e w2 ⟨rfl, hb2⟩))
          go_ret2
          exact ⟨rfl, bstep (bstep ((Below.refl _ _).alloc (Nat.le_refl _) _) hb1 (Nat.le_refl _)) hb2 (Nat.le_refl _)⟩
theorem specStakesFrom_any (t s r k a f : Int) (w : World) : Calls Tryd.prog 19 #[.agg #[.int .i64 t, .int .i64 s, .int .i64 r, .int .i64 k], .int .i64 a, .int .i64 f] w fun e w' => e = ret2 (stakesFromR t s r k a f) ∧ Below w.heap.size w w' := by
  have hB := BaseAt.boxed w t s r k 25
  cases hv : vBase t s r k
  · rw [show stakesFromR t s r k a f = (0, 1) by simp [stakesFromR, hv]]
    go_enter Tryd.func19, Tryd.ntmps19
    go_wp2_with (go_at_call 24; refine (l07Ok_any _ _ _ _ _ _ hB).mono ?_; rintro e w1 ⟨rfl, rfl⟩)
    go_ret2
    exact ⟨rfl, (Below.refl _ _).alloc (Nat.le_refl _) _⟩
  · cases ha : inB a 1 2
    · rw [show stakesFromR t s r k a f = (0, 2) by simp [stakesFromR, hv, ha]]
      go_enter Tryd.func19, Tryd.ntmps19
      go_wp2_with (first | (go_at_call 24; refine (l07Ok_any _ _ _ _ _ _ hB).mono ?_; rintro e w1 ⟨rfl, rfl⟩) | (go_at_call 37; refine (l00In_any _ _ _ _).mono ?_; rintro e w2 ⟨rfl, rfl⟩))
      go_ret2
      exact ⟨rfl, (Below.refl _ _).alloc (Nat.le_refl _) _⟩
    · cases hf : inB f 0 4
      · rw [show stakesFromR t s r k a f = (0, 2) by simp [stakesFromR, hv, ha, hf]]
        go_enter Tryd.func19, Tryd.ntmps19
        go_wp2_with (first | (go_at_call 24; refine (l07Ok_any _ _ _ _ _ _ hB).mono ?_; rintro e w1 ⟨rfl, rfl⟩) | (go_at_call 37; refine (l00In_any _ _ _ _).mono ?_; rintro e w2 ⟨rfl, rfl⟩))
        go_ret2
        exact ⟨rfl, (Below.refl _ _).alloc (Nat.le_refl _) _⟩
      · obtain ⟨⟨h1, h2⟩, ⟨h3, h4⟩, _⟩ := vBase_iff.1 hv
        have hE : 4 ≤ ends t s ∧ ends t s ≤ 48 := by unfold ends; omega
        have ha' := inB_iff.1 ha
        have hf' := inB_iff.1 hf
        have hb1 : 0 ≤ a * ends t s := Int.mul_nonneg (by omega) (by omega)
        have hb2 : a * ends t s ≤ 2 * 48 := Int.mul_le_mul ha'.2 hE.2 (by omega) (by omega)
        clear h1 h2 h3 h4
        by_cases hlt : a * ends t s - f < 3
        · rw [show stakesFromR t s r k a f = (0, 6) by simp [stakesFromR, hv, ha, hf, hlt]]
          go_enter Tryd.func19, Tryd.ntmps19
          go_wp2_with (first | (go_at_call 24; refine (l07Ok_any _ _ _ _ _ _ hB).mono ?_; rintro e w1 ⟨rfl, rfl⟩) | (go_at_call 37; refine (l00In_any _ _ _ _).mono ?_; rintro e w2 ⟨rfl, rfl⟩) | (go_at_call 39; refine (l07Ends_any _ _ _ _ _ _ hB hv).mono ?_; rintro e w2 ⟨rfl, m, rfl⟩))
          go_ret2
          exact ⟨rfl, bdrewN ((Below.refl _ _).alloc (Nat.le_refl _) _) _⟩
        · rw [show stakesFromR t s r k a f = (a * ends t s - f, 0) by simp [stakesFromR, hv, ha, hf, hlt]]
          go_enter Tryd.func19, Tryd.ntmps19
          go_wp2_with (first | (go_at_call 24; refine (l07Ok_any _ _ _ _ _ _ hB).mono ?_; rintro e w1 ⟨rfl, rfl⟩) | (go_at_call 37; refine (l00In_any _ _ _ _).mono ?_; rintro e w2 ⟨rfl, rfl⟩) | (go_at_call 39; refine (l07Ends_any _ _ _ _ _ _ hB hv).mono ?_; rintro e w2 ⟨rfl, m, rfl⟩))
          go_ret2
          exact ⟨rfl, bdrewN ((Below.refl _ _).alloc (Nat.le_refl _) _) _⟩

theorem RingsOf_any (t s r k : Int) (w : World) : Calls Tryd.prog 10 #[.agg #[.int .i64 t, .int .i64 s, .int .i64 r, .int .i64 k]] w (RetL w 2 (ringsR t s r k)) := by
  cases hv : vBase t s r k
  · rw [show ringsR t s r k = ([], 1) by simp [ringsR, hv]]
    go_enter Tryd.func10, Tryd.ntmps10
    go_wp2_with (go_at_call 21; refine (validBase_any _ _ _ _ _).mono ?_; rintro e w1 ⟨rfl, hb1⟩)
    go_ret2
    exact ⟨_, rfl, Own.nil _ _ _ _, bstep ((Below.refl _ _).alloc (Nat.le_refl _) _) hb1 (Nat.le_refl _)⟩
  · rw [show ringsR t s r k = (rings t s r k, 0) by simp [ringsR, hv]]
    go_enter Tryd.func10, Tryd.ntmps10
    go_wp2_with (first | (go_at_call 21; refine (validBase_any _ _ _ _ _).mono ?_; rintro e w1 ⟨rfl, hb1⟩; obtain ⟨hc1, hf1⟩ := bcell hb1) | (go_at_call 29; refine (ringsOf_any _ _ _ _ _ hv).mono ?_; rintro e w2 ⟨v, rfl, ho, hb2⟩))
    go_ret2
    have h1 := bstep (Below.alloc (Below.refl _ w) (Nat.le_refl _) _) hb1 (Nat.le_refl _)
    exact ⟨_, rfl, ho.mono h1.size (Nat.le_refl _), bstep h1 hb2 (Nat.le_refl _)⟩

theorem specRingsOf_any (t s r k : Int) (w : World) : Calls Tryd.prog 11 #[.agg #[.int .i64 t, .int .i64 s, .int .i64 r, .int .i64 k]] w (RetL w 2 (ringsR t s r k)) := by
  have hB := BaseAt.boxed w t s r k 25
  cases hv : vBase t s r k
  · rw [show ringsR t s r k = ([], 1) by simp [ringsR, hv]]
    go_enter Tryd.func11, Tryd.ntmps11
    go_wp2_with (go_at_call 24; refine (l07Ok_any _ _ _ _ _ _ hB).mono ?_; rintro e w1 ⟨rfl, rfl⟩)
    go_ret2
    exact ⟨_, rfl, Own.nil _ _ _ _, (Below.refl _ _).alloc (Nat.le_refl _) _⟩
  · rw [show ringsR t s r k = (rings t s r k, 0) by simp [ringsR, hv]]
    go_enter Tryd.func11, Tryd.ntmps11
    go_wp2_with (first | (go_at_call 24; refine (l07Ok_any _ _ _ _ _ _ hB).mono ?_; rintro e w1 ⟨rfl, rfl⟩) | (go_at_call 30; refine (l07Rings_any _ _ _ _ _ _ (by simp) hB hv).mono ?_; rintro e w2 ⟨v, rfl, ho, hb2⟩))
    go_ret2
    exact ⟨_, rfl, ho.mono (by simp) (Nat.le_refl _), bstep ((Below.refl _ _).alloc (Nat.le_refl _) _) hb2 (Nat.le_refl _)⟩

theorem over7_any (x : Int) (w : World) (h : 0 ≤ x) (h' : x ≤ 100000000) : Calls Tryd.prog 42 #[.int .i64 (44 * x), .int .i64 7] w fun e w' => e = .returned (.int .i64 (ringLen x)) ∧ w = w' := by
  have hx := ringLen_over x h
  generalize ringLen x = R at *
  by_cases hm : 0 < (44 * x) % 7
  · rw [if_pos hm] at hx
    have Hx := Lib.hid hx
    clear hx
    go_enter Tryd.func42, Tryd.ntmps42
    go_wp2
    go_ret
    exact ⟨ret_int Hx.out, rfl⟩
  · rw [if_neg hm] at hx
    have Hx := Lib.hid hx
    clear hx
    go_enter Tryd.func42, Tryd.ntmps42
    go_wp2
    go_ret
    exact ⟨ret_int Hx.out, rfl⟩
theorem ringLength_any (x : Int) (w : World) (h : 0 ≤ x) (h' : x ≤ 100000) : Calls Tryd.prog 31 #[.int .i64 x] w fun e w' => e = .returned (.int .i64 (ringLen x)) ∧ w = w' := by
  go_enter Tryd.func31, Tryd.ntmps31
  go_wp2_with (go_at_call 42; refine (over7_any _ _ h (by omega)).mono ?_; rintro e w1 ⟨rfl, rfl⟩)
  go_ret
  exact ⟨rfl, rfl⟩
theorem l07Length_any (x : Int) (w : World) (h : 0 ≤ x) (h' : x ≤ 100000) : Calls Tryd.prog 32 #[.int .i64 x] w fun e w' => e = .returned (.int .i64 (ringLen x)) ∧ w = w' := by
  go_enter Tryd.func32, Tryd.ntmps32
  go_wp2
  go_ret
  exact ⟨rfl, rfl⟩

theorem WeaverFor_any (t s r k : Int) (w : World) : Calls Tryd.prog 12 #[.agg #[.int .i64 t, .int .i64 s, .int .i64 r, .int .i64 k]] w fun e w' => e = ret2 (weaverR t s r k) ∧ Below w.heap.size w w' := by
  cases hv : vBase t s r k
  · rw [show weaverR t s r k = (0, 1) by simp [weaverR, hv]]
    go_enter Tryd.func12, Tryd.ntmps12
    go_wp2_with (go_at_call 21; refine (validBase_any _ _ _ _ _).mono ?_; rintro e w1 ⟨rfl, hb1⟩)
    go_ret2
    exact ⟨rfl, bstep ((Below.refl _ _).alloc (Nat.le_refl _) _) hb1 (Nat.le_refl _)⟩
  · rw [show weaverR t s r k = (sumLen (rings t s r k), 0) by simp [weaverR, hv]]
    have hl := rings_len t s r k
    have Hbd := Lib.hid (rings_bd hv)
    go_enter Tryd.func12, Tryd.ntmps12
    go_wp2_with (first | (go_at_call 21; refine (validBase_any _ _ _ _ _).mono ?_; rintro e w1 ⟨rfl, hb1⟩; obtain ⟨hc1, hf1⟩ := bcell hb1) | (go_at_call 29; refine (ringsOf_any _ _ _ _ _ hv).mono ?_; rintro e w2 ⟨v, rfl, ho, hb2⟩; obtain ⟨a, c, rfl, hrv⟩ := ho.sliceI))
    clear hc1 hf1
    go_loop [4, 13] (fun q i => ∃ j : Nat, j ≤ (rings t s r k).length ∧ i = .int .i64 j ∧ q = .int .i64 (sumLen ((rings t s r k).take j))) (fun _ i => (rings t s r k).length - (intOf i).toNat)
    case atStart => exact ⟨0, Nat.zero_le _, rfl, rfl⟩
    case round =>
      obtain ⟨j, hj, rfl, rfl⟩ := hrel
      have hs := sumLen_take_bd Hbd.out hl j
      by_cases hlt : j < (rings t s r k).length
      · obtain ⟨b, o, x, rfl, hb, hx, Hx⟩ := hrv.at hlt
        have hx2 : 1 ≤ x ∧ x ≤ 1000 := by rw [Hx.out]; exact Hbd.out _ (by simp [hlt])
        have hr2 := ringLen_bd hx2.1 hx2.2
        have Hst := Lib.hid (sumLen_take hlt)
        go_wp2_with (go_at_call 31; refine (ringLength_any _ _ (by omega) (by omega)).mono ?_; rintro e w3 ⟨rfl, rfl⟩)
        go_round
        case rel => exact ⟨j + 1, by omega, by go_num, by rw [Hst.out, Hx.out]⟩
        case measure => simp [intOf]; omega
      · go_wp2
        go_ret2
        exact ⟨by rw [List.take_of_length_le (by omega)]; rfl, bstep (bstep ((Below.refl _ _).alloc (Nat.le_refl _) _) hb1 (Nat.le_refl _)) hb2 (Nat.le_refl _)⟩

theorem specWeaverFor_any (t s r k : Int) (w : World) : Calls Tryd.prog 13 #[.agg #[.int .i64 t, .int .i64 s, .int .i64 r, .int .i64 k]] w fun e w' => e = ret2 (weaverR t s r k) ∧ Below w.heap.size w w' := by
  have hB := BaseAt.boxed w t s r k 25
  cases hv : vBase t s r k
  · rw [show weaverR t s r k = (0, 1) by simp [weaverR, hv]]
    go_enter Tryd.func13, Tryd.ntmps13
    go_wp2_with (go_at_call 24; refine (l07Ok_any _ _ _ _ _ _ hB).mono ?_; rintro e w1 ⟨rfl, rfl⟩)
    go_ret2
    exact ⟨rfl, (Below.refl _ _).alloc (Nat.le_refl _) _⟩
  · rw [show weaverR t s r k = (sumLen (rings t s r k), 0) by simp [weaverR, hv]]
    have hl := rings_len t s r k
    have Hbd := Lib.hid (rings_bd hv)
    go_enter Tryd.func13, Tryd.ntmps13
    go_wp2_with (first | (go_at_call 24; refine (l07Ok_any _ _ _ _ _ _ hB).mono ?_; rintro e w1 ⟨rfl, rfl⟩) | (go_at_call 30; refine (l07Rings_any _ _ _ _ _ _ (by simp) hB hv).mono ?_; rintro e w2 ⟨v, rfl, ho, hb2⟩; obtain ⟨a, c, rfl, hrv⟩ := ho.sliceI))
    go_loop [5, 6] (fun q i => ∃ j : Nat, j ≤ (rings t s r k).length ∧ i = .int .i64 j ∧ q = .int .i64 (sumLen ((rings t s r k).take j))) (fun _ i => (rings t s r k).length - (intOf i).toNat)
    case atStart => exact ⟨0, Nat.zero_le _, rfl, rfl⟩
    case round =>
      obtain ⟨j, hj, rfl, rfl⟩ := hrel
      have hs := sumLen_take_bd Hbd.out hl j
      by_cases hlt : j < (rings t s r k).length
      · obtain ⟨b, o, x, rfl, hb, hx, Hx⟩ := hrv.at hlt
        have hx2 : 1 ≤ x ∧ x ≤ 1000 := by rw [Hx.out]; exact Hbd.out _ (by simp [hlt])
        have hr2 := ringLen_bd hx2.1 hx2.2
        have Hst := Lib.hid (sumLen_take hlt)
        go_wp2_with (go_at_call 32; refine (l07Length_any _ _ (by omega) (by omega)).mono ?_; rintro e w3 ⟨rfl, rfl⟩)
        go_round
        case rel => exact ⟨j + 1, by omega, by go_num, by rw [Hst.out, Hx.out]⟩
        case measure => simp [intOf]; omega
      · go_wp2
        go_ret2
        exact ⟨by rw [List.take_of_length_le (by omega)]; rfl, bstep ((Below.refl _ _).alloc (Nat.le_refl _) _) hb2 (Nat.le_refl _)⟩
end Go.Proofs.YtimomjkeknlcgaaDoor
