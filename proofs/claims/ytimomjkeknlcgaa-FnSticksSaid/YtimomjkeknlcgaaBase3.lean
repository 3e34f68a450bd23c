/-
  Bases, on: first open round, length of a round, sticks for stakes, gaps as fractions.
-/
import Derived.Test.YtimomjkeknlcgaaBase2
namespace Go.Proofs.Ytimomjkeknlcgaa
open Go.RowKit
set_option linter.unusedVariables false

theorem sticksF_step {st : Int} {f : Nat} {y : Int} (h : inB (4 * y - st) 0 4 = false) : sticksF st (f + 1) y = sticksF st f (y + 1) := by simp [sticksF, h]
theorem sticksF_hit {st : Int} {f : Nat} {y : Int} (h : inB (4 * y - st) 0 4 = true) : sticksF st (f + 1) y = y := by simp [sticksF, h]
abbrev ret4 (p : Int × Int × Int × Int) : Ending := .returned (.tuple #[.int .i64 p.1, .int .i64 p.2.1, .int .i64 p.2.2.1, .int .i64 p.2.2.2])




theorem FirstOpen_any (t s r k l : Int) (w : World) : Calls Try.prog 9 #[.agg #[.int .i64 t, .int .i64 s, .int .i64 r, .int .i64 k], .int .i64 l] w fun e w' => e = ret2 (firstOpenR t s r k l) ∧ Below w.heap.size w w' := by
  cases hv : vBase t s r k
  · rw [show firstOpenR t s r k l = (0, 1) by simp [firstOpenR, hv]]
    go_enter Try.func9, Try.ntmps9
    go_wp2_with (go_at_call 17; refine (validBase_any _ _ _ _ _).mono ?_; rintro e w1 ⟨rfl, hb1⟩)
    go_ret2
    exact ⟨rfl, bstep ((Below.refl _ _).alloc (Nat.le_refl _) _) hb1 (Nat.le_refl _)⟩
  · cases ha : inB l 1 1000
    · rw [show firstOpenR t s r k l = (0, 2) by simp [firstOpenR, hv, ha]]
      go_enter Try.func9, Try.ntmps9
      go_wp2_with (first | (go_at_call 17; refine (validBase_any _ _ _ _ _).mono ?_; rintro e w1 ⟨rfl, hb1⟩; obtain ⟨hc1, hf1⟩ := bcell hb1) | (go_at_call 19; refine (within_any _ _ _ _).mono ?_; rintro e w2 ⟨rfl, rfl⟩))
      go_ret2
      exact ⟨rfl, bstep ((Below.refl _ _).alloc (Nat.le_refl _) _) hb1 (Nat.le_refl _)⟩
    · have hR : firstOpenR t s r k l = if openAt (rings t s r k) (l * 7 * ends t s) 0 < 0 then (0, 3) else (openAt (rings t s r k) (l * 7 * ends t s) 0, 0) := by simp [firstOpenR, hv, ha]
      generalize firstOpenR t s r k l = R at *
      have HR := Lib.hid hR
      clear hR
      obtain ⟨⟨h1, h2⟩, ⟨h3, h4⟩, _⟩ := vBase_iff.1 hv
      have hE : 4 ≤ ends t s ∧ ends t s ≤ 48 := by unfold ends; omega
      have ha' := inB_iff.1 ha
      have hb1 : 0 ≤ l * 7 * ends t s := Int.mul_nonneg (by omega) (by omega)
      have hb2 : l * 7 * ends t s ≤ 7000 * 48 := Int.mul_le_mul (by omega) hE.2 (by omega) (by omega)
      have hl := rings_len t s r k
      have Hbd := Lib.hid (rings_bd hv)
      clear h1 h2 h3 h4
      go_enter Try.func9, Try.ntmps9
      go_wp2_with (first | (go_at_call 17; refine (validBase_any _ _ _ _ _).mono ?_; rintro e w1 ⟨rfl, hb1⟩; obtain ⟨hc1, hf1⟩ := bcell hb1; have hz1 := hb1.size; simp at hz1) | (go_at_call 19; refine (within_any _ _ _ _).mono ?_; rintro e w2 ⟨rfl, rfl⟩) | (go_at_call 18; refine (ringsOf_any _ _ _ _ _ hv).mono ?_; rintro e w2 ⟨v, rfl, ho, hb2⟩; obtain ⟨a, c, rfl, hrv⟩ := ho.sliceI))
      have hB1 := (BaseAt.below (BaseAt.boxed w t s r k 25) hb1 (by simp)).below hb2 (by omega)
      have hz2 := hb2.size
      clear hc1 hf1
      go_loopw [17] (fun i wr => ∃ j : Nat, j ≤ (rings t s r k).length ∧ i = .int .i64 j ∧ Hid (noOpen (rings t s r k) (l * 7 * ends t s) j) ∧ Below w2.heap.size w2 wr) (fun i _ => (rings t s r k).length - (intOf i).toNat)
      case atStart => exact ⟨0, Nat.zero_le _, rfl, noOpen_zero _ _, Below.refl _ _⟩
      case round =>
        obtain ⟨j, hj, rfl, hno, hbel⟩ := hrel
        by_cases hlt : j < (rings t s r k).length
        · obtain ⟨b, o, x, rfl, hb, hx, Hx⟩ := (hrv.below hbel).at hlt
          obtain ⟨d0, d1, d2, d3⟩ := hB1.below hbel (by omega)
          have hx2 : 1 ≤ x ∧ x ≤ 1000 := by rw [Hx.out]; exact Hbd.out _ (by simp [hlt])
          by_cases hd : l * 7 * ends t s ≤ 44 * x
          · have e1 := HR.out
            rw [noOpen_hit hno.out hlt (by rw [← Hx.out]; exact hd), if_neg (by omega)] at e1
            subst e1
            go_wp2_with (go_at_call 21; refine (endsOf_any _ _ _ _ _ hv).mono ?_; rintro e w3 ⟨rfl, hb3⟩)
            go_ret2
            exact ⟨rfl, bstep (bstep (bstep (bstep ((Below.refl _ _).alloc (Nat.le_refl _) _) hb1 (Nat.le_refl _)) hb2 (Nat.le_refl _)) hbel (Nat.le_refl _)) hb3 (Nat.le_refl _)⟩
          · have hno' := Lib.hid (noOpen_step hno.out hlt (by rw [← Hx.out]; exact hd))
            go_wp2_with (go_at_call 21; refine (endsOf_any _ _ _ _ _ hv).mono ?_; rintro e w3 ⟨rfl, hb3⟩)
            go_roundw
            case rel => exact ⟨j + 1, by omega, by go_num, hno', bstep hbel hb3 (Nat.le_refl _)⟩
            case measure => simp [intOf]; omega
        · have e1 := HR.out
          rw [noOpen_end hno.out (by omega), if_pos (by omega)] at e1
          subst e1
          go_wp2
          go_ret2
          exact ⟨rfl, bstep (bstep (bstep ((Below.refl _ _).alloc (Nat.le_refl _) _) hb1 (Nat.le_refl _)) hb2 (Nat.le_refl _)) hbel (Nat.le_refl _)⟩

theorem specFirstOpen_any (t s r k l : Int) (w : World) : Calls Try.prog 10 #[.agg #[.int .i64 t, .int .i64 s, .int .i64 r, .int .i64 k], .int .i64 l] w fun e w' => e = ret2 (firstOpenR t s r k l) ∧ Below w.heap.size w w' := by
  have hB := BaseAt.boxed w t s r k 25
  cases hv : vBase t s r k
  · rw [show firstOpenR t s r k l = (0, 1) by simp [firstOpenR, hv]]
    go_enter Try.func10, Try.ntmps10
    go_wp2_with (go_at_call 31; refine (l07Ok_any _ _ _ _ _ _ hB).mono ?_; rintro e w1 ⟨rfl, rfl⟩)
    go_ret2
    exact ⟨rfl, (Below.refl _ _).alloc (Nat.le_refl _) _⟩
  · cases ha : inB l 1 1000
    · rw [show firstOpenR t s r k l = (0, 2) by simp [firstOpenR, hv, ha]]
      go_enter Try.func10, Try.ntmps10
      go_wp2_with (first | (go_at_call 31; refine (l07Ok_any _ _ _ _ _ _ hB).mono ?_; rintro e w1 ⟨rfl, rfl⟩) | (go_at_call 32; refine (l00In_any _ _ _ _).mono ?_; rintro e w2 ⟨rfl, rfl⟩))
      go_ret2
      exact ⟨rfl, (Below.refl _ _).alloc (Nat.le_refl _) _⟩
    · have hR : firstOpenR t s r k l = if openAt (rings t s r k) (l * 7 * ends t s) 0 < 0 then (0, 3) else (openAt (rings t s r k) (l * 7 * ends t s) 0, 0) := by simp [firstOpenR, hv, ha]
      generalize firstOpenR t s r k l = R at *
      have HR := Lib.hid hR
      clear hR
      obtain ⟨⟨h1, h2⟩, ⟨h3, h4⟩, _⟩ := vBase_iff.1 hv
      have hE : 4 ≤ ends t s ∧ ends t s ≤ 48 := by unfold ends; omega
      have ha' := inB_iff.1 ha
      have hb1 : 0 ≤ l * 7 * ends t s := Int.mul_nonneg (by omega) (by omega)
      have hb2 : l * 7 * ends t s ≤ 7000 * 48 := Int.mul_le_mul (by omega) hE.2 (by omega) (by omega)
      have hl := rings_len t s r k
      have Hbd := Lib.hid (rings_bd hv)
      clear h1 h2 h3 h4
      go_enter Try.func10, Try.ntmps10
      go_wp2_with (first | (go_at_call 31; refine (l07Ok_any _ _ _ _ _ _ hB).mono ?_; rintro e w1 ⟨rfl, rfl⟩) | (go_at_call 32; refine (l00In_any _ _ _ _).mono ?_; rintro e w2 ⟨rfl, rfl⟩) | (go_at_call 24; refine (l07Rings_any _ _ _ _ _ _ (by simp) hB hv).mono ?_; rintro e w2 ⟨v, rfl, ho, hb2⟩; obtain ⟨a, c, rfl, hrv⟩ := ho.sliceI))
      have hz2 := hb2.size
      simp at hz2
      have hB1 := hB.below hb2 (by simp)
      clear hB
      go_loopw [7] (fun i wr => ∃ j : Nat, j ≤ (rings t s r k).length ∧ i = .int .i64 j ∧ Hid (noOpen (rings t s r k) (l * 7 * ends t s) j) ∧ Below w2.heap.size w2 wr) (fun i _ => (rings t s r k).length - (intOf i).toNat)
      case atStart => exact ⟨0, Nat.zero_le _, rfl, noOpen_zero _ _, Below.refl _ _⟩
      case round =>
        obtain ⟨j, hj, rfl, hno, hbel⟩ := hrel
        by_cases hlt : j < (rings t s r k).length
        · obtain ⟨b, o, x, rfl, hb, hx, Hx⟩ := (hrv.below hbel).at hlt
          have hB2 := hB1.below hbel (by omega)
          have hx2 : 1 ≤ x ∧ x ≤ 1000 := by rw [Hx.out]; exact Hbd.out _ (by simp [hlt])
          have hlt' : (j : Int) < ((rings t s r k).length : Int) := by omega
          have e44 := IntWalk.i64_in (44 * x) (by omega)
          have e7 := IntWalk.i64_in (l * 7) (by omega)
          have e7e := IntWalk.i64_in (l * 7 * ends t s) (by omega)
          have hcon := Lib.hid (l07Ends_any w.heap.size t s r k)
          by_cases hd : l * 7 * ends t s ≤ 44 * x
          · have e1 := HR.out
            rw [noOpen_hit hno.out hlt (by rw [← Hx.out]; exact hd), if_neg (by omega)] at e1
            subst e1
            go_wp2
            go_quiet ((go_at_call 25; exact Calls.quiet_of (hcon.out _ (hB2.drewN _) hv)))
            clear e44 e7 e7e
            go_wp2
            go_ret2
            exact ⟨rfl, bdrewN (bstep (bstep ((Below.refl _ _).alloc (Nat.le_refl _) _) hb2 (Nat.le_refl _)) hbel (Nat.le_refl _)) _⟩
          · have hno' := Lib.hid (noOpen_step hno.out hlt (by rw [← Hx.out]; exact hd))
            go_wp2
            go_quiet ((go_at_call 25; exact Calls.quiet_of (hcon.out _ (hB2.drewN _) hv)))
            clear e44 e7 e7e
            go_wp2
            go_roundw
            case rel => exact ⟨j + 1, by omega, by go_num, hno', bdrewN hbel _⟩
            case measure => simp [intOf]; omega
        · have e1 := HR.out
          rw [noOpen_end hno.out (by omega), if_pos (by omega)] at e1
          subst e1
          go_wp2
          go_ret2
          exact ⟨rfl, bstep (bstep ((Below.refl _ _).alloc (Nat.le_refl _) _) hb2 (Nat.le_refl _)) hbel (Nat.le_refl _)⟩
end Go.Proofs.Ytimomjkeknlcgaa
