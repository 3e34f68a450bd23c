/-
  Bases, on: the gaps at a round, as the reference has them.
-/
import Derived.Test.YtimomjkeknlcgaaBase4
namespace Go.Proofs.Ytimomjkeknlcgaa
open Go.RowKit
set_option linter.unusedVariables false

set_option maxHeartbeats 1000000 in
theorem specGapsAt_any (t s r k i : Int) (w : World) : Calls Try.prog 7 #[.agg #[.int .i64 t, .int .i64 s, .int .i64 r, .int .i64 k], .int .i64 i] w fun e w' => e = retF (gapsR t s r k i) ∧ Below w.heap.size w w' := by
  have hB : BaseAt ((w.alloc (.cells #[.int .i64 t, .int .i64 s, .int .i64 r, .int .i64 k] 25)).alloc (.cells #[.int .i64 0, .int .i64 0] 29)) w.heap.size t s r k :=
    (BaseAt.boxed w t s r k 25).below ((Below.refl _ _).alloc (Nat.le_refl _) _) (by simp)
  cases hv : vBase t s r k
  · rw [show gapsR t s r k i = (0, 0, 1) by simp [gapsR, hv]]
    have hcode : codeR t s r k i = 1 := by simp [codeR, hv]
    go_enter Try.func7, Try.ntmps7
    go_wp2_with (go_at_call 22; refine (l07Code_any _ _ _ _ _ _ _ (by simp; omega) hB).mono ?_; rintro e w1 ⟨rfl, hb1⟩; obtain ⟨hc1, hf1⟩ := bcell hb1)
    refine bodyPost_ret (v := .tuple #[.agg #[.int .i64 0, .int .i64 0], .int .i64 1]) (by simp [results, Try.results7, go_sem, hc1]) rfl ⟨rfl, ?_⟩
    exact ((bstep (((Below.refl _ _).alloc (Nat.le_refl _) _).alloc (by simp) _) hb1 (Nat.le_refl _)).setCell (by simp) _).setCell (by simp) _
  · have hl := rings_len t s r k
    cases ha : inB i 0 ((rings t s r k).length - 1)
    · rw [show gapsR t s r k i = (0, 0, 2) by simp [gapsR, hv, ha]]
      have hcode : codeR t s r k i = 2 := by simp [codeR, hv, ha]
      go_enter Try.func7, Try.ntmps7
      go_wp2_with (go_at_call 22; refine (l07Code_any _ _ _ _ _ _ _ (by simp; omega) hB).mono ?_; rintro e w1 ⟨rfl, hb1⟩; obtain ⟨hc1, hf1⟩ := bcell hb1)
      refine bodyPost_ret (v := .tuple #[.agg #[.int .i64 0, .int .i64 0], .int .i64 2]) (by simp [results, Try.results7, go_sem, hc1]) rfl ⟨rfl, ?_⟩
      exact ((bstep (((Below.refl _ _).alloc (Nat.le_refl _) _).alloc (by simp) _) hb1 (Nat.le_refl _)).setCell (by simp) _).setCell (by simp) _
    · have hi := inB_iff.1 ha
      have hcode : codeR t s r k i = 0 := by simp [codeR, hv, ha]
      obtain ⟨j, rfl⟩ := Int.eq_ofNat_of_zero_le hi.1
      have hj : j < (rings t s r k).length := by omega
      have hx2 := rings_get hv hj
      obtain ⟨x, Hx⟩ : ∃ x, Hid (x = (rings t s r k).getD j 0) := ⟨_, rfl⟩
      rw [← Hx.out] at hx2
      rw [show gapsR t s r k j = (lowN (44 * x) (7 * ends t s), lowD (44 * x) (7 * ends t s), 0) by simp only [gapsR, hv, ha, if_true, Int.toNat_natCast, Hx.out]]
      obtain ⟨⟨h1, h2⟩, ⟨h3, h4⟩, _⟩ := vBase_iff.1 hv
      have hE : 4 ≤ ends t s ∧ ends t s ≤ 48 := by unfold ends; omega
      have hji : (j : Int) < ((rings t s r k).length : Int) := by omega
      have e44 := IntWalk.i64_in (44 * x) (by omega)
      have e7 := IntWalk.i64_in (7 * ends t s) (by omega)
      clear h1 h2 h3 h4
      go_enter Try.func7, Try.ntmps7
      go_wp2_with (go_at_call 22; refine (l07Code_any _ _ _ _ _ _ _ (by simp; omega) hB).mono ?_; rintro e w1 ⟨rfl, hb1⟩; obtain ⟨hc1, hf1⟩ := bcell hb1; have hB1 := hB.below hb1 (by simp; omega); have hz1 : w.heap.size + 1 < w1.heap.size := (by have := hb1.size; simp at this; omega); have hy1 : w.heap.size < w1.heap.size := by omega)
      go_region_with (first | (go_at_call 24; refine (l07Rings_any _ _ _ _ _ w1.drew hy1 hB1.drew hv).mono ?_; rintro e w2 ⟨v, rfl, ho, hb2⟩; obtain ⟨a, c, rfl, hrv⟩ := ho.sliceI; have hb2 : Below w1.heap.size w1 w2 := bundrew hb2; obtain ⟨hc2, hf2⟩ : (∀ b o, b < w1.heap.size → w2.cell? ⟨b, o, none⟩ = w1.cell? ⟨b, o, none⟩) ∧ (∀ b o, b < w1.heap.size → w2.frozen? ⟨b, o, none⟩ = w1.frozen? ⟨b, o, none⟩) := bcell hb2; have hB2 := hB1.below hb2 hy1; have hz2 : w.heap.size + 1 < w2.heap.size := (by have := hb2.size; omega); have hy2 : w.heap.size < w2.heap.size := (by omega); obtain ⟨b, o, x', rfl, hb, hx, Hx'⟩ := hrv.at hj; obtain rfl := Hx.out.trans Hx'.out.symm) | (go_at_call 25; refine (l07Ends_any _ _ _ _ _ _ (by exact hB2) hv).mono ?_; rintro e w3 ⟨rfl, m, rfl⟩) | (go_at_call 23; refine (l02Make_exact _ _ _ (by omega) (by omega) (by omega) (by omega)).mono ?_; rintro e w4 ⟨rfl, m, rfl⟩))
      all_goals
        go_wp2
        refine bodyPost_ret (v := .tuple #[.agg #[.int .i64 (lowN (44 * x) (7 * ends t s)), .int .i64 (lowD (44 * x) (7 * ends t s))], .int .i64 0]) (by simp [results, Try.results7, go_sem, hc2, hc1, hz1, hz2]) rfl ⟨rfl, ?_⟩
        have g1 : Below w.heap.size w w2 := bstep (bstep (((Below.refl _ _).alloc (Nat.le_refl _) _).alloc (by simp) _) hb1 (Nat.le_refl _)) hb2 (Nat.le_refl _)
        exact (by repeat' (first | (with_reducible exact g1) | (with_reducible exact Below.refl _ _) | (with_reducible refine bdrewN ?_ _) | (with_reducible refine Below.drew ?_) | (with_reducible refine Below.setCell ?_ ?_ _) | (with_reducible refine Below.alloc ?_ ?_ _) | omega | (simp; done) | (simp; omega)))
end Go.Proofs.Ytimomjkeknlcgaa
