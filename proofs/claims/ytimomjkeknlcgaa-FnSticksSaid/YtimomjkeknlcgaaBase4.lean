/-
  Bases, on: the length of one round, the gaps at a round as a fraction.
-/
import Derived.Test.YtimomjkeknlcgaaBase3
import Derived.Test.YtimomjkeknlcgaaNumPlain
namespace Go.Proofs.Ytimomjkeknlcgaa
open Go.RowKit
set_option linter.unusedVariables false

/-- a fraction and a code -/
abbrev retF (p : Int × Int × Int) : Ending := .returned (.tuple #[.agg #[.int .i64 p.1, .int .i64 p.2.1], .int .i64 p.2.2])
def gapsR (t s r k i : Int) : Int × Int × Int :=
  if vBase t s r k then
    if inB i 0 ((rings t s r k).length - 1) then (lowN (44 * (rings t s r k).getD i.toNat 0) (7 * ends t s), lowD (44 * (rings t s r k).getD i.toNat 0) (7 * ends t s), 0) else (0, 0, 2)
  else (0, 0, 1)

theorem LengthOfRing_any (t s r k i : Int) (w : World) : Calls Try.prog 14 #[.agg #[.int .i64 t, .int .i64 s, .int .i64 r, .int .i64 k], .int .i64 i] w fun e w' => e = ret2 (lengthR t s r k i) ∧ Below w.heap.size w w' := by
  cases hv : vBase t s r k
  · rw [show lengthR t s r k i = (0, 1) by simp [lengthR, hv]]
    go_enter Try.func14, Try.ntmps14
    go_wp2_with (go_at_call 17; refine (validBase_any _ _ _ _ _).mono ?_; rintro e w1 ⟨rfl, hb1⟩)
    go_ret2
    exact ⟨rfl, bstep ((Below.refl _ _).alloc (Nat.le_refl _) _) hb1 (Nat.le_refl _)⟩
  · have hl := rings_len t s r k
    cases ha : inB i 0 ((rings t s r k).length - 1)
    · rw [show lengthR t s r k i = (0, 2) by simp [lengthR, hv, ha]]
      go_enter Try.func14, Try.ntmps14
      go_wp2_with (first | (go_at_call 17; refine (validBase_any _ _ _ _ _).mono ?_; rintro e w1 ⟨rfl, hb1⟩; obtain ⟨hc1, hf1⟩ := bcell hb1) | (go_at_call 19; refine (within_any _ _ _ _).mono ?_; rintro e w2 ⟨rfl, rfl⟩) | (go_at_call 18; refine (ringsOf_any _ _ _ _ _ hv).mono ?_; rintro e w2 ⟨v, rfl, ho, hb2⟩; obtain ⟨a, c, rfl, hrv⟩ := ho.sliceI))
      go_ret2
      exact ⟨rfl, bstep (bstep ((Below.refl _ _).alloc (Nat.le_refl _) _) hb1 (Nat.le_refl _)) hb2 (Nat.le_refl _)⟩
    · rw [show lengthR t s r k i = (ringLen ((rings t s r k).getD i.toNat 0), 0) by simp [lengthR, hv, ha]]
      have hi := inB_iff.1 ha
      obtain ⟨j, rfl⟩ := Int.eq_ofNat_of_zero_le hi.1
      have hj : j < (rings t s r k).length := by omega
      have hx2 := rings_get hv hj
      obtain ⟨x, Hx⟩ : ∃ x, Hid (x = (rings t s r k).getD j 0) := ⟨_, rfl⟩
      rw [← Hx.out] at hx2
      rw [Int.toNat_natCast, ← Hx.out]
      go_enter Try.func14, Try.ntmps14
      go_wp2_with (first | (go_at_call 17; refine (validBase_any _ _ _ _ _).mono ?_; rintro e w1 ⟨rfl, hb1⟩; obtain ⟨hc1, hf1⟩ := bcell hb1) | (go_at_call 19; refine (within_any _ _ _ _).mono ?_; rintro e w2 ⟨rfl, rfl⟩) | (go_at_call 18; refine (ringsOf_any _ _ _ _ _ hv).mono ?_; rintro e w2 ⟨v, rfl, ho, hb2⟩; obtain ⟨a, c, rfl, hrv⟩ := ho.sliceI; obtain ⟨b, o, x', rfl, hb, hx, Hx'⟩ := hrv.at hj; obtain rfl := Hx.out.trans Hx'.out.symm) | (go_at_call 33; refine (ringLength_any _ _ (by omega) (by omega)).mono ?_; rintro e w3 ⟨rfl, rfl⟩))
      go_ret2
      exact ⟨rfl, bstep (bstep ((Below.refl _ _).alloc (Nat.le_refl _) _) hb1 (Nat.le_refl _)) hb2 (Nat.le_refl _)⟩

def codeR (t s r k i : Int) : Int := if vBase t s r k then if inB i 0 ((rings t s r k).length - 1) then 0 else 2 else 1
theorem l07Code_any (b : Nat) (t s r k i : Int) (w : World) (hb : b < w.heap.size) (h : BaseAt w b t s r k) : Calls Try.prog 22 #[.pointer (some ⟨b, 0, none⟩), .int .i64 i] w fun e w' => e = .returned (.int .i64 (codeR t s r k i)) ∧ Below w.heap.size w w' := by
  cases hv : vBase t s r k
  · rw [show codeR t s r k i = 1 by simp [codeR, hv]]
    go_enter Try.func22, Try.ntmps22
    go_wp2_with (go_at_call 31; refine (l07Ok_any _ _ _ _ _ _ h).mono ?_; rintro e w1 ⟨rfl, rfl⟩)
    go_ret
    exact ⟨rfl, Below.refl _ _⟩
  · have hl := rings_len t s r k
    cases ha : inB i 0 ((rings t s r k).length - 1)
    · rw [show codeR t s r k i = 2 by simp [codeR, hv, ha]]
      go_enter Try.func22, Try.ntmps22
      go_wp2_with (first | (go_at_call 31; refine (l07Ok_any _ _ _ _ _ _ h).mono ?_; rintro e w1 ⟨rfl, rfl⟩) | (go_at_call 32; refine (l00In_any _ _ _ _).mono ?_; rintro e w2 ⟨rfl, rfl⟩) | (go_at_call 24; refine (l07Rings_any _ _ _ _ _ _ hb h hv).mono ?_; rintro e w2 ⟨v, rfl, ho, hb2⟩; obtain ⟨a, c, rfl, hrv⟩ := ho.sliceI))
      go_ret
      exact ⟨rfl, hb2⟩
    · rw [show codeR t s r k i = 0 by simp [codeR, hv, ha]]
      go_enter Try.func22, Try.ntmps22
      go_wp2_with (first | (go_at_call 31; refine (l07Ok_any _ _ _ _ _ _ h).mono ?_; rintro e w1 ⟨rfl, rfl⟩) | (go_at_call 32; refine (l00In_any _ _ _ _).mono ?_; rintro e w2 ⟨rfl, rfl⟩) | (go_at_call 24; refine (l07Rings_any _ _ _ _ _ _ hb h hv).mono ?_; rintro e w2 ⟨v, rfl, ho, hb2⟩; obtain ⟨a, c, rfl, hrv⟩ := ho.sliceI))
      go_ret
      exact ⟨rfl, hb2⟩

theorem specLengthOfRing_any (t s r k i : Int) (w : World) : Calls Try.prog 15 #[.agg #[.int .i64 t, .int .i64 s, .int .i64 r, .int .i64 k], .int .i64 i] w fun e w' => e = ret2 (lengthR t s r k i) ∧ Below w.heap.size w w' := by
  have hB := BaseAt.boxed w t s r k 25
  cases hv : vBase t s r k
  · rw [show lengthR t s r k i = (0, 1) by simp [lengthR, hv]]
    have hcode : codeR t s r k i = 1 := by simp [codeR, hv]
    go_enter Try.func15, Try.ntmps15
    go_wp2_with (go_at_call 22; refine (l07Code_any _ _ _ _ _ _ _ (by simp) hB).mono ?_; rintro e w1 ⟨rfl, hb1⟩)
    go_ret2
    exact ⟨rfl, bstep ((Below.refl _ _).alloc (Nat.le_refl _) _) hb1 (Nat.le_refl _)⟩
  · have hl := rings_len t s r k
    cases ha : inB i 0 ((rings t s r k).length - 1)
    · rw [show lengthR t s r k i = (0, 2) by simp [lengthR, hv, ha]]
      have hcode : codeR t s r k i = 2 := by simp [codeR, hv, ha]
      go_enter Try.func15, Try.ntmps15
      go_wp2_with (go_at_call 22; refine (l07Code_any _ _ _ _ _ _ _ (by simp) hB).mono ?_; rintro e w1 ⟨rfl, hb1⟩)
      go_ret2
      exact ⟨rfl, bstep ((Below.refl _ _).alloc (Nat.le_refl _) _) hb1 (Nat.le_refl _)⟩
    · rw [show lengthR t s r k i = (ringLen ((rings t s r k).getD i.toNat 0), 0) by simp [lengthR, hv, ha]]
      have hcode : codeR t s r k i = 0 := by simp [codeR, hv, ha]
      have hi := inB_iff.1 ha
      obtain ⟨j, rfl⟩ := Int.eq_ofNat_of_zero_le hi.1
      have hj : j < (rings t s r k).length := by omega
      have hx2 := rings_get hv hj
      obtain ⟨x, Hx⟩ : ∃ x, Hid (x = (rings t s r k).getD j 0) := ⟨_, rfl⟩
      rw [← Hx.out] at hx2
      rw [Int.toNat_natCast, ← Hx.out]
      go_enter Try.func15, Try.ntmps15
      go_wp2_with (first | (go_at_call 22; refine (l07Code_any _ _ _ _ _ _ _ (by simp) hB).mono ?_; rintro e w1 ⟨rfl, hb1⟩; have hB1 := hB.below hb1 (by simp); have hz1 := hb1.size; simp at hz1) | (go_at_call 24; refine (l07Rings_any _ _ _ _ _ _ (by omega) hB1 hv).mono ?_; rintro e w2 ⟨v, rfl, ho, hb2⟩; obtain ⟨a, c, rfl, hrv⟩ := ho.sliceI; obtain ⟨b, o, x', rfl, hb, hx, Hx'⟩ := hrv.at hj; obtain rfl := Hx.out.trans Hx'.out.symm) | (go_at_call 34; refine (l07Length_any _ _ (by omega) (by omega)).mono ?_; rintro e w3 ⟨rfl, rfl⟩))
      go_ret2
      exact ⟨rfl, bstep (bstep ((Below.refl _ _).alloc (Nat.le_refl _) _) hb1 (Nat.le_refl _)) hb2 (Nat.le_refl _)⟩


set_option maxHeartbeats 1000000 in
theorem GapsAt_any (t s r k i : Int) (w : World) : Calls Try.prog 6 #[.agg #[.int .i64 t, .int .i64 s, .int .i64 r, .int .i64 k], .int .i64 i] w fun e w' => e = retF (gapsR t s r k i) ∧ Below w.heap.size w w' := by
  cases hv : vBase t s r k
  · rw [show gapsR t s r k i = (0, 0, 1) by simp [gapsR, hv]]
    go_enter Try.func6, Try.ntmps6
    go_wp2_with (go_at_call 17; refine (validBase_any _ _ _ _ _).mono ?_; rintro e w1 ⟨rfl, hb1⟩; obtain ⟨hc1, hf1⟩ := bcell hb1; have hz1 : w.heap.size + 1 < w1.heap.size := by have := hb1.size; simp at this; omega)
    refine bodyPost_ret (v := .tuple #[.agg #[.int .i64 0, .int .i64 0], .int .i64 1]) (by simp [results, Try.results6, go_sem, hc1]) rfl ⟨rfl, ?_⟩
    exact ((bstep (((Below.refl _ _).alloc (Nat.le_refl _) _).alloc (by simp) _) hb1 (Nat.le_refl _)).setCell (by simp) _).setCell (by simp) _
  · have hl := rings_len t s r k
    cases ha : inB i 0 ((rings t s r k).length - 1)
    · rw [show gapsR t s r k i = (0, 0, 2) by simp [gapsR, hv, ha]]
      go_enter Try.func6, Try.ntmps6
      go_wp2_with (first | (go_at_call 17; refine (validBase_any _ _ _ _ _).mono ?_; rintro e w1 ⟨rfl, hb1⟩; obtain ⟨hc1, hf1⟩ := bcell hb1; have hz1 : w.heap.size + 1 < w1.heap.size := by have := hb1.size; simp at this; omega) | (go_at_call 19; refine (within_any _ _ _ _).mono ?_; rintro e w2 ⟨rfl, rfl⟩) | (go_at_call 18; refine (ringsOf_any _ _ _ _ _ hv).mono ?_; rintro e w2 ⟨v, rfl, ho, hb2⟩; obtain ⟨a, c, rfl, hrv⟩ := ho.sliceI; obtain ⟨hc2, hf2⟩ := bcell hb2))
      refine bodyPost_ret (v := .tuple #[.agg #[.int .i64 0, .int .i64 0], .int .i64 2]) (by simp [results, Try.results6, go_sem, hc2, hc1, hz1]) rfl ⟨rfl, ?_⟩
      have h1 : Below w.heap.size w w2 := bstep (bstep (((Below.refl _ _).alloc (Nat.le_refl _) _).alloc (by simp) _) hb1 (Nat.le_refl _)) hb2 (Nat.le_refl _)
      exact (h1.setCell (by simp) _).setCell (by simp) _
    · have hi := inB_iff.1 ha
      obtain ⟨j, rfl⟩ := Int.eq_ofNat_of_zero_le hi.1
      have hj : j < (rings t s r k).length := by omega
      have hx2 := rings_get hv hj
      obtain ⟨x, Hx⟩ : ∃ x, Hid (x = (rings t s r k).getD j 0) := ⟨_, rfl⟩
      rw [← Hx.out] at hx2
      rw [show gapsR t s r k j = (lowN (44 * x) (7 * ends t s), lowD (44 * x) (7 * ends t s), 0) by simp only [gapsR, hv, ha, if_true, Int.toNat_natCast, Hx.out]]
      obtain ⟨⟨h1, h2⟩, ⟨h3, h4⟩, _⟩ := vBase_iff.1 hv
      have hE : 4 ≤ ends t s ∧ ends t s ≤ 48 := by unfold ends; omega
      have hji : (j : Int) < ((rings t s r k).length : Int) := by omega
      have e44 := IntWalk.i64_in (44 * x) (by omega)
      have e7 := IntWalk.i64_in (7 * ends t s) (by omega)
      clear h1 h2 h3 h4
      go_enter Try.func6, Try.ntmps6
      go_wp2_with (first | (go_at_call 17; refine (validBase_any _ _ _ _ _).mono ?_; rintro e w1 ⟨rfl, hb1⟩; obtain ⟨hc1, hf1⟩ := bcell hb1; have hz1 : w.heap.size + 1 < w1.heap.size := (by have := hb1.size; simp at this; omega); have hy1 : w.heap.size < w1.heap.size := by omega) | (go_at_call 19; refine (within_any _ _ _ _).mono ?_; rintro e w2 ⟨rfl, rfl⟩) | (go_at_call 18; refine (ringsOf_any _ _ _ _ _ hv).mono ?_; rintro e w2 ⟨v, rfl, ho, hb2⟩; obtain ⟨a, c, rfl, hrv⟩ := ho.sliceI; obtain ⟨hc2, hf2⟩ := bcell hb2; have hz2 : w.heap.size + 1 < w2.heap.size := (by have := hb2.size; omega); have hy2 : w.heap.size < w2.heap.size := (by omega); obtain ⟨b, o, x', rfl, hb, hx, Hx'⟩ := hrv.at hj; obtain rfl := Hx.out.trans Hx'.out.symm))
      go_region_with (first | (go_at_call 21; refine (endsOf_exact _ _ _ _ _ hv).mono ?_; rintro e w3 ⟨rfl, rfl⟩) | (go_at_call 20; refine (lowest_exact _ _ _ (by omega) (by omega) (by omega) (by omega)).mono ?_; rintro e w4 ⟨rfl, m, rfl⟩))
      all_goals
        go_wp2
        refine bodyPost_ret (v := .tuple #[.agg #[.int .i64 (lowN (44 * x) (7 * ends t s)), .int .i64 (lowD (44 * x) (7 * ends t s))], .int .i64 0]) (by simp [results, Try.results6, go_sem, hc2, hc1, hz1, hz2, hy2]) rfl ⟨rfl, ?_⟩
        have g1 : Below w.heap.size w w2 := bstep (bstep (((Below.refl _ _).alloc (Nat.le_refl _) _).alloc (by simp) _) hb1 (Nat.le_refl _)) hb2 (Nat.le_refl _)
        exact (by repeat' (first | (with_reducible exact g1) | (with_reducible exact Below.refl _ _) | (with_reducible refine bdrewN ?_ _) | (with_reducible refine Below.drew ?_) | (with_reducible refine Below.setCell ?_ ?_ _) | (with_reducible refine Below.alloc ?_ ?_ _) | omega | (simp; done) | (simp; omega)))

end Go.Proofs.Ytimomjkeknlcgaa
