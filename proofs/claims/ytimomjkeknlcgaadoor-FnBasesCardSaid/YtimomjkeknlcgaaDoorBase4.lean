/-
  Bases, on: the length of one round, the gaps at a round as a fraction.
-/
import Derived.Test.YtimomjkeknlcgaaDoorBase3
import Derived.Test.YtimomjkeknlcgaaDoorNumPlain
namespace Go.Proofs.YtimomjkeknlcgaaDoor
open Go.RowKit
set_option linter.unusedVariables false

/-- a fraction and a code -/
abbrev retF (p : Int × Int × Int) : Ending := .returned (.tuple #[.agg #[.int .i64 p.1, .int .i64 p.2.1], .int .i64 p.2.2])
def gapsR (t s r k i : Int) : Int × Int × Int :=
  if vBase t s r k then
    if inB i 0 ((rings t s r k).length - 1) then (lowN (44 * (rings t s r k).getD i.toNat 0) (7 * ends t s), lowD (44 * (rings t s r k).getD i.toNat 0) (7 * ends t s), 0) else (0, 0, 2)
  else (0, 0, 1)

theorem LengthOfRing_any (t s r k i : Int) (w : World) : Calls Tryd.prog 23 #[.agg #[.int .i64 t, .int .i64 s, .int .i64 r, .int .i64 k], .int .i64 i] w fun e w' => e = ret2 (lengthR t s r k i) ∧ Below w.heap.size w w' := by
  cases hv : vBase t s r k
  · rw [show lengthR t s r k i = (0, 1) by simp [lengthR, hv]]
    go_enter Tryd.func23, Tryd.ntmps23
    go_wp2_with (go_at_call 21; refine (validBase_any _ _ _ _ _).mono ?_; rintro e w1 ⟨rfl, hb1⟩)
    go_ret2
    exact ⟨rfl, bstep ((Below.refl _ _).alloc (Nat.le_refl _) _) hb1 (Nat.le_refl _)⟩
  · have hl := rings_len t s r k
    cases ha : inB i 0 ((rings t s r k).length - 1)
    · rw [show lengthR t s r k i = (0, 2) by simp [lengthR, hv, ha]]
      go_enter Tryd.func23, Tryd.ntmps23
      go_wp2_with (first | (go_at_call 21; refine (validBase_any _ _ _ _ _).mono ?_; rintro e w1 ⟨rfl, hb1⟩; obtain ⟨hc1, hf1⟩ := bcell hb1) | (go_at_call 36; refine (within_any _ _ _ _).mono ?_; rintro e w2 ⟨rfl, rfl⟩) | (go_at_call 29; refine (ringsOf_any _ _ _ _ _ hv).mono ?_; rintro e w2 ⟨v, rfl, ho, hb2⟩; obtain ⟨a, c, rfl, hrv⟩ := ho.sliceI))
      go_ret2
      exact ⟨rfl, bstep (bstep ((Below.refl _ _).alloc (Nat.le_refl _) _) hb1 (Nat.le_refl _)) hb2 (Nat.le_refl _)⟩
    · rw [show lengthR t s r k i = (ringLen ((rings t s r k).getD i.toNat 0), 0) by simp [lengthR, hv, ha]]
      have hi := inB_iff.1 ha
      obtain ⟨j, rfl⟩ := Int.eq_ofNat_of_zero_le hi.1
      have hj : j < (rings t s r k).length := by omega
      have hx2 := rings_get hv hj
      obtain ⟨x, Hx⟩ : ∃ x, Hid (x = (rings t s r k).getD j 0) := ⟨_, rfl⟩
      rw [← Hx.out] at hx2
      rw [Int.toNat_natCast, ← Hx.out]
      go_enter Tryd.func23, Tryd.ntmps23
      go_wp2_with (first | (go_at_call 21; refine (validBase_any _ _ _ _ _).mono ?_; rintro e w1 ⟨rfl, hb1⟩; obtain ⟨hc1, hf1⟩ := bcell hb1) | (go_at_call 36; refine (within_any _ _ _ _).mono ?_; rintro e w2 ⟨rfl, rfl⟩) | (go_at_call 29; refine (ringsOf_any _ _ _ _ _ hv).mono ?_; rintro e w2 ⟨v, rfl, ho, hb2⟩; obtain ⟨a, c, rfl, hrv⟩ := ho.sliceI; obtain ⟨b, o, x', rfl, hb, hx, Hx'⟩ := hrv.at hj; obtain rfl := Hx.out.trans Hx'.out.symm) | (go_at_call 31; refine (ringLength_any _ _ (by omega) (by omega)).mono ?_; rintro e w3 ⟨rfl, rfl⟩))
      go_ret2
      exact ⟨rfl, bstep (bstep ((Below.refl _ _).alloc (Nat.le_refl _) _) hb1 (Nat.le_refl _)) hb2 (Nat.le_refl _)⟩





end Go.Proofs.YtimomjkeknlcgaaDoor
