/-
  Proved here: the law FnExactLockedWords answers true at every input, and leaves its arguments as they were. No condition.
-/
import Derived.Test.YtemgllkkocieoaaFrame
import Derived.Test.YtemgllkkocieoaaBend14
namespace Go.Proofs.Ytemgllkkocieoaa.fnExactLockedWords
open Go.ChangeShapes Go.WideShapes Go.ChangeAt Go.RowKit
set_option linter.unusedVariables false

set_option maxHeartbeats 2000000 in
set_option maxRecDepth 100000 in
theorem walk (w : World) (a0 : Int) (g0 : -9223372036854775808 ≤ a0 ∧ a0 ≤ 9223372036854775807) (a1 : Int) (g1 : -9223372036854775808 ≤ a1 ∧ a1 ≤ 9223372036854775807) :
    Calls Try.prog 4 #[.int .i64 a0, .int .i64 a1] w fun e w' => e = .returned (.bool true) ∧ Below w.heap.size w w' := by
  have hB : Below w.heap.size w w := Below.refl _ _
  have hlen : (lockR2 a0 a1).1.length ≤ 256 := lockR2_len _ _
  have hld : decide ((1 : Int) + ((lockR2 a0 a1).1.length : Int) < 0) = false := by simp; omega
  go_enter Try.func4, Try.ntmps4
  go_wp2_with fail
  refine (specLockedWords_any _ _ _ g0).mono ?_
  rintro e w1 ⟨v_w0, rfl, ho_w0, hb⟩
  obtain ⟨a_w0, c_w0, rfl, hr_w0⟩ := ho_w0.sliceS
  clear hr_w0
  have sz1 : w.heap.size ≤ w1.heap.size := hb.size
  replace hB := bstep hB hb (Nat.le_refl _)
  clear hb
  replace ho_w0 : Own w1 w.heap.size w1.heap.size _ _ _ := ho_w0
  go_wp2_with fail
  refine (lockedWords_any _ _ _ g0).mono ?_
  rintro e w2 ⟨v_g0, rfl, ho_g0, hb⟩
  obtain ⟨a_g0, c_g0, rfl, hr_g0⟩ := ho_g0.sliceS
  clear hr_g0
  have sz2 : w1.heap.size ≤ w2.heap.size := hb.size
  replace hB := bstep hB hb (Nat.le_refl _)
  replace ho_w0 := ho_w0.below hb
  clear hb
  replace ho_g0 : Own w2 w1.heap.size w2.heap.size _ _ _ := ho_g0
  go_wp2_with fail
  refine (eqStrs_same _ _ _ _ _ _ _ (ho_g0.rv) (ho_w0.rv)).mono ?_
  rintro e wq ⟨rfl, m3, rfl⟩
  replace hB := bdrewN hB m3
  replace ho_w0 := ho_w0.drewN m3
  replace ho_g0 := ho_g0.drewN m3
  go_wp2_with fail
  refine (markStrs_one _ _ _ _ _ (by omega) (by first | omega | (simp; done) | (simp; omega)) ho_g0).mono ?_
  rintro e w4 ⟨rfl, hm, hg⟩
  replace hB := below_marked hB ho_g0 hg (by omega) hB.size
  have sz4 : w2.heap.size ≤ w4.heap.size := hg.size
  replace ho_w0 := ho_w0.apart ho_g0 hg (by omega)
  replace ho_g0 := hm
  clear hm hg
  go_wp2_with fail
  refine (heldStrs_one _ _ _ _ (by omega) ho_g0.rv).mono ?_
  rintro e w5 ⟨rfl, hb⟩
  have sz5 : w4.heap.size ≤ w5.heap.size := hb.size
  replace hB := bstep hB hb (Nat.le_refl _)
  replace ho_w0 := ho_w0.below hb
  replace ho_g0 := ho_g0.below hb
  clear hb
  go_wp2_with fail
  refine (lockedWords_any _ _ _ g0).mono ?_
  rintro e w6 ⟨v_h0, rfl, ho_h0, hb⟩
  obtain ⟨a_h0, c_h0, rfl, hr_h0⟩ := ho_h0.sliceS
  clear hr_h0
  have sz6 : w5.heap.size ≤ w6.heap.size := hb.size
  replace hB := bstep hB hb (Nat.le_refl _)
  replace ho_w0 := ho_w0.below hb
  replace ho_g0 := ho_g0.below hb
  clear hb
  replace ho_h0 : Own w6 w5.heap.size w6.heap.size _ _ _ := ho_h0
  go_wp2_with fail
  refine (eqStrs_same _ _ _ _ _ _ _ (ho_h0.rv) (ho_w0.rv)).mono ?_
  rintro e wq ⟨rfl, m7, rfl⟩
  replace hB := bdrewN hB m7
  replace ho_w0 := ho_w0.drewN m7
  replace ho_g0 := ho_g0.drewN m7
  replace ho_h0 := ho_h0.drewN m7
  go_wp2_with fail
  refine (heldStrs_one _ _ _ _ (by omega) ho_g0.rv).mono ?_
  rintro e w8 ⟨rfl, hb⟩
  have sz8 : w6.heap.size ≤ w8.heap.size := hb.size
  replace hB := bstep hB hb (Nat.le_refl _)
  replace ho_w0 := ho_w0.below hb
  replace ho_g0 := ho_g0.below hb
  replace ho_h0 := ho_h0.below hb
  clear hb
  go_wp2_with fail
  go_ret
  exact ⟨rfl, hB⟩

set_option maxRecDepth 100000 in
theorem lifted (os : Os) (started : os.Started) (H : Type) (enc : TypeId × Value → H) :
    ReturnsInHanded {} Try.checked os 4 .any (Rows.fnExactLockedWordsSpec.pre6 enc Try.prog Try.f4 Rows.fnExactLockedWordsRow.domain false) (Rows.fnExactLockedWordsSpec.post enc Try.prog Try.f4 false true false false) := by
  refine returnsInHanded_of_change (C := Try.checked) own started (by kernel_rfl) Try.func4
    (ChangeSpec.witness6 (enc := enc) (C := Try.checked) false ⟨#[], #[.int .i64 0, .int .i64 0], []⟩ 8 (by kernel_rfl) (by kernel_rfl) (by kernel_rfl) (by kernel_rfl)) ?_
  intro W base args ds gs before hval0 hW hcnd _
  have hval : ∀ (j : Nat) t v, Try.f4.params[j]? = some t → args[j]? = some v → Value.okWide Try.prog W .any base t v := hval0
  have hW' := hW
  obtain ⟨p, q, hA0, hV, rfl, hfz, hnd⟩ := hW
  have hA : DataW.TrodAll enc Try.prog W 0 (fun _ => true) true Try.f4.params.toList args.toList ds p := hA0
  rw [Try.params4] at hA hval
  obtain ⟨v0, vs0, d0, ds0, pP0, qQ0, hargs, rfl, rfl, k0, e0⟩ := trodAll_cons hA
  obtain ⟨v1, vs1, d1, ds1, pP1, qQ1, rfl, rfl, rfl, k1, e1⟩ := trodAll_cons e0
  obtain ⟨rfl, rfl, rfl⟩ := trodAll_nil e1
  obtain rfl : args = #[v0, v1] := by cases args; simp_all
  obtain ⟨rfl, rfl⟩ := trodVars_none hV
  have l0 := arg_lt k0
  have l1 := arg_lt k1
  obtain ⟨a0, rfl, g0⟩ := arg_int (hval 0 _ v0 rfl rfl) k0
  obtain ⟨a1, rfl, g1⟩ := arg_int (hval 1 _ v1 rfl rfl) k1
  clear hA0 hval0
  refine (walk W a0 g0 a1 g1).mono fun e W' ⟨he, bel⟩ => ?_
  subst he
  exact ⟨_, rfl, _, _, _, [], _, [], hW', trodAll_mk1 (shut_bool Try.underlying4 _), (trodAll_cons_mk (Below.trod laidOut (by kernel_rfl) (of_decide_eq_true (by kernel_rfl)) k0 bel l0) (trodAll_cons_mk (Below.trod laidOut (by kernel_rfl) (of_decide_eq_true (by kernel_rfl)) k1 bel l1) trodAll_mk0)), rfl, bel.frame _, fun h => by cases h⟩

theorem over : Rows.fnExactLockedWordsRow.holds Try.pinned (OpenSpec.ofChange Rows.fnExactLockedWordsSpec) :=
  OpenClaim.holds_of_wide 4 Try.f4 rfl rfl rfl rfl rfl rfl rfl ⟨rfl, rfl, rfl, rfl, rfl⟩ rfl rfl rfl rfl rfl (by kernel_rfl) Try.func4 (by kernel_rfl)
    (of_decide_eq_true (by kernel_rfl)) (by unfold Func.isWrapper; first | (rw [if_pos (by decide +kernel)]; kernel_rfl) | (rw [if_neg (by decide +kernel)]; exact ⟨rfl, rfl⟩))
    (fun os started H enc _ => lifted os started H enc)

/-- the statement -/
theorem proved : Rows.FnExactLockedWordsSaid := over
#print axioms proved
end Go.Proofs.Ytemgllkkocieoaa.fnExactLockedWords
