/-
  Proved here: the law FnExactStakePlan answers true at every input, and leaves its arguments as they were. No condition.
-/
import Derived.Test.YtkglcfeopicakaaFrame
import Derived.Test.YtkglcfeopicakaaShapeP
namespace Go.Proofs.Ytkglcfeopicakaa.fnExactStakePlan
open Go.ChangeShapes Go.WideShapes Go.ChangeAt Go.RowKit
set_option linter.unusedVariables false

set_option maxHeartbeats 2000000 in
set_option maxRecDepth 100000 in
theorem walk (w : World) (p0 : Option Addr) (n0 c0 : Nat) (x0 : List Int) (r0 : RV w p0 n0 c0 (ints x0)) (b0 : ∀ x ∈ x0, -9223372036854775808 ≤ x ∧ x ≤ 9223372036854775807) (a1 : Int) (g1 : -9223372036854775808 ≤ a1 ∧ a1 ≤ 9223372036854775807) (a2 : Int) (g2 : -9223372036854775808 ≤ a2 ∧ a2 ≤ 9223372036854775807) :
    Calls Try.prog 5 #[.slice p0 n0 c0, .int .i64 a1, .int .i64 a2] w fun e w' => e = .returned (.bool true) ∧ Below w.heap.size w w' := by
  by_cases hn0 : 1048576 < (n0 : Int)
  · go_enter Try.func5, Try.ntmps5
    go_wp2
    go_ret
    exact ⟨rfl, Below.refl _ _⟩
  have hl0 := r0.lenI
  subst hl0
  have hB : Below w.heap.size w w := Below.refl _ _
  have hlen : (planR x0 a1 a2).1.length ≤ 1000000 := planR_len _ _ _
  go_enter Try.func5, Try.ntmps5
  go_wp2_with fail
  refine (toInts_any _ _ _ _ _ (by omega) (r0.below hB)).mono ?_
  rintro e w1 ⟨v_y0, rfl, ho_y0, hb⟩
  obtain ⟨a_y0, c_y0, rfl, hr_y0⟩ := ho_y0.sliceI
  clear hr_y0
  have sz1 : w.heap.size ≤ w1.heap.size := hb.size
  replace hB := bstep hB hb (Nat.le_refl _)
  clear hb
  replace ho_y0 : Own w1 w.heap.size w1.heap.size _ _ _ := ho_y0
  go_wp2_with fail
  refine (specStakePlan_any _ _ _ _ _ _ _ ho_y0.rv).mono ?_
  rintro e w2 ⟨v_w0, rfl, ho_w0, hb⟩
  obtain ⟨a_w0, c_w0, rfl, hr_w0⟩ := ho_w0.sliceI
  clear hr_w0
  have sz2 : w1.heap.size ≤ w2.heap.size := hb.size
  replace hB := bstep hB hb (Nat.le_refl _)
  replace ho_y0 := ho_y0.below hb
  clear hb
  replace ho_w0 : Own w2 w1.heap.size w2.heap.size _ _ _ := ho_w0
  go_wp2_with fail
  refine (toInts_any _ _ _ _ _ (by omega) (r0.below hB)).mono ?_
  rintro e w3 ⟨v_x0, rfl, ho_x0, hb⟩
  obtain ⟨a_x0, c_x0, rfl, hr_x0⟩ := ho_x0.sliceI
  clear hr_x0
  have sz3 : w2.heap.size ≤ w3.heap.size := hb.size
  replace hB := bstep hB hb (Nat.le_refl _)
  replace ho_y0 := ho_y0.below hb
  replace ho_w0 := ho_w0.below hb
  clear hb
  replace ho_x0 : Own w3 w2.heap.size w3.heap.size _ _ _ := ho_x0
  go_wp2_with fail
  refine (stakePlan_any _ _ _ _ _ _ _ ho_x0.rv).mono ?_
  rintro e w4 ⟨v_g0, rfl, ho_g0, hb⟩
  obtain ⟨a_g0, c_g0, rfl, hr_g0⟩ := ho_g0.sliceI
  clear hr_g0
  have sz4 : w3.heap.size ≤ w4.heap.size := hb.size
  replace hB := bstep hB hb (Nat.le_refl _)
  replace ho_y0 := ho_y0.below hb
  replace ho_w0 := ho_w0.below hb
  replace ho_x0 := ho_x0.below hb
  clear hb
  replace ho_g0 : Own w4 w3.heap.size w4.heap.size _ _ _ := ho_g0
  go_wp2_with fail
  refine (eqInts_same _ _ _ _ _ _ _ (ho_g0.rv) (ho_w0.rv)).mono ?_
  rintro e wq ⟨rfl, m5, rfl⟩
  replace hB := bdrewN hB m5
  replace ho_y0 := ho_y0.drewN m5
  replace ho_w0 := ho_w0.drewN m5
  replace ho_x0 := ho_x0.drewN m5
  replace ho_g0 := ho_g0.drewN m5
  go_wp2_with fail
  refine (toInts_any _ _ _ _ _ (by omega) (r0.below hB)).mono ?_
  rintro e w6 ⟨v_z0, rfl, ho_z0, hb⟩
  obtain ⟨a_z0, c_z0, rfl, hr_z0⟩ := ho_z0.sliceI
  clear hr_z0
  have sz6 : w4.heap.size ≤ w6.heap.size := hb.size
  replace hB := bstep hB hb (Nat.le_refl _)
  replace ho_y0 := ho_y0.below hb
  replace ho_w0 := ho_w0.below hb
  replace ho_x0 := ho_x0.below hb
  replace ho_g0 := ho_g0.below hb
  clear hb
  replace ho_z0 : Own w6 w4.heap.size w6.heap.size _ _ _ := ho_z0
  go_wp2_with fail
  refine (eqInts_same _ _ _ _ _ _ _ (ho_x0.rv) (ho_z0.rv)).mono ?_
  rintro e wq ⟨rfl, m7, rfl⟩
  replace hB := bdrewN hB m7
  replace ho_y0 := ho_y0.drewN m7
  replace ho_w0 := ho_w0.drewN m7
  replace ho_x0 := ho_x0.drewN m7
  replace ho_g0 := ho_g0.drewN m7
  replace ho_z0 := ho_z0.drewN m7
  go_wp2_with fail
  refine (markInts_ints _ _ _ _ _ _ (by decide) (by decide) (by omega) ho_x0).mono ?_
  rintro e w8 ⟨rfl, hm, hg⟩
  replace hB := below_marked hB ho_x0 hg (by omega) hB.size
  have sz8 : w6.heap.size ≤ w8.heap.size := hg.size
  replace ho_y0 := ho_y0.apart ho_x0 hg (by omega)
  replace ho_w0 := ho_w0.apart ho_x0 hg (by omega)
  replace ho_g0 := ho_g0.apart ho_x0 hg (by omega)
  replace ho_z0 := ho_z0.apart ho_x0 hg (by omega)
  replace ho_x0 := hm
  clear hm hg
  go_wp2_with fail
  refine (eqInts_same _ _ _ _ _ _ _ (ho_g0.rv) (ho_w0.rv)).mono ?_
  rintro e wq ⟨rfl, m9, rfl⟩
  replace hB := bdrewN hB m9
  replace ho_y0 := ho_y0.drewN m9
  replace ho_w0 := ho_w0.drewN m9
  replace ho_x0 := ho_x0.drewN m9
  replace ho_g0 := ho_g0.drewN m9
  replace ho_z0 := ho_z0.drewN m9
  go_wp2_with fail
  refine (markInts_ints _ _ _ _ _ _ (by decide) (by decide) (by omega) ho_g0).mono ?_
  rintro e w10 ⟨rfl, hm, hg⟩
  replace hB := below_marked hB ho_g0 hg (by omega) hB.size
  have sz10 : w8.heap.size ≤ w10.heap.size := hg.size
  replace ho_y0 := ho_y0.apart ho_g0 hg (by omega)
  replace ho_w0 := ho_w0.apart ho_g0 hg (by omega)
  replace ho_x0 := ho_x0.apart ho_g0 hg (by omega)
  replace ho_z0 := ho_z0.apart ho_g0 hg (by omega)
  replace ho_g0 := hm
  clear hm hg
  go_wp2_with fail
  refine (heldInts_any _ _ _ _ _ (by decide) (by decide) (by omega) (ho_g0.rv)).mono ?_
  rintro e wq ⟨rfl, rfl⟩
  go_wp2_with fail
  refine (toInts_any _ _ _ _ _ (by omega) (r0.below hB)).mono ?_
  rintro e w11 ⟨v_y1, rfl, ho_y1, hb⟩
  obtain ⟨a_y1, c_y1, rfl, hr_y1⟩ := ho_y1.sliceI
  clear hr_y1
  have sz11 : w10.heap.size ≤ w11.heap.size := hb.size
  replace hB := bstep hB hb (Nat.le_refl _)
  replace ho_y0 := ho_y0.below hb
  replace ho_w0 := ho_w0.below hb
  replace ho_x0 := ho_x0.below hb
  replace ho_g0 := ho_g0.below hb
  replace ho_z0 := ho_z0.below hb
  clear hb
  replace ho_y1 : Own w11 w10.heap.size w11.heap.size _ _ _ := ho_y1
  go_wp2_with fail
  refine (stakePlan_any _ _ _ _ _ _ _ ho_y1.rv).mono ?_
  rintro e w12 ⟨v_h0, rfl, ho_h0, hb⟩
  obtain ⟨a_h0, c_h0, rfl, hr_h0⟩ := ho_h0.sliceI
  clear hr_h0
  have sz12 : w11.heap.size ≤ w12.heap.size := hb.size
  replace hB := bstep hB hb (Nat.le_refl _)
  replace ho_y0 := ho_y0.below hb
  replace ho_w0 := ho_w0.below hb
  replace ho_x0 := ho_x0.below hb
  replace ho_g0 := ho_g0.below hb
  replace ho_z0 := ho_z0.below hb
  replace ho_y1 := ho_y1.below hb
  clear hb
  replace ho_h0 : Own w12 w11.heap.size w12.heap.size _ _ _ := ho_h0
  go_wp2_with fail
  refine (eqInts_same _ _ _ _ _ _ _ (ho_h0.rv) (ho_w0.rv)).mono ?_
  rintro e wq ⟨rfl, m13, rfl⟩
  replace hB := bdrewN hB m13
  replace ho_y0 := ho_y0.drewN m13
  replace ho_w0 := ho_w0.drewN m13
  replace ho_x0 := ho_x0.drewN m13
  replace ho_g0 := ho_g0.drewN m13
  replace ho_z0 := ho_z0.drewN m13
  replace ho_y1 := ho_y1.drewN m13
  replace ho_h0 := ho_h0.drewN m13
  go_wp2_with fail
  refine (heldInts_any _ _ _ _ _ (by decide) (by decide) (by omega) (ho_g0.rv)).mono ?_
  rintro e wq ⟨rfl, rfl⟩
  go_wp2_with fail
  go_ret
  exact ⟨rfl, hB⟩

set_option maxRecDepth 100000 in
theorem lifted (os : Os) (started : os.Started) (H : Type) (enc : TypeId × Value → H) :
    ReturnsInHanded {} Try.checked os 5 .any (Rows.fnExactStakePlanSpec.pre6 enc Try.prog Try.f5 Rows.fnExactStakePlanRow.domain false) (Rows.fnExactStakePlanSpec.post enc Try.prog Try.f5 false true false false) := by
  refine returnsInHanded_of_change (C := Try.checked) own started (by kernel_rfl) Try.func5
    (ChangeSpec.witness6 (enc := enc) (C := Try.checked) false ⟨#[], #[.slice none 0 0, .int .i64 0, .int .i64 0], []⟩ 8 (by kernel_rfl) (by kernel_rfl) (by kernel_rfl) (by kernel_rfl)) ?_
  intro W base args ds gs before hval0 hW hcnd _
  have hval : ∀ (j : Nat) t v, Try.f5.params[j]? = some t → args[j]? = some v → Value.okWide Try.prog W .any base t v := hval0
  have hW' := hW
  obtain ⟨p, q, hA0, hV, rfl, hfz, hnd⟩ := hW
  have hA : DataW.TrodAll enc Try.prog W 0 (fun _ => true) true Try.f5.params.toList args.toList ds p := hA0
  rw [Try.params5] at hA hval
  obtain ⟨v0, vs0, d0, ds0, pP0, qQ0, hargs, rfl, rfl, k0, e0⟩ := trodAll_cons hA
  obtain ⟨v1, vs1, d1, ds1, pP1, qQ1, rfl, rfl, rfl, k1, e1⟩ := trodAll_cons e0
  obtain ⟨v2, vs2, d2, ds2, pP2, qQ2, rfl, rfl, rfl, k2, e2⟩ := trodAll_cons e1
  obtain ⟨rfl, rfl, rfl⟩ := trodAll_nil e2
  obtain rfl : args = #[v0, v1, v2] := by cases args; simp_all
  obtain ⟨rfl, rfl⟩ := trodVars_none hV
  have l0 := arg_lt k0
  have l1 := arg_lt k1
  have l2 := arg_lt k2
  obtain ⟨p0, n0, c0, x0, rfl, r0, b0⟩ := arg_ints (hval 0 _ v0 rfl rfl) k0
  obtain ⟨a1, rfl, g1⟩ := arg_int (hval 1 _ v1 rfl rfl) k1
  obtain ⟨a2, rfl, g2⟩ := arg_int (hval 2 _ v2 rfl rfl) k2
  clear hA0 hval0
  refine (walk W p0 n0 c0 x0 r0 b0 a1 g1 a2 g2).mono fun e W' ⟨he, bel⟩ => ?_
  subst he
  exact ⟨_, rfl, _, _, _, [], _, [], hW', trodAll_mk1 (shut_bool Try.underlying4 _), (trodAll_cons_mk (Below.trod laidOut (by kernel_rfl) (of_decide_eq_true (by kernel_rfl)) k0 bel l0) (trodAll_cons_mk (Below.trod laidOut (by kernel_rfl) (of_decide_eq_true (by kernel_rfl)) k1 bel l1) (trodAll_cons_mk (Below.trod laidOut (by kernel_rfl) (of_decide_eq_true (by kernel_rfl)) k2 bel l2) trodAll_mk0))), rfl, bel.frame _, fun h => by cases h⟩

theorem over : Rows.fnExactStakePlanRow.holds Try.pinned (OpenSpec.ofChange Rows.fnExactStakePlanSpec) :=
  OpenClaim.holds_of_wide 5 Try.f5 rfl rfl rfl rfl rfl rfl rfl ⟨rfl, rfl, rfl, rfl, rfl⟩ rfl rfl rfl rfl rfl (by kernel_rfl) Try.func5 (by kernel_rfl)
    (of_decide_eq_true (by kernel_rfl)) (by unfold Func.isWrapper; first | (rw [if_pos (by decide +kernel)]; kernel_rfl) | (rw [if_neg (by decide +kernel)]; exact ⟨rfl, rfl⟩))
    (fun os started H enc _ => lifted os started H enc)

/-- the statement -/
theorem proved : Rows.FnExactStakePlanSaid := over
#print axioms proved
end Go.Proofs.Ytkglcfeopicakaa.fnExactStakePlan
