/-
  Proved here: the law FnExactRingsOf answers true at every input, and leaves its arguments as they were. No condition.
-/
import Derived.Test.YtepeklmeiooaeaaFrame
import Derived.Test.YtepeklmeiooaeaaBase5
namespace Go.Proofs.Ytepeklmeiooaeaa.fnExactRingsOf
open Go.ChangeShapes Go.WideShapes Go.ChangeAt Go.RowKit
set_option linter.unusedVariables false

set_option maxHeartbeats 1000000 in
theorem walk (w : World) (t0 : Int) (s0 : Int) (r0 : Int) (k0 : Int) (gt0 : (-9223372036854775808 ≤ t0 ∧ t0 ≤ 9223372036854775807)) (gs0 : (-9223372036854775808 ≤ s0 ∧ s0 ≤ 9223372036854775807)) (gr0 : (-9223372036854775808 ≤ r0 ∧ r0 ≤ 9223372036854775807)) (gk0 : (-9223372036854775808 ≤ k0 ∧ k0 ≤ 9223372036854775807)) :
    Calls Try.prog 10 #[.agg #[.int .i64 t0, .int .i64 s0, .int .i64 r0, .int .i64 k0]] w fun e w' => e = .returned (.bool true) ∧ Below w.heap.size w w' := by
  have hB0 : Below w.heap.size w (w.alloc (.cells #[.int .i64 t0, .int .i64 s0, .int .i64 r0, .int .i64 k0] 23)) := ((Below.refl _ _).alloc (by simp) _)
  have hB : Below (w.alloc (.cells #[.int .i64 t0, .int .i64 s0, .int .i64 r0, .int .i64 k0] 23)).heap.size (w.alloc (.cells #[.int .i64 t0, .int .i64 s0, .int .i64 r0, .int .i64 k0] 23)) (w.alloc (.cells #[.int .i64 t0, .int .i64 s0, .int .i64 r0, .int .i64 k0] 23)) := Below.refl _ _
  have hlen : (ringsR t0 s0 r0 k0).1.length ≤ 1000000 := ringsR_len _ _ _ _
  go_enter Try.func10, Try.ntmps10
  go_wp2_with fail
  refine (toBase_any _ _ _ _ _).mono ?_
  rintro e w1 ⟨rfl, hb⟩
  have sz1 : (w.alloc (.cells #[.int .i64 t0, .int .i64 s0, .int .i64 r0, .int .i64 k0] 23)).heap.size ≤ w1.heap.size := hb.size
  replace hB := bstep hB hb (Nat.le_refl _)
  clear hb
  go_wp2_with fail
  refine (specRingsOf_any _ _ _ _ _).mono ?_
  rintro e w2 ⟨v_w0, rfl, ho_w0, hb⟩
  obtain ⟨a_w0, c_w0, rfl, hr_w0⟩ := ho_w0.sliceI
  clear hr_w0
  have sz2 : w1.heap.size ≤ w2.heap.size := hb.size
  replace hB := bstep hB hb (Nat.le_refl _)
  clear hb
  replace ho_w0 : Own w2 w1.heap.size w2.heap.size _ _ _ := ho_w0
  have hA0 := ((CellsAt.box w #[.int .i64 t0, .int .i64 s0, .int .i64 r0, .int .i64 k0] 23)).below hB
  have dd0_0 := hA0.2 0 _ rfl
  have dd0_1 := hA0.2 1 _ rfl
  have dd0_2 := hA0.2 2 _ rfl
  have dd0_3 := hA0.2 3 _ rfl
  go_wp2_with fail
  refine (toBase_any _ _ _ _ _).mono ?_
  rintro e w3 ⟨rfl, hb⟩
  have sz3 : w2.heap.size ≤ w3.heap.size := hb.size
  replace hB := bstep hB hb (Nat.le_refl _)
  replace ho_w0 := ho_w0.below hb
  clear hb
  clear dd0_0 dd0_1 dd0_2 dd0_3
  go_wp2_with fail
  refine (RingsOf_any _ _ _ _ _).mono ?_
  rintro e w4 ⟨v_g0, rfl, ho_g0, hb⟩
  obtain ⟨a_g0, c_g0, rfl, hr_g0⟩ := ho_g0.sliceI
  clear hr_g0
  have sz4 : w3.heap.size ≤ w4.heap.size := hb.size
  replace hB := bstep hB hb (Nat.le_refl _)
  replace ho_w0 := ho_w0.below hb
  clear hb
  replace ho_g0 : Own w4 w3.heap.size w4.heap.size _ _ _ := ho_g0
  go_wp2_with fail
  refine (eqInts_same _ _ _ _ _ _ _ (ho_g0.rv) (ho_w0.rv)).mono ?_
  rintro e wq ⟨rfl, m5, rfl⟩
  replace hB := bdrewN hB m5
  replace ho_w0 := ho_w0.drewN m5
  replace ho_g0 := ho_g0.drewN m5
  go_wp2_with fail
  refine (markInts_ints _ _ _ _ _ _ (by decide) (by decide) (by omega) ho_g0).mono ?_
  rintro e w6 ⟨rfl, hm, hg⟩
  replace hB := below_marked hB ho_g0 hg (by omega) hB.size
  have sz6 : w4.heap.size ≤ w6.heap.size := hg.size
  replace ho_w0 := ho_w0.apart ho_g0 hg (by omega)
  replace ho_g0 := hm
  clear hm hg
  go_wp2_with fail
  refine (heldInts_any _ _ _ _ _ (by decide) (by decide) (by omega) (ho_g0.rv)).mono ?_
  rintro e wq ⟨rfl, rfl⟩
  have hA0 := ((CellsAt.box w #[.int .i64 t0, .int .i64 s0, .int .i64 r0, .int .i64 k0] 23)).below hB
  have dd0_0 := hA0.2 0 _ rfl
  have dd0_1 := hA0.2 1 _ rfl
  have dd0_2 := hA0.2 2 _ rfl
  have dd0_3 := hA0.2 3 _ rfl
  go_wp2_with fail
  refine (toBase_any _ _ _ _ _).mono ?_
  rintro e w7 ⟨rfl, hb⟩
  have sz7 : w6.heap.size ≤ w7.heap.size := hb.size
  replace hB := bstep hB hb (Nat.le_refl _)
  replace ho_w0 := ho_w0.below hb
  replace ho_g0 := ho_g0.below hb
  clear hb
  clear dd0_0 dd0_1 dd0_2 dd0_3
  go_wp2_with fail
  refine (RingsOf_any _ _ _ _ _).mono ?_
  rintro e w8 ⟨v_h0, rfl, ho_h0, hb⟩
  obtain ⟨a_h0, c_h0, rfl, hr_h0⟩ := ho_h0.sliceI
  clear hr_h0
  have sz8 : w7.heap.size ≤ w8.heap.size := hb.size
  replace hB := bstep hB hb (Nat.le_refl _)
  replace ho_w0 := ho_w0.below hb
  replace ho_g0 := ho_g0.below hb
  clear hb
  replace ho_h0 : Own w8 w7.heap.size w8.heap.size _ _ _ := ho_h0
  go_wp2_with fail
  refine (eqInts_same _ _ _ _ _ _ _ (ho_h0.rv) (ho_w0.rv)).mono ?_
  rintro e wq ⟨rfl, m9, rfl⟩
  replace hB := bdrewN hB m9
  replace ho_w0 := ho_w0.drewN m9
  replace ho_g0 := ho_g0.drewN m9
  replace ho_h0 := ho_h0.drewN m9
  go_wp2_with fail
  refine (heldInts_any _ _ _ _ _ (by decide) (by decide) (by omega) (ho_g0.rv)).mono ?_
  rintro e wq ⟨rfl, rfl⟩
  go_wp2_with fail
  go_ret
  exact ⟨rfl, hB0.trans (hB.mono hB0.size)⟩

set_option maxRecDepth 100000 in
theorem lifted (os : Os) (started : os.Started) (H : Type) (enc : TypeId × Value → H) :
    ReturnsInHanded {} Try.checked os 10 .any (Rows.fnExactRingsOfSpec.pre6 enc Try.prog Try.f10 Rows.fnExactRingsOfRow.domain false) (Rows.fnExactRingsOfSpec.post enc Try.prog Try.f10 false true false false) := by
  refine returnsInHanded_of_change (C := Try.checked) own started (by kernel_rfl) Try.func10
    (ChangeSpec.witness6 (enc := enc) (C := Try.checked) false ⟨#[], #[.agg #[.int .i64 0, .int .i64 0, .int .i64 0, .int .i64 0]], []⟩ 8 (by kernel_rfl) (by kernel_rfl) (by kernel_rfl) (by kernel_rfl)) ?_
  intro W base args ds gs before hval0 hW hcnd _
  have hval : ∀ (j : Nat) t v, Try.f10.params[j]? = some t → args[j]? = some v → Value.okWide Try.prog W .any base t v := hval0
  have hW' := hW
  obtain ⟨p, q, hA0, hV, rfl, hfz, hnd⟩ := hW
  have hA : DataW.TrodAll enc Try.prog W 0 (fun _ => true) true Try.f10.params.toList args.toList ds p := hA0
  rw [Try.params10] at hA hval
  obtain ⟨v0, vs0, d0, ds0, pP0, qQ0, hargs, rfl, rfl, k0, e0⟩ := trodAll_cons hA
  obtain ⟨rfl, rfl, rfl⟩ := trodAll_nil e0
  obtain rfl : args = #[v0] := by cases args; simp_all
  obtain ⟨rfl, rfl⟩ := trodVars_none hV
  have l0 := arg_lt k0
  obtain ⟨t0, s0, r0, q0, rfl, gt0, gs0, gr0, gk0⟩ := arg_base (hval 0 _ v0 rfl rfl) k0
  clear hA0 hval0
  refine (walk W t0 s0 r0 q0 gt0 gs0 gr0 gk0).mono fun e W' ⟨he, bel⟩ => ?_
  subst he
  exact ⟨_, rfl, _, _, _, [], _, [], hW', trodAll_mk1 (shut_bool Try.underlying4 _), (trodAll_cons_mk (Below.trod laidOut (by kernel_rfl) (of_decide_eq_true (by kernel_rfl)) k0 bel l0) trodAll_mk0), rfl, bel.frame _, fun h => by cases h⟩

theorem over : Rows.fnExactRingsOfRow.holds Try.pinned (OpenSpec.ofChange Rows.fnExactRingsOfSpec) :=
  OpenClaim.holds_of_wide 10 Try.f10 rfl rfl rfl rfl rfl rfl rfl ⟨rfl, rfl, rfl, rfl, rfl⟩ rfl rfl rfl rfl rfl (by kernel_rfl) Try.func10 (by kernel_rfl)
    (of_decide_eq_true (by kernel_rfl)) (by unfold Func.isWrapper; first | (rw [if_pos (by decide +kernel)]; kernel_rfl) | (rw [if_neg (by decide +kernel)]; exact ⟨rfl, rfl⟩))
    (fun os started H enc _ => lifted os started H enc)

/-- the statement -/
theorem proved : Rows.FnExactRingsOfSaid := over
#print axioms proved
end Go.Proofs.Ytepeklmeiooaeaa.fnExactRingsOf
