/-
  Proved here: the law FnExactShareFront answers true at every input, and leaves its arguments as they were. No condition.
-/
import Derived.Test.YtlkhjhlncfdakaaFrame
import Derived.Test.YtlkhjhlncfdakaaTwill8
namespace Go.Proofs.Ytlkhjhlncfdakaa.fnExactShareFront
open Go.ChangeShapes Go.WideShapes Go.ChangeAt Go.RowKit
set_option linter.unusedVariables false

set_option maxHeartbeats 1000000 in
theorem walk (w : World) (p0 : Option Addr) (n0 c0 : Nat) (x0 : List Int) (st0 : Int) (r0 : RV w p0 n0 c0 (ints x0)) (b0 : ∀ x ∈ x0, -9223372036854775808 ≤ x ∧ x ≤ 9223372036854775807) (g0 : -9223372036854775808 ≤ st0 ∧ st0 ≤ 9223372036854775807) :
    Calls Try.prog 10 #[.agg #[.slice p0 n0 c0, .int .i64 st0]] w fun e w' => e = .returned (.bool true) ∧ Below w.heap.size w w' := by
  have hp0 := r0.small
  have hl0 := r0.lenI
  subst hl0
  by_cases hn0 : 1048576 < (x0.length : Int)
  · go_enter Try.func10, Try.ntmps10
    have hB : Below w.heap.size w (w.alloc (.cells #[.slice p0 x0.length c0, .int .i64 st0] 24)) := ((Below.refl _ _).alloc (by simp) _)
    go_wp2_with fail
    refine (szTwill_no _ _ _ _ _ _ (by omega) (by omega) (by omega)).mono ?_
    rintro e wz ⟨rfl, hb⟩
    go_wp2_with fail
    go_ret
    exact ⟨rfl, bstep hB hb (by simp)⟩
  have rA0 := (r0.below ((Below.refl _ _).alloc (Nat.le_refl _) (.cells #[.slice p0 x0.length c0, .int .i64 st0] 24)))
  have hB0 : Below w.heap.size w (w.alloc (.cells #[.slice p0 x0.length c0, .int .i64 st0] 24)) := ((Below.refl _ _).alloc (by simp) _)
  have hB : Below (w.alloc (.cells #[.slice p0 x0.length c0, .int .i64 st0] 24)).heap.size (w.alloc (.cells #[.slice p0 x0.length c0, .int .i64 st0] 24)) (w.alloc (.cells #[.slice p0 x0.length c0, .int .i64 st0] 24)) := Below.refl _ _
  go_enter Try.func10, Try.ntmps10
  have hd0 : decide (1048576 - (x0.length : Int) < 0) = false := by simp; omega
  go_wp2_with fail
  refine (szTwill_ok _ _ _ _ _ _ (by omega) (by omega)).mono ?_
  rintro e w1 ⟨rfl, hb⟩
  have sz1 : (w.alloc (.cells #[.slice p0 x0.length c0, .int .i64 st0] 24)).heap.size ≤ w1.heap.size := hb.size
  replace hB := bstep hB hb (Nat.le_refl _)
  clear hb
  have hA0 := ((CellsAt.box w #[.slice p0 x0.length c0, .int .i64 st0] 24)).below hB
  have dd0_0 := hA0.2 0 _ rfl
  have dd0_1 := hA0.2 1 _ rfl
  go_wp2_with fail
  refine (toTwill_any _ _ _ _ _ _ (by omega) (rA0.below hB)).mono ?_
  rintro e w2 ⟨v_y0, rfl, ho_y0, hb⟩
  obtain ⟨a_y0, c_y0, rfl, hr_y0⟩ := ho_y0.sliceI
  clear hr_y0
  have sz2 : w1.heap.size ≤ w2.heap.size := hb.size
  replace hB := bstep hB hb (Nat.le_refl _)
  clear hb
  replace ho_y0 : Own w2 w1.heap.size w2.heap.size _ _ _ := ho_y0
  clear dd0_0 dd0_1
  go_wp2_with fail
  refine (specShareFront_any _ _ _ _ _ _ ho_y0.rv).mono ?_
  rintro e w3 ⟨rfl, hb⟩
  have sz3 : w2.heap.size ≤ w3.heap.size := hb.size
  replace hB := bstep hB hb (Nat.le_refl _)
  replace ho_y0 := ho_y0.below hb
  clear hb
  have hx_f0 := CellsAt.box w3 #[.int .i64 (shareR x0 st0).1, .int .i64 (shareR x0 st0).2.1] 45
  replace hB := Below.alloc hB hB.size (.cells #[.int .i64 (shareR x0 st0).1, .int .i64 (shareR x0 st0).2.1] 45)
  replace ho_y0 := ho_y0.below ((Below.refl _ _).alloc (Nat.le_refl _) (.cells #[.int .i64 (shareR x0 st0).1, .int .i64 (shareR x0 st0).2.1] 45))
  have hA0 := ((CellsAt.box w #[.slice p0 x0.length c0, .int .i64 st0] 24)).below hB
  have dd0_0 := hA0.2 0 _ rfl
  have dd0_1 := hA0.2 1 _ rfl
  go_wp2_with fail
  refine (toTwill_any _ _ _ _ _ _ (by omega) (rA0.below hB)).mono ?_
  rintro e w4 ⟨v_x0, rfl, ho_x0, hb⟩
  obtain ⟨a_x0, c_x0, rfl, hr_x0⟩ := ho_x0.sliceI
  clear hr_x0
  have sz4 : w3.heap.size ≤ w4.heap.size := by have := hb.size; simp at this; omega
  replace hB := bstep hB hb (Nat.le_refl _)
  replace ho_y0 := ho_y0.below hb
  replace hx_f0 := hx_f0.below hb
  clear hb
  replace ho_x0 : Own w4 w3.heap.size w4.heap.size _ _ _ := ho_x0.mono (by simp) (Nat.le_refl _)
  clear dd0_0 dd0_1
  have hx_Xx0 := CellsAt.box w4 #[.slice a_x0 x0.length c_x0, .int .i64 st0] 27
  replace hB := Below.alloc hB hB.size (.cells #[.slice a_x0 x0.length c_x0, .int .i64 st0] 27)
  replace ho_y0 := ho_y0.below ((Below.refl _ _).alloc (Nat.le_refl _) (.cells #[.slice a_x0 x0.length c_x0, .int .i64 st0] 27))
  replace ho_x0 := ho_x0.below ((Below.refl _ _).alloc (Nat.le_refl _) (.cells #[.slice a_x0 x0.length c_x0, .int .i64 st0] 27))
  replace hx_f0 := hx_f0.below ((Below.refl _ _).alloc (Nat.le_refl _) (.cells #[.slice a_x0 x0.length c_x0, .int .i64 st0] 27))
  have dx_Xx0_0 := hx_Xx0.2 0 _ rfl
  have dx_Xx0_1 := hx_Xx0.2 1 _ rfl
  go_wp2_with fail
  refine (shareFront_any _ _ _ _ _ _ ho_x0.rv).mono ?_
  rintro e w5 ⟨rfl, hb⟩
  have sz5 : w4.heap.size ≤ w5.heap.size := by have := hb.size; simp at this; omega
  replace hB := bstep hB hb (Nat.le_refl _)
  replace ho_y0 := ho_y0.below hb
  replace ho_x0 := ho_x0.below hb
  replace hx_f0 := hx_f0.below hb
  replace hx_Xx0 := hx_Xx0.below hb
  clear hb
  clear dx_Xx0_0 dx_Xx0_1
  have hx_f1 := CellsAt.box w5 #[.int .i64 (shareR x0 st0).1, .int .i64 (shareR x0 st0).2.1] 45
  replace hB := Below.alloc hB hB.size (.cells #[.int .i64 (shareR x0 st0).1, .int .i64 (shareR x0 st0).2.1] 45)
  replace ho_y0 := ho_y0.below ((Below.refl _ _).alloc (Nat.le_refl _) (.cells #[.int .i64 (shareR x0 st0).1, .int .i64 (shareR x0 st0).2.1] 45))
  replace ho_x0 := ho_x0.below ((Below.refl _ _).alloc (Nat.le_refl _) (.cells #[.int .i64 (shareR x0 st0).1, .int .i64 (shareR x0 st0).2.1] 45))
  replace hx_f0 := hx_f0.below ((Below.refl _ _).alloc (Nat.le_refl _) (.cells #[.int .i64 (shareR x0 st0).1, .int .i64 (shareR x0 st0).2.1] 45))
  replace hx_Xx0 := hx_Xx0.below ((Below.refl _ _).alloc (Nat.le_refl _) (.cells #[.int .i64 (shareR x0 st0).1, .int .i64 (shareR x0 st0).2.1] 45))
  have dx_f0_0 := hx_f0.2 0 _ rfl
  have dx_f0_1 := hx_f0.2 1 _ rfl
  have dx_f1_0 := hx_f1.2 0 _ rfl
  have dx_f1_1 := hx_f1.2 1 _ rfl
  go_wp2_with fail
  refine (eqFracT_same _ _ _).mono ?_
  rintro e w6 ⟨rfl, hb⟩
  have sz6 : w5.heap.size ≤ w6.heap.size := by have := hb.size; simp at this; omega
  replace hB := bstep hB hb (Nat.le_refl _)
  replace ho_y0 := ho_y0.below hb
  replace ho_x0 := ho_x0.below hb
  replace hx_f0 := hx_f0.below hb
  replace hx_Xx0 := hx_Xx0.below hb
  replace hx_f1 := hx_f1.below hb
  clear hb
  clear dx_f0_0 dx_f0_1 dx_f1_0 dx_f1_1
  have hA0 := ((CellsAt.box w #[.slice p0 x0.length c0, .int .i64 st0] 24)).below hB
  have dd0_0 := hA0.2 0 _ rfl
  have dd0_1 := hA0.2 1 _ rfl
  have dx_Xx0_0 := hx_Xx0.2 0 _ rfl
  have dx_Xx0_1 := hx_Xx0.2 1 _ rfl
  have rZ := rA0.below hB
  have rX := ho_x0.rv
  have hxl := hx_Xx0.1
  clear ho_y0 ho_x0 hx_f0 hx_Xx0 hx_f1
  have HB := Lib.hid hB
  have RZ := Lib.hid rZ
  have RX := Lib.hid rX
  clear hB rZ rX
  go_wp2_with fail
  go_region_with (first | (go_at_call 13; refine (toTwill_any _ _ _ _ _ _ (by omega) (by exact RZ.out)).mono ?_; rintro e wz ⟨v_z, rfl, ho_z, hb⟩; obtain ⟨a_z, c_z, rfl, hr_z⟩ := ho_z.sliceI; replace hb : Below w6.heap.size w6 wz := bundrew hb; obtain ⟨hcz, hfz⟩ := bcell hb; have HBz := Lib.hid (bstep HB.out hb (Nat.le_refl _)); have Rz1 := Lib.hid hr_z; have Rz2 := Lib.hid (RX.out.below hb); clear hr_z ho_z hb) | (go_at_call 15; refine (eqTwill_same _ _ _ _ _ _ _ _ (by exact Rz2.out) (by exact Rz1.out)).mono ?_; rintro e wy ⟨rfl, hb⟩; have HBy := Lib.hid (bstep HBz.out hb (Nat.le_refl _)); clear hb))
  all_goals (go_wp2; go_ret; exact ⟨rfl, hB0.trans (HBy.out.mono hB0.size)⟩)

set_option maxRecDepth 100000 in
theorem lifted (os : Os) (started : os.Started) (H : Type) (enc : TypeId × Value → H) :
    ReturnsInHanded {} Try.checked os 10 .any (Rows.fnExactShareFrontSpec.pre6 enc Try.prog Try.f10 Rows.fnExactShareFrontRow.domain false) (Rows.fnExactShareFrontSpec.post enc Try.prog Try.f10 false true false false) := by
  refine returnsInHanded_of_change (C := Try.checked) own started (by kernel_rfl) Try.func10
    (ChangeSpec.witness6 (enc := enc) (C := Try.checked) false ⟨#[], #[.agg #[.slice none 0 0, .int .i64 0]], []⟩ 8 (by kernel_rfl) (by kernel_rfl) (by kernel_rfl) (by kernel_rfl)) ?_
  intro W base args ds gs before hval0 hW hcnd _
  have hval : ∀ (j : Nat) t v, Try.f10.params[j]? = some t → args[j]? = some v → Value.okWide Try.prog W .any base t v := hval0
  have hW' := hW
  obtain ⟨p, q, hA0, hV, rfl, hfz, hnd⟩ := hW
  have hA : DataW.TrodAll enc Try.prog W 0 (fun _ => true) true Try.f10.params.toList args.toList ds p := hA0
  rw [Try.params10] at hA hval
  obtain ⟨v0, vs0, d0, ds0, pP0, qQ0, hargs, rfl, rfl, k0, e0⟩ := trodAll_cons hA
  obtain ⟨rfl, rfl, rfl⟩ := trodAll_nil e0
  obtain rfl : args = #[v0] := by cases args; simp_all
  obtain ⟨rfl, rfl⟩ := trodVars_none hV
  have l0 := arg_lt k0
  obtain ⟨p0, n0, c0, x0, st0, rfl, r0, b0, g0⟩ := arg_twill (hval 0 _ v0 rfl rfl) k0
  clear hA0 hval0
  refine (walk W p0 n0 c0 x0 st0 r0 b0 g0).mono fun e W' ⟨he, bel⟩ => ?_
  subst he
  exact ⟨_, rfl, _, _, _, [], _, [], hW', trodAll_mk1 (shut_bool Try.underlying4 _), (trodAll_cons_mk (Below.trod laidOut (by kernel_rfl) (of_decide_eq_true (by kernel_rfl)) k0 bel l0) trodAll_mk0), rfl, bel.frame _, fun h => by cases h⟩

theorem over : Rows.fnExactShareFrontRow.holds Try.pinned (OpenSpec.ofChange Rows.fnExactShareFrontSpec) :=
  OpenClaim.holds_of_wide 10 Try.f10 rfl rfl rfl rfl rfl rfl rfl ⟨rfl, rfl, rfl, rfl, rfl⟩ rfl rfl rfl rfl rfl (by kernel_rfl) Try.func10 (by kernel_rfl)
    (of_decide_eq_true (by kernel_rfl)) (by unfold Func.isWrapper; first | (rw [if_pos (by decide +kernel)]; kernel_rfl) | (rw [if_neg (by decide +kernel)]; exact ⟨rfl, rfl⟩))
    (fun os started H enc _ => lifted os started H enc)

/-- the statement -/
theorem proved : Rows.FnExactShareFrontSaid := over
#print axioms proved
end Go.Proofs.Ytlkhjhlncfdakaa.fnExactShareFront
