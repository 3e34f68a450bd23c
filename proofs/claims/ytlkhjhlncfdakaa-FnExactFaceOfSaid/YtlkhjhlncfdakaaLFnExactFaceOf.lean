/-
  Proved here: the law FnExactFaceOf answers true at every input, and leaves its arguments as they were. No condition.
-/
import Derived.Test.YtlkhjhlncfdakaaFrame
import Derived.Test.YtlkhjhlncfdakaaTwill10
namespace Go.Proofs.Ytlkhjhlncfdakaa.fnExactFaceOf
open Go.ChangeShapes Go.WideShapes Go.ChangeAt Go.RowKit
set_option linter.unusedVariables false

set_option maxHeartbeats 2000000 in
set_option maxRecDepth 100000 in
theorem walk (w : World) (p0 : Option Addr) (n0 c0 : Nat) (x0 : List Int) (st0 : Int) (r0 : RV w p0 n0 c0 (ints x0)) (b0 : ∀ x ∈ x0, -9223372036854775808 ≤ x ∧ x ≤ 9223372036854775807) (g0 : -9223372036854775808 ≤ st0 ∧ st0 ≤ 9223372036854775807) (a1 : Int) (g1 : -9223372036854775808 ≤ a1 ∧ a1 ≤ 9223372036854775807) (a2 : Int) (g2 : -9223372036854775808 ≤ a2 ∧ a2 ≤ 9223372036854775807) :
    Calls Try.prog 8 #[.agg #[.slice p0 n0 c0, .int .i64 st0], .int .i64 a1, .int .i64 a2] w fun e w' => e = .returned (.bool true) ∧ Below w.heap.size w w' := by
  have hlen : (faceR x0 st0 a1 a2).1.length ≤ 40 := faceR_len _ _ _ _
  have hld : decide ((1 : Int) + ((faceR x0 st0 a1 a2).1.length : Int) < 0) = false := by simp; omega
  have Hld := Lib.hid hld
  clear hld
  have hp0 := r0.small
  have hl0 := r0.lenI
  subst hl0
  by_cases hn0 : 1048576 < (x0.length : Int)
  · go_enter Try.func8, Try.ntmps8
    have hB : Below w.heap.size w (w.alloc (.cells #[.slice p0 x0.length c0, .int .i64 st0] 24)) := ((Below.refl _ _).alloc (by simp) _)
    go_wp2_with fail
    refine (szTwill_no _ _ _ _ _ _ (by omega) (by omega) (by omega)).mono ?_
    rintro e wz ⟨rfl, hb⟩
    go_wp2_with fail
    go_ret
    exact ⟨rfl, bstep hB hb (by simp)⟩
  have rA0 := (r0.below ((Below.refl _ _).alloc (Nat.le_refl _) (.cells #[.slice p0 x0.length c0, .int .i64 st0] 24)))
  have hB0 : Below w.heap.size w (w.alloc (.cells #[.slice p0 x0.length c0, .int .i64 st0] 24)) := ((Below.refl _ _).alloc (by simp) _)
  have hB : Below (w.alloc (.cells #[.slice p0 x0.length c0, .int .i64 st0] 24)).heap.size (w.alloc (.cells #[.slice p0 x0.length c0, .int .i64 st0] 24)) (w.alloc (.cells #[.slice p0 x0.length c0, .int .i64 st0] 24)) := Below.refl _ _
  go_enter Try.func8, Try.ntmps8
  have hd0 : decide (1048576 - (x0.length : Int) < 0) = false := by simp; omega
  go_wp2_with fail
  refine (szTwill_ok _ _ _ _ _ _ (by omega) (by omega)).mono ?_
  rintro e w1 ⟨rfl, hb⟩
  have sz1 : (w.alloc (.cells #[.slice p0 x0.length c0, .int .i64 st0] 24)).heap.size ≤ w1.heap.size := hb.size
  replace hB := bstep hB hb (Nat.le_refl _)
  clear hb
  have hA0 := ((CellsAt.box w #[.slice p0 x0.length c0, .int .i64 st0] 24)).below hB
  have dd0_0 := hA0.2 0 _ rfl
  have dd0_1 := hA0.2 1 _ rfl
  go_wp2_with fail
  refine (toTwill_any _ _ _ _ _ _ (by omega) (rA0.below hB)).mono ?_
  rintro e w2 ⟨v_y0, rfl, ho_y0, hb⟩
  obtain ⟨a_y0, c_y0, rfl, hr_y0⟩ := ho_y0.sliceI
  clear hr_y0
  have sz2 : w1.heap.size ≤ w2.heap.size := hb.size
  replace hB := bstep hB hb (Nat.le_refl _)
  clear hb
  replace ho_y0 : Own w2 w1.heap.size w2.heap.size _ _ _ := ho_y0
  clear dd0_0 dd0_1
  go_wp2_with fail
  refine (specFaceOf_any _ _ _ _ _ _ _ _ ho_y0.rv).mono ?_
  rintro e w3 ⟨v_w0, rfl, ho_w0, hb⟩
  obtain ⟨a_w0, c_w0, rfl, hr_w0⟩ := ho_w0.sliceS
  clear hr_w0
  have sz3 : w2.heap.size ≤ w3.heap.size := hb.size
  replace hB := bstep hB hb (Nat.le_refl _)
  replace ho_y0 := ho_y0.below hb
  clear hb
  replace ho_w0 : Own w3 w2.heap.size w3.heap.size _ _ _ := ho_w0
  clear ho_y0
  have hA0 := ((CellsAt.box w #[.slice p0 x0.length c0, .int .i64 st0] 24)).below hB
  have dd0_0 := hA0.2 0 _ rfl
  have dd0_1 := hA0.2 1 _ rfl
  go_wp2_with fail
  refine (toTwill_any _ _ _ _ _ _ (by omega) (rA0.below hB)).mono ?_
  rintro e w4 ⟨v_x0, rfl, ho_x0, hb⟩
  obtain ⟨a_x0, c_x0, rfl, hr_x0⟩ := ho_x0.sliceI
  clear hr_x0
  have sz4 : w3.heap.size ≤ w4.heap.size := hb.size
  replace hB := bstep hB hb (Nat.le_refl _)
  replace ho_w0 := ho_w0.below hb
  clear hb
  replace ho_x0 : Own w4 w3.heap.size w4.heap.size _ _ _ := ho_x0
  clear dd0_0 dd0_1
  have hx_Xx0 := CellsAt.box w4 #[.slice a_x0 x0.length c_x0, .int .i64 st0] 27
  replace hB := Below.alloc hB hB.size (.cells #[.slice a_x0 x0.length c_x0, .int .i64 st0] 27)
  replace ho_w0 := ho_w0.below ((Below.refl _ _).alloc (Nat.le_refl _) (.cells #[.slice a_x0 x0.length c_x0, .int .i64 st0] 27))
  replace ho_x0 := ho_x0.below ((Below.refl _ _).alloc (Nat.le_refl _) (.cells #[.slice a_x0 x0.length c_x0, .int .i64 st0] 27))
  have dx_Xx0_0 := hx_Xx0.2 0 _ rfl
  have dx_Xx0_1 := hx_Xx0.2 1 _ rfl
  go_wp2_with fail
  refine (faceOf_any _ _ _ _ _ _ _ _ ho_x0.rv).mono ?_
  rintro e w5 ⟨v_g0, rfl, ho_g0, hb⟩
  obtain ⟨a_g0, c_g0, rfl, hr_g0⟩ := ho_g0.sliceS
  clear hr_g0
  have sz5 : w4.heap.size ≤ w5.heap.size := by have := hb.size; simp at this; omega
  replace hB := bstep hB hb (Nat.le_refl _)
  replace ho_w0 := ho_w0.below hb
  replace ho_x0 := ho_x0.below hb
  replace hx_Xx0 := hx_Xx0.below hb
  clear hb
  replace ho_g0 : Own w5 w4.heap.size w5.heap.size _ _ _ := ho_g0.mono (by simp) (Nat.le_refl _)
  clear dx_Xx0_0 dx_Xx0_1
  go_wp2_with fail
  refine (eqStrs_same _ _ _ _ _ _ _ (ho_g0.rv) (ho_w0.rv)).mono ?_
  rintro e wq ⟨rfl, m6, rfl⟩
  replace hB := bdrewN hB m6
  replace ho_w0 := ho_w0.drewN m6
  replace ho_x0 := ho_x0.drewN m6
  replace ho_g0 := ho_g0.drewN m6
  go_wp2_with fail
  obtain ⟨wu, hwu⟩ : ∃ wu, (w5.drewN m6) = wu := ⟨_, rfl⟩
  rw [hwu]
  rw [hwu] at hB ho_x0 ho_g0 ho_w0
  have hszu : w5.heap.size ≤ wu.heap.size := by rw [← hwu]; simp
  replace hx_Xx0 : CellsAt wu w4.heap.size [.slice a_x0 x0.length c_x0, .int .i64 st0] := by rw [← hwu]; exact hx_Xx0.drewN _
  clear hwu
  have hA0 := ((CellsAt.box w #[.slice p0 x0.length c0, .int .i64 st0] 24)).below hB
  have dd0_0 := hA0.2 0 _ rfl
  have dd0_1 := hA0.2 1 _ rfl
  have dx_Xx0_0 := hx_Xx0.2 0 _ rfl
  have dx_Xx0_1 := hx_Xx0.2 1 _ rfl
  have RZ := Lib.hid (rA0.below hB)
  have RX := Lib.hid ho_x0.rv
  have OX := Lib.hid ho_x0
  have OG := Lib.hid ho_g0
  have OW := Lib.hid ho_w0
  have HX := Lib.hid hx_Xx0
  have HB := Lib.hid hB
  have hxl := hx_Xx0.1
  clear ho_x0 ho_g0 ho_w0 hx_Xx0 hB
  go_cut [53] (fun sq wx => sq = .bool false ∧ Below (w.alloc (.cells #[.slice p0 x0.length c0, .int .i64 st0] 24)).heap.size (w.alloc (.cells #[.slice p0 x0.length c0, .int .i64 st0] 24)) wx ∧ wu.heap.size ≤ wx.heap.size ∧ CellsAt wx w4.heap.size [.slice a_x0 x0.length c_x0, .int .i64 st0] ∧ Own wx w3.heap.size w4.heap.size 2 (.slice a_x0 x0.length c_x0) (ints x0) ∧ Own wx w4.heap.size w5.heap.size 9 (.slice a_g0 (faceR x0 st0 a1 a2).1.length c_g0) (strs (faceR x0 st0 a1 a2).1) ∧ Own wx w2.heap.size w3.heap.size 9 (.slice a_w0 (faceR x0 st0 a1 a2).1.length c_w0) (strs (faceR x0 st0 a1 a2).1))
  case first =>
    go_region_with (first | (go_at_call 13; refine (toTwill_any _ _ _ _ _ _ (by omega) (by exact RZ.out)).mono ?_; rintro e wz ⟨v_z, rfl, ho_z, hb⟩; obtain ⟨a_z, c_z, rfl, hr_z⟩ := ho_z.sliceI; replace hb : Below wu.heap.size wu wz := bundrew hb; obtain ⟨hcz, hfz⟩ := bcell hb; have HBz := Lib.hid hb; have Rz1 := Lib.hid hr_z; have Rz2 := Lib.hid (RX.out.below hb); clear hr_z ho_z hb) | (go_at_call 15; refine (eqTwill_same _ _ _ _ _ _ _ _ (by exact Rz2.out) (by exact Rz1.out)).mono ?_; rintro e wy ⟨rfl, hb⟩; have HBy := Lib.hid (bstep HBz.out hb (Nat.le_refl _)); clear hb))
    all_goals (go_wp2_with fail; go_meet; exact ⟨rfl, bstep HB.out HBy.out (Nat.le_refl _), HBy.out.size, HX.out.below HBy.out, OX.out.below HBy.out, OG.out.below HBy.out, OW.out.below HBy.out⟩)
  obtain ⟨wc1, rfl⟩ : ∃ x : World, x = wc := ⟨_, rfl⟩
  obtain ⟨rfl, hB, szc, hx_Xx0, ho_x0, ho_g0, ho_w0⟩ := hcut
  clear HB RZ RX OX OG OW HX hxl dd0_0 dd0_1 dx_Xx0_0 dx_Xx0_1
  have dx_Xx0_0 := hx_Xx0.2 0 _ rfl
  have dx_Xx0_1 := hx_Xx0.2 1 _ rfl
  have hkd : decide ((1 : Int) + (x0.length : Int) < 0) = false := by simp; omega
  go_wp2_with fail
  refine (markTwill_any _ _ _ _ _ _ _ (by decide) (by decide) (by omega) ho_x0).mono ?_
  rintro e w7 ⟨rfl, hm, hg⟩
  have hBa := Below.alloc hB hB.size (.cells #[.slice a_x0 x0.length c_x0, .int .i64 st0] 27)
  replace hB := below_marked hBa (ho_x0.below ((Below.refl _ _).alloc (Nat.le_refl _) (.cells #[.slice a_x0 x0.length c_x0, .int .i64 st0] 27))) hg (by first | omega | (simp; omega)) hBa.size
  have sz7 : wc1.heap.size ≤ w7.heap.size := by have := hg.size; simp at this; omega
  replace ho_w0 := (ho_w0.below ((Below.refl _ _).alloc (Nat.le_refl _) (.cells #[.slice a_x0 x0.length c_x0, .int .i64 st0] 27))).apart (ho_x0.below ((Below.refl _ _).alloc (Nat.le_refl _) (.cells #[.slice a_x0 x0.length c_x0, .int .i64 st0] 27))) hg (by omega)
  replace ho_g0 := (ho_g0.below ((Below.refl _ _).alloc (Nat.le_refl _) (.cells #[.slice a_x0 x0.length c_x0, .int .i64 st0] 27))).apart (ho_x0.below ((Below.refl _ _).alloc (Nat.le_refl _) (.cells #[.slice a_x0 x0.length c_x0, .int .i64 st0] 27))) hg (by omega)
  replace ho_x0 := hm
  clear hm hg hBa
  clear dx_Xx0_0 dx_Xx0_1 hx_Xx0
  go_wp2_with fail
  refine (eqStrs_same _ _ _ _ _ _ _ (ho_g0.rv) (ho_w0.rv)).mono ?_
  rintro e wq ⟨rfl, m8, rfl⟩
  replace hB := bdrewN hB m8
  replace ho_w0 := ho_w0.drewN m8
  replace ho_x0 := ho_x0.drewN m8
  replace ho_g0 := ho_g0.drewN m8
  have hld := Hld.out
  go_wp2_with fail
  refine (markStrs_one _ _ _ _ _ (by omega) (by first | omega | (simp; omega)) ho_g0).mono ?_
  rintro e w9 ⟨rfl, hm, hg⟩
  replace hB := below_marked hB ho_g0 hg (by omega) hB.size
  have sz9 : w7.heap.size ≤ w9.heap.size := hg.size
  replace ho_w0 := ho_w0.apart ho_g0 hg (by omega)
  replace ho_x0 := ho_x0.apart ho_g0 hg (by omega)
  replace ho_g0 := hm
  clear hm hg
  go_wp2_with fail
  refine (heldStrs_one _ _ _ _ (by omega) ho_g0.rv).mono ?_
  rintro e w10 ⟨rfl, hb⟩
  have sz10 : w9.heap.size ≤ w10.heap.size := hb.size
  replace hB := bstep hB hb (Nat.le_refl _)
  replace ho_w0 := ho_w0.below hb
  replace ho_x0 := ho_x0.below hb
  replace ho_g0 := ho_g0.below hb
  clear hb
  have hA0 := ((CellsAt.box w #[.slice p0 x0.length c0, .int .i64 st0] 24)).below hB
  have dd0_0 := hA0.2 0 _ rfl
  have dd0_1 := hA0.2 1 _ rfl
  go_wp2_with fail
  refine (toTwill_any _ _ _ _ _ _ (by omega) (rA0.below hB)).mono ?_
  rintro e w11 ⟨v_y1, rfl, ho_y1, hb⟩
  obtain ⟨a_y1, c_y1, rfl, hr_y1⟩ := ho_y1.sliceI
  clear hr_y1
  have sz11 : w10.heap.size ≤ w11.heap.size := hb.size
  replace hB := bstep hB hb (Nat.le_refl _)
  replace ho_w0 := ho_w0.below hb
  replace ho_x0 := ho_x0.below hb
  replace ho_g0 := ho_g0.below hb
  clear hb
  replace ho_y1 : Own w11 w10.heap.size w11.heap.size _ _ _ := ho_y1
  clear dd0_0 dd0_1
  go_wp2_with fail
  refine (faceOf_any _ _ _ _ _ _ _ _ ho_y1.rv).mono ?_
  rintro e w12 ⟨v_h0, rfl, ho_h0, hb⟩
  obtain ⟨a_h0, c_h0, rfl, hr_h0⟩ := ho_h0.sliceS
  clear hr_h0
  have sz12 : w11.heap.size ≤ w12.heap.size := hb.size
  replace hB := bstep hB hb (Nat.le_refl _)
  replace ho_w0 := ho_w0.below hb
  replace ho_x0 := ho_x0.below hb
  replace ho_g0 := ho_g0.below hb
  replace ho_y1 := ho_y1.below hb
  clear hb
  replace ho_h0 : Own w12 w11.heap.size w12.heap.size _ _ _ := ho_h0
  go_wp2_with fail
  refine (eqStrs_same _ _ _ _ _ _ _ (ho_h0.rv) (ho_w0.rv)).mono ?_
  rintro e wq ⟨rfl, m13, rfl⟩
  replace hB := bdrewN hB m13
  replace ho_w0 := ho_w0.drewN m13
  replace ho_x0 := ho_x0.drewN m13
  replace ho_g0 := ho_g0.drewN m13
  replace ho_y1 := ho_y1.drewN m13
  replace ho_h0 := ho_h0.drewN m13
  go_wp2_with fail
  refine (heldStrs_one _ _ _ _ (by omega) ho_g0.rv).mono ?_
  rintro e w14 ⟨rfl, hb⟩
  have sz14 : w12.heap.size ≤ w14.heap.size := hb.size
  replace hB := bstep hB hb (Nat.le_refl _)
  replace ho_w0 := ho_w0.below hb
  replace ho_x0 := ho_x0.below hb
  replace ho_g0 := ho_g0.below hb
  replace ho_y1 := ho_y1.below hb
  replace ho_h0 := ho_h0.below hb
  clear hb
  go_wp2_with fail
  go_ret
  exact ⟨rfl, hB0.trans (hB.mono hB0.size)⟩

set_option maxRecDepth 100000 in
theorem lifted (os : Os) (started : os.Started) (H : Type) (enc : TypeId × Value → H) :
    ReturnsInHanded {} Try.checked os 8 .any (Rows.fnExactFaceOfSpec.pre6 enc Try.prog Try.f8 Rows.fnExactFaceOfRow.domain false) (Rows.fnExactFaceOfSpec.post enc Try.prog Try.f8 false true false false) := by
  refine returnsInHanded_of_change (C := Try.checked) own started (by kernel_rfl) Try.func8
    (ChangeSpec.witness6 (enc := enc) (C := Try.checked) false ⟨#[], #[.agg #[.slice none 0 0, .int .i64 0], .int .i64 0, .int .i64 0], []⟩ 8 (by kernel_rfl) (by kernel_rfl) (by kernel_rfl) (by kernel_rfl)) ?_
  intro W base args ds gs before hval0 hW hcnd _
  have hval : ∀ (j : Nat) t v, Try.f8.params[j]? = some t → args[j]? = some v → Value.okWide Try.prog W .any base t v := hval0
  have hW' := hW
  obtain ⟨p, q, hA0, hV, rfl, hfz, hnd⟩ := hW
  have hA : DataW.TrodAll enc Try.prog W 0 (fun _ => true) true Try.f8.params.toList args.toList ds p := hA0
  rw [Try.params8] at hA hval
  obtain ⟨v0, vs0, d0, ds0, pP0, qQ0, hargs, rfl, rfl, k0, e0⟩ := trodAll_cons hA
  obtain ⟨v1, vs1, d1, ds1, pP1, qQ1, rfl, rfl, rfl, k1, e1⟩ := trodAll_cons e0
  obtain ⟨v2, vs2, d2, ds2, pP2, qQ2, rfl, rfl, rfl, k2, e2⟩ := trodAll_cons e1
  obtain ⟨rfl, rfl, rfl⟩ := trodAll_nil e2
  obtain rfl : args = #[v0, v1, v2] := by cases args; simp_all
  obtain ⟨rfl, rfl⟩ := trodVars_none hV
  have l0 := arg_lt k0
  have l1 := arg_lt k1
  have l2 := arg_lt k2
  obtain ⟨p0, n0, c0, x0, st0, rfl, r0, b0, g0⟩ := arg_twill (hval 0 _ v0 rfl rfl) k0
  obtain ⟨a1, rfl, g1⟩ := arg_int (hval 1 _ v1 rfl rfl) k1
  obtain ⟨a2, rfl, g2⟩ := arg_int (hval 2 _ v2 rfl rfl) k2
  clear hA0 hval0
  refine (walk W p0 n0 c0 x0 st0 r0 b0 g0 a1 g1 a2 g2).mono fun e W' ⟨he, bel⟩ => ?_
  subst he
  exact ⟨_, rfl, _, _, _, [], _, [], hW', trodAll_mk1 (shut_bool Try.underlying4 _), (trodAll_cons_mk (Below.trod laidOut (by kernel_rfl) (of_decide_eq_true (by kernel_rfl)) k0 bel l0) (trodAll_cons_mk (Below.trod laidOut (by kernel_rfl) (of_decide_eq_true (by kernel_rfl)) k1 bel l1) (trodAll_cons_mk (Below.trod laidOut (by kernel_rfl) (of_decide_eq_true (by kernel_rfl)) k2 bel l2) trodAll_mk0))), rfl, bel.frame _, fun h => by cases h⟩

theorem over : Rows.fnExactFaceOfRow.holds Try.pinned (OpenSpec.ofChange Rows.fnExactFaceOfSpec) :=
  OpenClaim.holds_of_wide 8 Try.f8 rfl rfl rfl rfl rfl rfl rfl ⟨rfl, rfl, rfl, rfl, rfl⟩ rfl rfl rfl rfl rfl (by kernel_rfl) Try.func8 (by kernel_rfl)
    (of_decide_eq_true (by kernel_rfl)) (by unfold Func.isWrapper; first | (rw [if_pos (by decide +kernel)]; kernel_rfl) | (rw [if_neg (by decide +kernel)]; exact ⟨rfl, rfl⟩))
    (fun os started H enc _ => lifted os started H enc)

/-- the statement -/
theorem proved : Rows.FnExactFaceOfSaid := over
#print axioms proved
end Go.Proofs.Ytlkhjhlncfdakaa.fnExactFaceOf
