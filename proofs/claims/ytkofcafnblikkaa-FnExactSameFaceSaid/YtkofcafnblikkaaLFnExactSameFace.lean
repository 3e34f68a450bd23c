/-
  Proved here: the law FnExactSameFace answers true at every input, and leaves its arguments as they were. No condition.
-/
import Derived.Test.YtkofcafnblikkaaFrame
import Derived.HandedShaped
import Derived.Test.YtkofcafnblikkaaTwillFace2
namespace Go.Proofs.Ytkofcafnblikkaa.fnExactSameFace
open Go.ChangeShapes Go.WideShapes Go.ChangeAt Go.RowKit
set_option linter.unusedVariables false

set_option maxHeartbeats 16000000 in
set_option maxRecDepth 100000 in
theorem walk (w : World) (p0 : Option Addr) (n0 c0 : Nat) (x0 : List Int) (st0 : Int) (r0 : RV w p0 n0 c0 (ints x0)) (b0 : ∀ x ∈ x0, -9223372036854775808 ≤ x ∧ x ≤ 9223372036854775807) (g0 : -9223372036854775808 ≤ st0 ∧ st0 ≤ 9223372036854775807) (p1 : Option Addr) (n1 c1 : Nat) (x1 : List Int) (st1 : Int) (r1 : RV w p1 n1 c1 (ints x1)) (b1 : ∀ x ∈ x1, -9223372036854775808 ≤ x ∧ x ≤ 9223372036854775807) (g1 : -9223372036854775808 ≤ st1 ∧ st1 ≤ 9223372036854775807)
    (mx : Int) (hmx : w.cell? ⟨0, 0, none⟩ = some (.int .i64 mx)) : Calls Try.prog 3 #[.agg #[.slice p0 n0 c0, .int .i64 st0], .agg #[.slice p1 n1 c1, .int .i64 st1]] w fun e w' => e = .returned (.bool true) ∧ Below w.heap.size w w' := by
  --SHAPED
  have hm0 : 0 < w.heap.size := World.block_lt_of_cell? w ⟨0, 0, none⟩ hmx
  have Hmx := Lib.hid hmx
  clear hmx
  have hp0 := r0.small
  have hp1 := r1.small
  have hl0 := r0.lenI
  subst hl0
  have hl1 := r1.lenI
  subst hl1
  by_cases hn0 : 1048576 < (x0.length : Int)
  · go_enter Try.func3, Try.ntmps3
    have hB : Below w.heap.size w ((w.alloc (.cells #[.slice p0 x0.length c0, .int .i64 st0] 24)).alloc (.cells #[.slice p1 x1.length c1, .int .i64 st1] 24)) := (((Below.refl _ _).alloc (by simp) _).alloc (by simp) _)
    go_wp2_with fail
    refine (szTwill_no _ _ _ _ _ _ (by omega) (by omega) (by omega)).mono ?_
    rintro e wz ⟨rfl, hb⟩
    go_wp2_with fail
    go_ret
    exact ⟨rfl, bstep hB hb (by simp)⟩
  by_cases hn1 : 1048576 - (x0.length : Int) < (x1.length : Int)
  · go_enter Try.func3, Try.ntmps3
    have hB : Below w.heap.size w ((w.alloc (.cells #[.slice p0 x0.length c0, .int .i64 st0] 24)).alloc (.cells #[.slice p1 x1.length c1, .int .i64 st1] 24)) := (((Below.refl _ _).alloc (by simp) _).alloc (by simp) _)
    go_wp2_with fail
    refine (szTwill_ok _ _ _ _ _ _ (by omega) (by omega)).mono ?_
    rintro e w1 ⟨rfl, hb⟩
    replace hB := bstep hB hb (by simp)
    obtain ⟨hcb, hfb⟩ := bcell hb
    have hszb := hb.size
    simp only [World.size_alloc] at hszb hcb hfb
    clear hb
    have hdj0 : decide (1048576 - (x0.length : Int) < 0) = false := by simp; omega
    go_wp2_with fail
    refine (szTwill_no _ _ _ _ _ _ (by omega) (by omega) (by omega)).mono ?_
    rintro e wz ⟨rfl, hb⟩
    go_wp2_with fail
    go_ret
    exact ⟨rfl, bstep hB hb (by simp)⟩
  have rA0 := ((r0.below ((Below.refl _ _).alloc (Nat.le_refl _) (.cells #[.slice p0 x0.length c0, .int .i64 st0] 24))).below ((Below.refl _ _).alloc (Nat.le_refl _) (.cells #[.slice p1 x1.length c1, .int .i64 st1] 24)))
  have rA1 := ((r1.below ((Below.refl _ _).alloc (Nat.le_refl _) (.cells #[.slice p0 x0.length c0, .int .i64 st0] 24))).below ((Below.refl _ _).alloc (Nat.le_refl _) (.cells #[.slice p1 x1.length c1, .int .i64 st1] 24)))
  have hB0 : Below w.heap.size w ((w.alloc (.cells #[.slice p0 x0.length c0, .int .i64 st0] 24)).alloc (.cells #[.slice p1 x1.length c1, .int .i64 st1] 24)) := (((Below.refl _ _).alloc (by simp) _).alloc (by simp) _)
  have hB : Below ((w.alloc (.cells #[.slice p0 x0.length c0, .int .i64 st0] 24)).alloc (.cells #[.slice p1 x1.length c1, .int .i64 st1] 24)).heap.size ((w.alloc (.cells #[.slice p0 x0.length c0, .int .i64 st0] 24)).alloc (.cells #[.slice p1 x1.length c1, .int .i64 st1] 24)) ((w.alloc (.cells #[.slice p0 x0.length c0, .int .i64 st0] 24)).alloc (.cells #[.slice p1 x1.length c1, .int .i64 st1] 24)) := Below.refl _ _
  go_enter Try.func3, Try.ntmps3
  have hd0 : decide (1048576 - (x0.length : Int) < 0) = false := by simp; omega
  go_wp2_with fail
  refine (szTwill_ok _ _ _ _ _ _ (by omega) (by omega)).mono ?_
  rintro e w1 ⟨rfl, hb⟩
  have sz1 : ((w.alloc (.cells #[.slice p0 x0.length c0, .int .i64 st0] 24)).alloc (.cells #[.slice p1 x1.length c1, .int .i64 st1] 24)).heap.size ≤ w1.heap.size := hb.size
  replace hB := bstep hB hb (Nat.le_refl _)
  clear hb
  have hA1 := ((CellsAt.box (w.alloc (.cells #[.slice p0 x0.length c0, .int .i64 st0] 24)) #[.slice p1 x1.length c1, .int .i64 st1] 24)).below hB
  have dd1_0 := hA1.2 0 _ rfl
  simp only [World.size_alloc] at dd1_0
  have dd1_1 := hA1.2 1 _ rfl
  simp only [World.size_alloc] at dd1_1
  have hd1 : decide (1048576 - (x0.length : Int) - (x1.length : Int) < 0) = false := by simp; omega
  go_wp2_with fail
  refine (szTwill_ok _ _ _ _ _ _ (by omega) (by omega)).mono ?_
  rintro e w2 ⟨rfl, hb⟩
  have sz2 : w1.heap.size ≤ w2.heap.size := hb.size
  replace hB := bstep hB hb (Nat.le_refl _)
  clear hb
  clear dd1_0 dd1_1
  have hA0 := ((CellsAt.box w #[.slice p0 x0.length c0, .int .i64 st0] 24).below ((Below.refl _ _).alloc (Nat.le_refl _) _)).below hB
  have dd0_0 := hA0.2 0 _ rfl
  have dd0_1 := hA0.2 1 _ rfl
  have hA1 := ((CellsAt.box (w.alloc (.cells #[.slice p0 x0.length c0, .int .i64 st0] 24)) #[.slice p1 x1.length c1, .int .i64 st1] 24)).below hB
  have dd1_0 := hA1.2 0 _ rfl
  simp only [World.size_alloc] at dd1_0
  have dd1_1 := hA1.2 1 _ rfl
  simp only [World.size_alloc] at dd1_1
  have hbx0 : w.heap.size < w2.heap.size := by have := hB.size; simp at this; omega
  have hbx1 : w.heap.size + 1 < w2.heap.size := by have := hB.size; simp at this; omega
  have RZ0 := Lib.hid (rA0.below hB)
  have RZ1 := Lib.hid (rA1.below hB)
  have HB := Lib.hid hB
  clear hB
  go_wp2_with fail
  go_cut [6, 7] (fun s6 s7 wx => s6 = .bool (sameFaceR x0 x1 st0 st1).1 ∧ s7 = .int .i64 (sameFaceR x0 x1 st0 st1).2 ∧ Below ((w.alloc (.cells #[.slice p0 x0.length c0, .int .i64 st0] 24)).alloc (.cells #[.slice p1 x1.length c1, .int .i64 st1] 24)).heap.size ((w.alloc (.cells #[.slice p0 x0.length c0, .int .i64 st0] 24)).alloc (.cells #[.slice p1 x1.length c1, .int .i64 st1] 24)) wx)
  case first =>
    go_region_with (first | (go_at_call 6; refine (toTwill_any _ _ _ _ _ _ (by omega) (by first | exact RZ0.out | exact RZ1.out)).mono ?_; rintro e wza ⟨v_za, rfl, ho_za, hb⟩; obtain ⟨a_za, c_za, rfl, hr_za⟩ := ho_za.sliceI; replace hb : Below w2.heap.size w2 wza := bundrew hb; obtain ⟨hcza, hfza⟩ := bcell hb; have hsza := hb.size; have HBa := Lib.hid hb; have RA := Lib.hid hr_za; clear hr_za ho_za hb) | (go_at_call 6; refine (toTwill_any _ _ _ _ _ _ (by omega) (by first | exact RZ0.out.below HBa.out | exact RZ1.out.below HBa.out)).mono ?_; rintro e wzb ⟨v_zb, rfl, ho_zb, hb⟩; obtain ⟨a_zb, c_zb, rfl, hr_zb⟩ := ho_zb.sliceI; have RA2 := Lib.hid (RA.out.below hb); have HBb := Lib.hid (bstep HBa.out hb (Nat.le_refl _)); have RB := Lib.hid hr_zb; clear hr_zb ho_zb hb) | (go_at_call 5; refine (specSameFace_any _ _ _ _ _ _ _ _ _ _ _ (by first | exact RA2.out | exact RB.out) (by first | exact RA2.out | exact RB.out)).mono ?_; rintro e wzc ⟨rfl, hb⟩; have HBc := Lib.hid (bstep HB.out (bstep HBb.out hb (Nat.le_refl _)) (Nat.le_refl _)); clear hb))
    all_goals (go_wp2_with fail; go_meet; exact ⟨rfl, rfl, HBc.out⟩)
  obtain ⟨wc1, rfl⟩ : ∃ x : World, x = wc := ⟨_, rfl⟩
  obtain ⟨rfl, rfl, hB⟩ := hcut
  clear HB RZ0 RZ1 dd0_0 dd0_1 dd1_0 dd1_1
  have hA0 := ((CellsAt.box w #[.slice p0 x0.length c0, .int .i64 st0] 24).below ((Below.refl _ _).alloc (Nat.le_refl _) _)).below hB
  have dd0_0 := hA0.2 0 _ rfl
  have dd0_1 := hA0.2 1 _ rfl
  go_wp2_with fail
  refine (toTwill_any _ _ _ _ _ _ (by omega) (rA0.below hB)).mono ?_
  rintro e w3 ⟨v_x0, rfl, ho_x0, hb⟩
  obtain ⟨a_x0, c_x0, rfl, hr_x0⟩ := ho_x0.sliceI
  clear hr_x0
  have sz3 : wc1.heap.size ≤ w3.heap.size := hb.size
  replace hB := bstep hB hb (Nat.le_refl _)
  clear hb
  replace ho_x0 : Own w3 wc1.heap.size w3.heap.size _ _ _ := ho_x0
  clear dd0_0 dd0_1
  have hx_Xx0 := CellsAt.box w3 #[.slice a_x0 x0.length c_x0, .int .i64 st0] 28
  replace hB := Below.alloc hB hB.size (.cells #[.slice a_x0 x0.length c_x0, .int .i64 st0] 28)
  replace ho_x0 := ho_x0.below ((Below.refl _ _).alloc (Nat.le_refl _) (.cells #[.slice a_x0 x0.length c_x0, .int .i64 st0] 28))
  have hA1 := ((CellsAt.box (w.alloc (.cells #[.slice p0 x0.length c0, .int .i64 st0] 24)) #[.slice p1 x1.length c1, .int .i64 st1] 24)).below hB
  have dd1_0 := hA1.2 0 _ rfl
  simp only [World.size_alloc] at dd1_0
  have dd1_1 := hA1.2 1 _ rfl
  simp only [World.size_alloc] at dd1_1
  go_wp2_with fail
  refine (toTwill_any _ _ _ _ _ _ (by omega) (rA1.below hB)).mono ?_
  rintro e w4 ⟨v_x1, rfl, ho_x1, hb⟩
  obtain ⟨a_x1, c_x1, rfl, hr_x1⟩ := ho_x1.sliceI
  clear hr_x1
  have sz4 : w3.heap.size ≤ w4.heap.size := by have := hb.size; simp at this; omega
  replace hB := bstep hB hb (Nat.le_refl _)
  replace ho_x0 := ho_x0.below hb
  replace hx_Xx0 := hx_Xx0.below hb
  clear hb
  replace ho_x1 : Own w4 w3.heap.size w4.heap.size _ _ _ := ho_x1.mono (by simp) (Nat.le_refl _)
  clear dd1_0 dd1_1
  have hx_Xx1 := CellsAt.box w4 #[.slice a_x1 x1.length c_x1, .int .i64 st1] 28
  replace hB := Below.alloc hB hB.size (.cells #[.slice a_x1 x1.length c_x1, .int .i64 st1] 28)
  replace ho_x0 := ho_x0.below ((Below.refl _ _).alloc (Nat.le_refl _) (.cells #[.slice a_x1 x1.length c_x1, .int .i64 st1] 28))
  replace ho_x1 := ho_x1.below ((Below.refl _ _).alloc (Nat.le_refl _) (.cells #[.slice a_x1 x1.length c_x1, .int .i64 st1] 28))
  replace hx_Xx0 := hx_Xx0.below ((Below.refl _ _).alloc (Nat.le_refl _) (.cells #[.slice a_x1 x1.length c_x1, .int .i64 st1] 28))
  have dx_Xx0_0 := hx_Xx0.2 0 _ rfl
  have dx_Xx0_1 := hx_Xx0.2 1 _ rfl
  have dx_Xx1_0 := hx_Xx1.2 0 _ rfl
  have dx_Xx1_1 := hx_Xx1.2 1 _ rfl
  go_wp2_with fail
  refine (sameFace_any _ _ _ _ _ _ _ _ _ _ mx _ ho_x0.rv ho_x1.rv (bel_cell (bel_cell Hmx.out hB0 hm0) hB (by have := hB0.size; omega))).mono ?_
  rintro e w5 ⟨rfl, hb⟩
  have sz5 : w4.heap.size ≤ w5.heap.size := by have := hb.size; simp at this; omega
  replace hB := bstep hB hb (Nat.le_refl _)
  replace ho_x0 := ho_x0.below hb
  replace ho_x1 := ho_x1.below hb
  replace hx_Xx0 := hx_Xx0.below hb
  replace hx_Xx1 := hx_Xx1.below hb
  clear hb
  clear dx_Xx0_0 dx_Xx0_1 dx_Xx1_0 dx_Xx1_1
  have hA0 := ((CellsAt.box w #[.slice p0 x0.length c0, .int .i64 st0] 24).below ((Below.refl _ _).alloc (Nat.le_refl _) _)).below hB
  have dd0_0 := hA0.2 0 _ rfl
  have dd0_1 := hA0.2 1 _ rfl
  have dx_Xx0_0 := hx_Xx0.2 0 _ rfl
  have dx_Xx0_1 := hx_Xx0.2 1 _ rfl
  have RZ := Lib.hid (rA0.below hB)
  have RX := Lib.hid ho_x0.rv
  have RY := Lib.hid ho_x1.rv
  have HX := Lib.hid hx_Xx1
  have HB := Lib.hid hB
  have hxl := hx_Xx0.1
  have hyl := hx_Xx1.1
  clear ho_x0 ho_x1 hx_Xx0 hx_Xx1 hB
  go_wp2_with fail
  go_cut [52] (fun sq wx => sq = .bool false ∧ Below ((w.alloc (.cells #[.slice p0 x0.length c0, .int .i64 st0] 24)).alloc (.cells #[.slice p1 x1.length c1, .int .i64 st1] 24)).heap.size ((w.alloc (.cells #[.slice p0 x0.length c0, .int .i64 st0] 24)).alloc (.cells #[.slice p1 x1.length c1, .int .i64 st1] 24)) wx ∧ CellsAt wx w4.heap.size [.slice a_x1 x1.length c_x1, .int .i64 st1] ∧ RV wx a_x1 x1.length c_x1 (ints x1))
  case first =>
    go_region_with (first | (go_at_call 6; refine (toTwill_any _ _ _ _ _ _ (by omega) (by exact RZ.out)).mono ?_; rintro e wz ⟨v_z, rfl, ho_z, hb⟩; obtain ⟨a_z, c_z, rfl, hr_z⟩ := ho_z.sliceI; replace hb : Below w5.heap.size w5 wz := bundrew hb; obtain ⟨hcz, hfz⟩ := bcell hb; have HBz := Lib.hid hb; have Rz1 := Lib.hid hr_z; have Rz2 := Lib.hid (RX.out.below hb); clear hr_z ho_z hb) | (go_at_call 8; refine (eqTwill_same _ _ _ _ _ _ _ _ (by exact Rz2.out) (by exact Rz1.out)).mono ?_; rintro e wy ⟨rfl, hb⟩; have HBy := Lib.hid (bstep HBz.out hb (Nat.le_refl _)); clear hb))
    all_goals (go_wp2_with fail; go_meet; exact ⟨rfl, bstep HB.out HBy.out (Nat.le_refl _), HX.out.below HBy.out, RY.out.below HBy.out⟩)
  obtain ⟨wc2, rfl⟩ : ∃ x : World, x = wc := ⟨_, rfl⟩
  obtain ⟨rfl, hB, hx_Xx1, hr_x1⟩ := hcut
  clear HB RZ RX RY HX hxl hyl dd0_0 dd0_1 dx_Xx0_0 dx_Xx0_1
  have hA1 := ((CellsAt.box (w.alloc (.cells #[.slice p0 x0.length c0, .int .i64 st0] 24)) #[.slice p1 x1.length c1, .int .i64 st1] 24)).below hB
  have dd1_0 := hA1.2 0 _ rfl
  simp only [World.size_alloc] at dd1_0
  have dd1_1 := hA1.2 1 _ rfl
  simp only [World.size_alloc] at dd1_1
  have dx1_0 := hx_Xx1.2 0 _ rfl
  have dx1_1 := hx_Xx1.2 1 _ rfl
  have hxl := hx_Xx1.1
  have RZ := Lib.hid (rA1.below hB)
  have RX := Lib.hid hr_x1
  have HB := Lib.hid hB
  clear hx_Xx1 hr_x1 hB
  go_wp2_with fail
  go_region_with (first | (go_at_call 6; refine (toTwill_any _ _ _ _ _ _ (by omega) (by exact RZ.out)).mono ?_; rintro e wz ⟨v_z, rfl, ho_z, hb⟩; obtain ⟨a_z, c_z, rfl, hr_z⟩ := ho_z.sliceI; replace hb : Below wc2.heap.size wc2 wz := bundrew hb; obtain ⟨hcz, hfz⟩ := bcell hb; have HBz := Lib.hid hb; have Rz1 := Lib.hid hr_z; have Rz2 := Lib.hid (RX.out.below hb); clear hr_z ho_z hb) | (go_at_call 8; refine (eqTwill_same _ _ _ _ _ _ _ _ (by exact Rz2.out) (by exact Rz1.out)).mono ?_; rintro e wy ⟨rfl, hb⟩; have HBy := Lib.hid (bstep HBz.out hb (Nat.le_refl _)); clear hb))
  all_goals (go_wp2; go_ret; exact ⟨rfl, hB0.trans ((bstep HB.out HBy.out (Nat.le_refl _)).mono hB0.size)⟩)

set_option maxRecDepth 100000 in
theorem lifted (os : Os) (started : os.Started) (H : Type) (enc : TypeId × Value → H) :
    ReturnsInHanded {} Try.checked os 3 .any (Rows.fnExactSameFaceSpec.pre6 enc Try.prog Try.f3 Rows.fnExactSameFaceRow.domain false) (Rows.fnExactSameFaceSpec.post enc Try.prog Try.f3 false true false false) := by
  refine returnsInHanded_of_change_shaped (C := Try.checked) own started (by kernel_rfl) Try.func3
    (ChangeSpec.witness6 (enc := enc) (C := Try.checked) false ⟨#[], #[.agg #[.slice none 0 0, .int .i64 0], .agg #[.slice none 0 0, .int .i64 0]], []⟩ 8 (by kernel_rfl) (by kernel_rfl) (by kernel_rfl) (by kernel_rfl)) ?_
  intro W base args ds gs before hval0 hW hcnd _ hsh _
  obtain ⟨mx, hmx⟩ := Try.laysM144.s1_3 W hsh
  have hval : ∀ (j : Nat) t v, Try.f3.params[j]? = some t → args[j]? = some v → Value.okWide Try.prog W .any base t v := hval0
  have hW' := hW
  obtain ⟨p, q, hA0, hV, rfl, hfz, hnd⟩ := hW
  have hA : DataW.TrodAll enc Try.prog W 0 (fun _ => true) true Try.f3.params.toList args.toList ds p := hA0
  rw [Try.params3] at hA hval
  obtain ⟨v0, vs0, d0, ds0, pP0, qQ0, hargs, rfl, rfl, k0, e0⟩ := trodAll_cons hA
  obtain ⟨v1, vs1, d1, ds1, pP1, qQ1, rfl, rfl, rfl, k1, e1⟩ := trodAll_cons e0
  obtain ⟨rfl, rfl, rfl⟩ := trodAll_nil e1
  obtain rfl : args = #[v0, v1] := by cases args; simp_all
  obtain ⟨rfl, rfl⟩ := trodVars_none hV
  have l0 := arg_lt k0
  have l1 := arg_lt k1
  obtain ⟨p0, n0, c0, x0, st0, rfl, r0, b0, g0⟩ := arg_twill (hval 0 _ v0 rfl rfl) k0
  obtain ⟨p1, n1, c1, x1, st1, rfl, r1, b1, g1⟩ := arg_twill (hval 1 _ v1 rfl rfl) k1
  clear hA0 hval0
  refine (walk W p0 n0 c0 x0 st0 r0 b0 g0 p1 n1 c1 x1 st1 r1 b1 g1 mx hmx).mono fun e W' ⟨he, bel⟩ => ?_
  subst he
  exact ⟨_, rfl, _, _, _, [], _, [], hW', trodAll_mk1 (shut_bool Try.underlying4 _), (trodAll_cons_mk (Below.trod laidOut (by kernel_rfl) (of_decide_eq_true (by kernel_rfl)) k0 bel l0) (trodAll_cons_mk (Below.trod laidOut (by kernel_rfl) (of_decide_eq_true (by kernel_rfl)) k1 bel l1) trodAll_mk0)), rfl, bel.frame _, fun h => by cases h⟩

theorem over : Rows.fnExactSameFaceRow.holds Try.pinned (OpenSpec.ofChange Rows.fnExactSameFaceSpec) :=
  OpenClaim.holds_of_wide 3 Try.f3 rfl rfl rfl rfl rfl rfl rfl ⟨rfl, rfl, rfl, rfl, rfl⟩ rfl rfl rfl rfl rfl (by kernel_rfl) Try.func3 (by kernel_rfl)
    (of_decide_eq_true (by kernel_rfl)) (by unfold Func.isWrapper; first | (rw [if_pos (by decide +kernel)]; kernel_rfl) | (rw [if_neg (by decide +kernel)]; exact ⟨rfl, rfl⟩))
    (fun os started H enc _ => lifted os started H enc)

/-- the statement -/
theorem proved : Rows.FnExactSameFaceSaid := over
#print axioms proved
end Go.Proofs.Ytkofcafnblikkaa.fnExactSameFace
