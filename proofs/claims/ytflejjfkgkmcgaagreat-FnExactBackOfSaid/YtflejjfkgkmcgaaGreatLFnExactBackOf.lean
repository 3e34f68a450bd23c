/-
  Proved here: the law FnExactBackOf answers true at every input, and leaves its arguments as they were. No condition.
-/
import Derived.Test.YtflejjfkgkmcgaaGreatFrame
import Derived.Test.YtflejjfkgkmcgaaGreatTwillBack2
namespace Go.Proofs.YtflejjfkgkmcgaaGreat.fnExactBackOf
open Go.ChangeShapes Go.WideShapes Go.ChangeAt Go.RowKit
set_option linter.unusedVariables false

set_option maxHeartbeats 16000000 in
set_option maxRecDepth 100000 in
theorem walk (w : World) (p0 : Option Addr) (n0 c0 : Nat) (x0 : List Int) (st0 : Int) (r0 : RV w p0 n0 c0 (ints x0)) (b0 : ∀ x ∈ x0, -9223372036854775808 ≤ x ∧ x ≤ 9223372036854775807) (g0 : -9223372036854775808 ≤ st0 ∧ st0 ≤ 9223372036854775807) :
    Calls Tryz.prog 3 #[.agg #[.slice p0 n0 c0, .int .i64 st0]] w fun e w' => e = .returned (.bool true) ∧ Below w.heap.size w w' := by
  have hlen : (backR x0 st0).1.length ≤ 1000000 := backR_len _ _
  have hkd : decide ((1 : Int) + ((backR x0 st0).1.length : Int) < 0) = false := by simp; omega
  have hp0 := r0.small
  have hl0 := r0.lenI
  subst hl0
  by_cases hn0 : 1048576 < (x0.length : Int)
  · go_enter Tryz.func3, Tryz.ntmps3
    have hB : Below w.heap.size w (w.alloc (.cells #[.slice p0 x0.length c0, .int .i64 st0] 24)) := ((Below.refl _ _).alloc (by simp) _)
    go_wp2_with fail
    refine (szTwill_no _ _ _ _ _ _ (by omega) (by omega) (by omega)).mono ?_
    rintro e wz ⟨rfl, hb⟩
    go_wp2_with fail
    go_ret
    exact ⟨rfl, bstep hB hb (by simp)⟩
  have rA0 := (r0.below ((Below.refl _ _).alloc (Nat.le_refl _) (.cells #[.slice p0 x0.length c0, .int .i64 st0] 24)))
  have hB0 : Below w.heap.size w (w.alloc (.cells #[.slice p0 x0.length c0, .int .i64 st0] 24)) := ((Below.refl _ _).alloc (by simp) _)
  have hB : Below (w.alloc (.cells #[.slice p0 x0.length c0, .int .i64 st0] 24)).heap.size (w.alloc (.cells #[.slice p0 x0.length c0, .int .i64 st0] 24)) (w.alloc (.cells #[.slice p0 x0.length c0, .int .i64 st0] 24)) := Below.refl _ _
  go_enter Tryz.func3, Tryz.ntmps3
  have hd0 : decide (1048576 - (x0.length : Int) < 0) = false := by simp; omega
  go_wp2_with fail
  refine (szTwill_ok _ _ _ _ _ _ (by omega) (by omega)).mono ?_
  rintro e w1 ⟨rfl, hb⟩
  have sz1 : (w.alloc (.cells #[.slice p0 x0.length c0, .int .i64 st0] 24)).heap.size ≤ w1.heap.size := hb.size
  replace hB := bstep hB hb (Nat.le_refl _)
  clear hb
  have hkx : decide ((1 : Int) + (x0.length : Int) < 0) = false := by simp; omega
  have hA0 := ((CellsAt.box w #[.slice p0 x0.length c0, .int .i64 st0] 24)).below hB
  have dd0_0 := hA0.2 0 _ rfl
  have dd0_1 := hA0.2 1 _ rfl
  go_wp2_with fail
  with_reducible refine (toTwill_any _ _ _ _ _ _ (by omega) (rA0.below hB)).mono ?_
  rintro e w2 ⟨v_y0, rfl, ho_y0, hb⟩
  obtain ⟨a_y0, c_y0, rfl, hr_y0⟩ := ho_y0.sliceI
  clear hr_y0
  have sz2 : w1.heap.size ≤ w2.heap.size := hb.size
  replace hB := bstep hB hb (Nat.le_refl _)
  clear hb
  replace ho_y0 : Own w2 (w1.heap.size) w2.heap.size _ _ _ := ho_y0
  clear dd0_0 dd0_1
  go_wp2_with fail
  with_reducible refine (specBackOf_any _ _ _ _ _ _ ho_y0.rv).mono ?_
  rintro e w3 ⟨v_w0, rfl, ho_w0, hb⟩
  obtain ⟨a_w0, c_w0, rfl, hr_w0⟩ := ho_w0.sliceI
  clear hr_w0
  have sz3 : w2.heap.size ≤ w3.heap.size := hb.size
  replace hB := bstep hB hb (Nat.le_refl _)
  replace ho_y0 := ho_y0.below hb
  clear hb
  replace ho_w0 : Own w3 (w2.heap.size) w3.heap.size _ _ _ := ho_w0
  have hx_Xw0 := CellsAt.box w3 #[.slice a_w0 (backR x0 st0).1.length c_w0, .int .i64 (backR x0 st0).2.1] 26
  replace hB := Below.alloc hB hB.size (.cells #[.slice a_w0 (backR x0 st0).1.length c_w0, .int .i64 (backR x0 st0).2.1] 26)
  replace ho_y0 := ho_y0.below ((Below.refl _ _).alloc (Nat.le_refl _) (.cells #[.slice a_w0 (backR x0 st0).1.length c_w0, .int .i64 (backR x0 st0).2.1] 26))
  replace ho_w0 := ho_w0.below ((Below.refl _ _).alloc (Nat.le_refl _) (.cells #[.slice a_w0 (backR x0 st0).1.length c_w0, .int .i64 (backR x0 st0).2.1] 26))
  clear ho_y0
  have hA0 := ((CellsAt.box w #[.slice p0 x0.length c0, .int .i64 st0] 24)).below hB
  have dd0_0 := hA0.2 0 _ rfl
  have dd0_1 := hA0.2 1 _ rfl
  go_wp2_with fail
  with_reducible refine (toTwill_any _ _ _ _ _ _ (by omega) (rA0.below hB)).mono ?_
  rintro e w4 ⟨v_x0, rfl, ho_x0, hb⟩
  obtain ⟨a_x0, c_x0, rfl, hr_x0⟩ := ho_x0.sliceI
  clear hr_x0
  have sz4 : w3.heap.size ≤ w4.heap.size := by have := hb.size; simp at this; omega
  replace hB := bstep hB hb (Nat.le_refl _)
  replace ho_w0 := ho_w0.below hb
  replace hx_Xw0 := hx_Xw0.below hb
  clear hb
  replace ho_x0 : Own w4 (w3.heap.size + 1) w4.heap.size _ _ _ := ho_x0.mono (by simp) (Nat.le_refl _)
  clear dd0_0 dd0_1
  have hx_Xx0 := CellsAt.box w4 #[.slice a_x0 x0.length c_x0, .int .i64 st0] 26
  replace hB := Below.alloc hB hB.size (.cells #[.slice a_x0 x0.length c_x0, .int .i64 st0] 26)
  replace ho_w0 := ho_w0.below ((Below.refl _ _).alloc (Nat.le_refl _) (.cells #[.slice a_x0 x0.length c_x0, .int .i64 st0] 26))
  replace ho_x0 := ho_x0.below ((Below.refl _ _).alloc (Nat.le_refl _) (.cells #[.slice a_x0 x0.length c_x0, .int .i64 st0] 26))
  replace hx_Xw0 := hx_Xw0.below ((Below.refl _ _).alloc (Nat.le_refl _) (.cells #[.slice a_x0 x0.length c_x0, .int .i64 st0] 26))
  have dx_Xx0_0 := hx_Xx0.2 0 _ rfl
  have dx_Xx0_1 := hx_Xx0.2 1 _ rfl
  go_wp2_with fail
  with_reducible refine (backOf_any _ _ _ _ _ _ ho_x0.rv).mono ?_
  rintro e w5 ⟨v_g0, rfl, ho_g0, hb⟩
  obtain ⟨a_g0, c_g0, rfl, hr_g0⟩ := ho_g0.sliceI
  clear hr_g0
  have sz5 : w4.heap.size ≤ w5.heap.size := by have := hb.size; simp at this; omega
  replace hB := bstep hB hb (Nat.le_refl _)
  replace ho_w0 := ho_w0.below hb
  replace ho_x0 := ho_x0.below hb
  replace hx_Xw0 := hx_Xw0.below hb
  replace hx_Xx0 := hx_Xx0.below hb
  clear hb
  replace ho_g0 : Own w5 (w4.heap.size + 1) w5.heap.size _ _ _ := ho_g0.mono (by simp) (Nat.le_refl _)
  have hx_Xg0 := CellsAt.box w5 #[.slice a_g0 (backR x0 st0).1.length c_g0, .int .i64 (backR x0 st0).2.1] 26
  replace hB := Below.alloc hB hB.size (.cells #[.slice a_g0 (backR x0 st0).1.length c_g0, .int .i64 (backR x0 st0).2.1] 26)
  replace ho_w0 := ho_w0.below ((Below.refl _ _).alloc (Nat.le_refl _) (.cells #[.slice a_g0 (backR x0 st0).1.length c_g0, .int .i64 (backR x0 st0).2.1] 26))
  replace ho_x0 := ho_x0.below ((Below.refl _ _).alloc (Nat.le_refl _) (.cells #[.slice a_g0 (backR x0 st0).1.length c_g0, .int .i64 (backR x0 st0).2.1] 26))
  replace ho_g0 := ho_g0.below ((Below.refl _ _).alloc (Nat.le_refl _) (.cells #[.slice a_g0 (backR x0 st0).1.length c_g0, .int .i64 (backR x0 st0).2.1] 26))
  replace hx_Xw0 := hx_Xw0.below ((Below.refl _ _).alloc (Nat.le_refl _) (.cells #[.slice a_g0 (backR x0 st0).1.length c_g0, .int .i64 (backR x0 st0).2.1] 26))
  replace hx_Xx0 := hx_Xx0.below ((Below.refl _ _).alloc (Nat.le_refl _) (.cells #[.slice a_g0 (backR x0 st0).1.length c_g0, .int .i64 (backR x0 st0).2.1] 26))
  clear dx_Xx0_0 dx_Xx0_1
  have dx_Xw0_0 := hx_Xw0.2 0 _ rfl
  have dx_Xw0_1 := hx_Xw0.2 1 _ rfl
  have dx_Xg0_0 := hx_Xg0.2 0 _ rfl
  have dx_Xg0_1 := hx_Xg0.2 1 _ rfl
  go_wp2_with fail
  refine (eqTwill_same _ _ _ _ _ _ _ _ (ho_g0.rv) (ho_w0.rv)).mono ?_
  rintro e w6 ⟨rfl, hb⟩
  have sz6 : w5.heap.size ≤ w6.heap.size := by have := hb.size; simp at this; omega
  replace hB := bstep hB hb (Nat.le_refl _)
  replace ho_w0 := ho_w0.below hb
  replace ho_x0 := ho_x0.below hb
  replace ho_g0 := ho_g0.below hb
  replace hx_Xw0 := hx_Xw0.below hb
  replace hx_Xx0 := hx_Xx0.below hb
  replace hx_Xg0 := hx_Xg0.below hb
  clear hb
  clear dx_Xw0_0 dx_Xw0_1
  clear dx_Xg0_0 dx_Xg0_1
  have hA0 := ((CellsAt.box w #[.slice p0 x0.length c0, .int .i64 st0] 24)).below hB
  have dd0_0 := hA0.2 0 _ rfl
  have dd0_1 := hA0.2 1 _ rfl
  have dx_Xx0_0 := hx_Xx0.2 0 _ rfl
  have dx_Xx0_1 := hx_Xx0.2 1 _ rfl
  have RZ := Lib.hid (rA0.below hB)
  have RX := Lib.hid ho_x0.rv
  have hxl := hx_Xx0.1
  have HO_w0 := Lib.hid ho_w0
  clear ho_w0
  have HO_x0 := Lib.hid ho_x0
  clear ho_x0
  have HO_g0 := Lib.hid ho_g0
  clear ho_g0
  have HX_Xw0 := Lib.hid hx_Xw0
  clear hx_Xw0
  have HX_Xx0 := Lib.hid hx_Xx0
  clear hx_Xx0
  have HX_Xg0 := Lib.hid hx_Xg0
  clear hx_Xg0
  have HB := Lib.hid hB
  clear hB
  go_wp2_with fail
  go_cut [45] (fun sq wx => sq = .bool false ∧ Below w6.heap.size w6 wx)
  case first =>
    go_region_with (first | (go_at_call 6; refine (toTwill_any _ _ _ _ _ _ (by omega) (by exact RZ.out)).mono ?_; rintro e wz ⟨v_z, rfl, ho_z, hb⟩; obtain ⟨a_z, c_z, rfl, hr_z⟩ := ho_z.sliceI; replace hb : Below w6.heap.size w6 wz := bundrew hb; obtain ⟨hcz, hfz⟩ := bcell hb; have HBz := Lib.hid hb; have Rz1 := Lib.hid hr_z; have Rz2 := Lib.hid (RX.out.below hb); clear hr_z ho_z hb) | (go_at_call 8; (with_reducible refine (eqTwill_same _ _ _ _ _ _ _ _ (by exact Rz2.out) (by exact Rz1.out)).mono ?_); rintro e wy ⟨rfl, hb⟩; have HBy := Lib.hid (bstep HBz.out hb (Nat.le_refl _)); clear hb))
    all_goals (go_wp2_with fail; go_meet; exact ⟨rfl, HBy.out⟩)
  clear dd0_0 dd0_1
  clear dx_Xx0_0 dx_Xx0_1
  obtain ⟨w7, hw7⟩ : ∃ x : World, x = wc := ⟨_, rfl⟩
  rw [← hw7] at hcut ⊢
  clear hw7
  obtain ⟨rfl, hb⟩ := hcut
  have ho_w0 := HO_w0.out
  have ho_x0 := HO_x0.out
  have ho_g0 := HO_g0.out
  have hx_Xw0 := HX_Xw0.out
  have hx_Xx0 := HX_Xx0.out
  have hx_Xg0 := HX_Xg0.out
  have hB := HB.out
  clear HO_w0 HO_x0 HO_g0 HX_Xw0 HX_Xx0 HX_Xg0 HB RZ RX hxl
  have sz7 : w6.heap.size ≤ w7.heap.size := hb.size
  replace hB := bstep hB hb (Nat.le_refl _)
  replace ho_w0 := ho_w0.below hb
  replace ho_x0 := ho_x0.below hb
  replace ho_g0 := ho_g0.below hb
  replace hx_Xw0 := hx_Xw0.below hb
  replace hx_Xx0 := hx_Xx0.below hb
  replace hx_Xg0 := hx_Xg0.below hb
  clear hb
  have dx_Xx0_0 := hx_Xx0.2 0 _ rfl
  have dx_Xx0_1 := hx_Xx0.2 1 _ rfl
  go_wp2_with fail
  with_reducible refine (markTwill_any _ _ _ _ _ _ _ (by decide) (by decide) (by omega) ho_x0).mono ?_
  rintro e w8 ⟨rfl, hm, hg⟩
  have hBa := Below.alloc hB hB.size (.cells #[.slice a_x0 (x0).length c_x0, .int .i64 st0] 26)
  replace hB := below_marked hBa (ho_x0.below ((Below.refl _ _).alloc (Nat.le_refl _) (.cells #[.slice a_x0 (x0).length c_x0, .int .i64 st0] 26))) hg (by first | omega | (simp; omega)) hBa.size
  have sz8 : w7.heap.size ≤ w8.heap.size := by have := hg.size; simp at this; omega
  replace ho_w0 := (ho_w0.below ((Below.refl _ _).alloc (Nat.le_refl _) (.cells #[.slice a_x0 (x0).length c_x0, .int .i64 st0] 26))).apart (ho_x0.below ((Below.refl _ _).alloc (Nat.le_refl _) (.cells #[.slice a_x0 (x0).length c_x0, .int .i64 st0] 26))) hg (by omega)
  replace ho_g0 := (ho_g0.below ((Below.refl _ _).alloc (Nat.le_refl _) (.cells #[.slice a_x0 (x0).length c_x0, .int .i64 st0] 26))).apart (ho_x0.below ((Below.refl _ _).alloc (Nat.le_refl _) (.cells #[.slice a_x0 (x0).length c_x0, .int .i64 st0] 26))) hg (by omega)
  replace hx_Xw0 := (hx_Xw0.below ((Below.refl _ _).alloc (Nat.le_refl _) (.cells #[.slice a_x0 (x0).length c_x0, .int .i64 st0] 26))).grown hg (fun e => by have h1 := (ho_x0.1.lt _ e.symm).1; have h2 := ho_x0.2 _ e.symm; first | omega | (simp at h1 h2; omega))
  replace hx_Xx0 := (hx_Xx0.below ((Below.refl _ _).alloc (Nat.le_refl _) (.cells #[.slice a_x0 (x0).length c_x0, .int .i64 st0] 26))).grown hg (fun e => by have h1 := (ho_x0.1.lt _ e.symm).1; have h2 := ho_x0.2 _ e.symm; first | omega | (simp at h1 h2; omega))
  replace hx_Xg0 := (hx_Xg0.below ((Below.refl _ _).alloc (Nat.le_refl _) (.cells #[.slice a_x0 (x0).length c_x0, .int .i64 st0] 26))).grown hg (fun e => by have h1 := (ho_x0.1.lt _ e.symm).1; have h2 := ho_x0.2 _ e.symm; first | omega | (simp at h1 h2; omega))
  replace ho_x0 := hm
  clear hm hg hBa
  clear dx_Xx0_0 dx_Xx0_1
  have dx_Xw0_0 := hx_Xw0.2 0 _ rfl
  have dx_Xw0_1 := hx_Xw0.2 1 _ rfl
  have dx_Xg0_0 := hx_Xg0.2 0 _ rfl
  have dx_Xg0_1 := hx_Xg0.2 1 _ rfl
  go_wp2_with fail
  refine (eqTwill_same _ _ _ _ _ _ _ _ (ho_g0.rv) (ho_w0.rv)).mono ?_
  rintro e w9 ⟨rfl, hb⟩
  have sz9 : w8.heap.size ≤ w9.heap.size := hb.size
  replace hB := bstep hB hb (Nat.le_refl _)
  replace ho_w0 := ho_w0.below hb
  replace ho_x0 := ho_x0.below hb
  replace ho_g0 := ho_g0.below hb
  replace hx_Xw0 := hx_Xw0.below hb
  replace hx_Xx0 := hx_Xx0.below hb
  replace hx_Xg0 := hx_Xg0.below hb
  clear hb
  clear dx_Xw0_0 dx_Xw0_1
  clear dx_Xg0_0 dx_Xg0_1
  clear ho_x0
  clear hx_Xx0
  have dx_Xg0_0 := hx_Xg0.2 0 _ rfl
  have dx_Xg0_1 := hx_Xg0.2 1 _ rfl
  go_wp2_with fail
  with_reducible refine (markTwill_any _ _ _ _ _ _ _ (by decide) (by decide) (by omega) ho_g0).mono ?_
  rintro e w10 ⟨rfl, hm, hg⟩
  have hBa := Below.alloc hB hB.size (.cells #[.slice a_g0 ((backR x0 st0).1).length c_g0, .int .i64 (backR x0 st0).2.1] 26)
  replace hB := below_marked hBa (ho_g0.below ((Below.refl _ _).alloc (Nat.le_refl _) (.cells #[.slice a_g0 ((backR x0 st0).1).length c_g0, .int .i64 (backR x0 st0).2.1] 26))) hg (by first | omega | (simp; omega)) hBa.size
  have sz10 : w9.heap.size ≤ w10.heap.size := by have := hg.size; simp at this; omega
  replace ho_w0 := (ho_w0.below ((Below.refl _ _).alloc (Nat.le_refl _) (.cells #[.slice a_g0 ((backR x0 st0).1).length c_g0, .int .i64 (backR x0 st0).2.1] 26))).apart (ho_g0.below ((Below.refl _ _).alloc (Nat.le_refl _) (.cells #[.slice a_g0 ((backR x0 st0).1).length c_g0, .int .i64 (backR x0 st0).2.1] 26))) hg (by omega)
  replace hx_Xw0 := (hx_Xw0.below ((Below.refl _ _).alloc (Nat.le_refl _) (.cells #[.slice a_g0 ((backR x0 st0).1).length c_g0, .int .i64 (backR x0 st0).2.1] 26))).grown hg (fun e => by have h1 := (ho_g0.1.lt _ e.symm).1; have h2 := ho_g0.2 _ e.symm; first | omega | (simp at h1 h2; omega))
  replace hx_Xg0 := (hx_Xg0.below ((Below.refl _ _).alloc (Nat.le_refl _) (.cells #[.slice a_g0 ((backR x0 st0).1).length c_g0, .int .i64 (backR x0 st0).2.1] 26))).grown hg (fun e => by have h1 := (ho_g0.1.lt _ e.symm).1; have h2 := ho_g0.2 _ e.symm; first | omega | (simp at h1 h2; omega))
  replace ho_g0 := hm
  clear hm hg hBa
  clear dx_Xg0_0 dx_Xg0_1
  have dx_Xg0_0 := hx_Xg0.2 0 _ rfl
  have dx_Xg0_1 := hx_Xg0.2 1 _ rfl
  go_wp2_with fail
  refine (heldTwill_any _ _ _ _ _ _ (by decide) (by decide) (by omega) ho_g0.rv).mono ?_
  rintro e w11 ⟨rfl, hb⟩
  have sz11 : w10.heap.size ≤ w11.heap.size := hb.size
  replace hB := bstep hB hb (Nat.le_refl _)
  replace ho_w0 := ho_w0.below hb
  replace ho_g0 := ho_g0.below hb
  replace hx_Xw0 := hx_Xw0.below hb
  replace hx_Xg0 := hx_Xg0.below hb
  clear hb
  clear dx_Xg0_0 dx_Xg0_1
  have hA0 := ((CellsAt.box w #[.slice p0 x0.length c0, .int .i64 st0] 24)).below hB
  have dd0_0 := hA0.2 0 _ rfl
  have dd0_1 := hA0.2 1 _ rfl
  go_wp2_with fail
  with_reducible refine (toTwill_any _ _ _ _ _ _ (by omega) (rA0.below hB)).mono ?_
  rintro e w12 ⟨v_z0, rfl, ho_z0, hb⟩
  obtain ⟨a_z0, c_z0, rfl, hr_z0⟩ := ho_z0.sliceI
  clear hr_z0
  have sz12 : w11.heap.size ≤ w12.heap.size := hb.size
  replace hB := bstep hB hb (Nat.le_refl _)
  replace ho_w0 := ho_w0.below hb
  replace ho_g0 := ho_g0.below hb
  replace hx_Xw0 := hx_Xw0.below hb
  replace hx_Xg0 := hx_Xg0.below hb
  clear hb
  replace ho_z0 : Own w12 (w11.heap.size) w12.heap.size _ _ _ := ho_z0
  clear dd0_0 dd0_1
  go_wp2_with fail
  with_reducible refine (backOf_any _ _ _ _ _ _ ho_z0.rv).mono ?_
  rintro e w13 ⟨v_h0, rfl, ho_h0, hb⟩
  obtain ⟨a_h0, c_h0, rfl, hr_h0⟩ := ho_h0.sliceI
  clear hr_h0
  have sz13 : w12.heap.size ≤ w13.heap.size := hb.size
  replace hB := bstep hB hb (Nat.le_refl _)
  replace ho_w0 := ho_w0.below hb
  replace ho_g0 := ho_g0.below hb
  replace ho_z0 := ho_z0.below hb
  replace hx_Xw0 := hx_Xw0.below hb
  replace hx_Xg0 := hx_Xg0.below hb
  clear hb
  replace ho_h0 : Own w13 (w12.heap.size) w13.heap.size _ _ _ := ho_h0
  have hx_Xh0 := CellsAt.box w13 #[.slice a_h0 (backR x0 st0).1.length c_h0, .int .i64 (backR x0 st0).2.1] 26
  replace hB := Below.alloc hB hB.size (.cells #[.slice a_h0 (backR x0 st0).1.length c_h0, .int .i64 (backR x0 st0).2.1] 26)
  replace ho_w0 := ho_w0.below ((Below.refl _ _).alloc (Nat.le_refl _) (.cells #[.slice a_h0 (backR x0 st0).1.length c_h0, .int .i64 (backR x0 st0).2.1] 26))
  replace ho_g0 := ho_g0.below ((Below.refl _ _).alloc (Nat.le_refl _) (.cells #[.slice a_h0 (backR x0 st0).1.length c_h0, .int .i64 (backR x0 st0).2.1] 26))
  replace ho_z0 := ho_z0.below ((Below.refl _ _).alloc (Nat.le_refl _) (.cells #[.slice a_h0 (backR x0 st0).1.length c_h0, .int .i64 (backR x0 st0).2.1] 26))
  replace ho_h0 := ho_h0.below ((Below.refl _ _).alloc (Nat.le_refl _) (.cells #[.slice a_h0 (backR x0 st0).1.length c_h0, .int .i64 (backR x0 st0).2.1] 26))
  replace hx_Xw0 := hx_Xw0.below ((Below.refl _ _).alloc (Nat.le_refl _) (.cells #[.slice a_h0 (backR x0 st0).1.length c_h0, .int .i64 (backR x0 st0).2.1] 26))
  replace hx_Xg0 := hx_Xg0.below ((Below.refl _ _).alloc (Nat.le_refl _) (.cells #[.slice a_h0 (backR x0 st0).1.length c_h0, .int .i64 (backR x0 st0).2.1] 26))
  clear ho_z0
  have dx_Xw0_0 := hx_Xw0.2 0 _ rfl
  have dx_Xw0_1 := hx_Xw0.2 1 _ rfl
  have dx_Xh0_0 := hx_Xh0.2 0 _ rfl
  have dx_Xh0_1 := hx_Xh0.2 1 _ rfl
  go_wp2_with fail
  refine (eqTwill_same _ _ _ _ _ _ _ _ (ho_h0.rv) (ho_w0.rv)).mono ?_
  rintro e w14 ⟨rfl, hb⟩
  have sz14 : w13.heap.size ≤ w14.heap.size := by have := hb.size; simp at this; omega
  replace hB := bstep hB hb (Nat.le_refl _)
  replace ho_w0 := ho_w0.below hb
  replace ho_g0 := ho_g0.below hb
  replace ho_h0 := ho_h0.below hb
  replace hx_Xw0 := hx_Xw0.below hb
  replace hx_Xg0 := hx_Xg0.below hb
  replace hx_Xh0 := hx_Xh0.below hb
  clear hb
  clear dx_Xw0_0 dx_Xw0_1
  clear dx_Xh0_0 dx_Xh0_1
  have dx_Xg0_0 := hx_Xg0.2 0 _ rfl
  have dx_Xg0_1 := hx_Xg0.2 1 _ rfl
  go_wp2_with fail
  refine (heldTwill_any _ _ _ _ _ _ (by decide) (by decide) (by omega) ho_g0.rv).mono ?_
  rintro e w15 ⟨rfl, hb⟩
  have sz15 : w14.heap.size ≤ w15.heap.size := hb.size
  replace hB := bstep hB hb (Nat.le_refl _)
  replace ho_w0 := ho_w0.below hb
  replace ho_g0 := ho_g0.below hb
  replace ho_h0 := ho_h0.below hb
  replace hx_Xw0 := hx_Xw0.below hb
  replace hx_Xg0 := hx_Xg0.below hb
  replace hx_Xh0 := hx_Xh0.below hb
  clear hb
  go_wp2_with fail
  go_ret
  exact ⟨rfl, hB0.trans (hB.mono hB0.size)⟩

set_option maxRecDepth 100000 in
theorem lifted (os : Os) (started : os.Started) (H : Type) (enc : TypeId × Value → H) :
    ReturnsInHanded {} Tryz.checked os 3 .any (Rows.fnExactBackOfSpec.pre6 enc Tryz.prog Tryz.f3 Rows.fnExactBackOfRow.domain false) (Rows.fnExactBackOfSpec.post enc Tryz.prog Tryz.f3 false true false false) := by
  refine returnsInHanded_of_change (C := Tryz.checked) own started (by kernel_rfl) Tryz.func3
    (ChangeSpec.witness6 (enc := enc) (C := Tryz.checked) false ⟨#[], #[.agg #[.slice none 0 0, .int .i64 0]], []⟩ 8 (by kernel_rfl) (by kernel_rfl) (by kernel_rfl) (by kernel_rfl)) ?_
  intro W base args ds gs before hval0 hW hcnd _
  have hval : ∀ (j : Nat) t v, Tryz.f3.params[j]? = some t → args[j]? = some v → Value.okWide Tryz.prog W .any base t v := hval0
  have hW' := hW
  obtain ⟨p, q, hA0, hV, rfl, hfz, hnd⟩ := hW
  have hA : DataW.TrodAll enc Tryz.prog W 0 (fun _ => true) true Tryz.f3.params.toList args.toList ds p := hA0
  rw [Tryz.params3] at hA hval
  obtain ⟨v0, vs0, d0, ds0, pP0, qQ0, hargs, rfl, rfl, k0, e0⟩ := trodAll_cons hA
  obtain ⟨rfl, rfl, rfl⟩ := trodAll_nil e0
  obtain rfl : args = #[v0] := by cases args; simp_all
  obtain ⟨rfl, rfl⟩ := trodVars_none hV
  have l0 := arg_lt k0
  obtain ⟨p0, n0, c0, x0, st0, rfl, r0, b0, g0⟩ := arg_twill (hval 0 _ v0 rfl rfl) k0
  clear hA0 hval0
  refine (walk W p0 n0 c0 x0 st0 r0 b0 g0).mono fun e W' ⟨he, bel⟩ => ?_
  subst he
  exact ⟨_, rfl, _, _, _, [], _, [], hW', trodAll_mk1 (shut_bool Tryz.underlying4 _), (trodAll_cons_mk (Below.trod laidOut (by kernel_rfl) (of_decide_eq_true (by kernel_rfl)) k0 bel l0) trodAll_mk0), rfl, bel.frame _, fun h => by cases h⟩

theorem over : Rows.fnExactBackOfRow.holds Tryz.pinned (OpenSpec.ofChange Rows.fnExactBackOfSpec) :=
  OpenClaim.holds_of_wide 3 Tryz.f3 rfl rfl rfl rfl rfl rfl rfl ⟨rfl, rfl, rfl, rfl, rfl⟩ rfl rfl rfl rfl rfl (by kernel_rfl) Tryz.func3 (by kernel_rfl)
    (of_decide_eq_true (by kernel_rfl)) (by unfold Func.isWrapper; first | (rw [if_pos (by decide +kernel)]; kernel_rfl) | (rw [if_neg (by decide +kernel)]; exact ⟨rfl, rfl⟩))
    (fun os started H enc _ => lifted os started H enc)

/-- the statement -/
theorem proved : Rows.FnExactBackOfSaid := over
#print axioms proved
end Go.Proofs.YtflejjfkgkmcgaaGreat.fnExactBackOf
