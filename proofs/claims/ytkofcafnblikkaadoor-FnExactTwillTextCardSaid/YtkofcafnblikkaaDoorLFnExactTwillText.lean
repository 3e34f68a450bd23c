/-
  Proved here: the law FnExactTwillText answers true at every input, and leaves its arguments as they were. No condition.
-/
import Derived.Test.YtkofcafnblikkaaDoorFrame
import Derived.Test.YtkofcafnblikkaaDoorTie
import Derived.Test.YtkofcafnblikkaaDoorCards
import Derived.Lay
import Derived.SevenTiedAt
import Derived.LaidMore
import Derived.Stop.Joined
import Derived.Test.YtkofcafnblikkaaDoorTwillTxt
namespace Go.Proofs.YtkofcafnblikkaaDoor.fnExactTwillText
open Go.ChangeShapes Go.WideShapes Go.ChangeAt Go.RowKit
set_option linter.unusedVariables false

set_option maxHeartbeats 16000000 in
set_option maxRecDepth 100000 in
theorem walk (w : World) (p0 : Option Addr) (n0 c0 : Nat) (x0 : List Int) (st0 : Int) (r0 : RV w p0 n0 c0 (ints x0)) (b0 : ∀ x ∈ x0, -9223372036854775808 ≤ x ∧ x ≤ 9223372036854775807) (g0 : -9223372036854775808 ≤ st0 ∧ st0 ≤ 9223372036854775807) :
    Calls Tryd.prog 3 #[.agg #[.slice p0 n0 c0, .int .i64 st0]] w fun e w' => e = .returned (.bool true) ∧ Below w.heap.size w w' := by
  have hp0 := r0.small
  have hl0 := r0.lenI
  subst hl0
  by_cases hn0 : 1048576 < (x0.length : Int)
  · go_enter Tryd.func3, Tryd.ntmps3
    have hB : Below w.heap.size w (w.alloc (.cells #[.slice p0 x0.length c0, .int .i64 st0] 24)) := ((Below.refl _ _).alloc (by simp) _)
    go_wp2_with fail
    refine (szTwill_no _ _ _ _ _ _ (by omega) (by omega) (by omega)).mono ?_
    rintro e wz ⟨rfl, hb⟩
    go_wp2_with fail
    go_ret
    exact ⟨rfl, bstep hB hb (by simp)⟩
  have rA0 := (r0.below ((Below.refl _ _).alloc (Nat.le_refl _) (.cells #[.slice p0 x0.length c0, .int .i64 st0] 24)))
  have hB0 : Below w.heap.size w (w.alloc (.cells #[.slice p0 x0.length c0, .int .i64 st0] 24)) := ((Below.refl _ _).alloc (by simp) _)
  have hB : Below (w.alloc (.cells #[.slice p0 x0.length c0, .int .i64 st0] 24)).heap.size (w.alloc (.cells #[.slice p0 x0.length c0, .int .i64 st0] 24)) (w.alloc (.cells #[.slice p0 x0.length c0, .int .i64 st0] 24)) := Below.refl _ _
  go_enter Tryd.func3, Tryd.ntmps3
  have hd0 : decide (1048576 - (x0.length : Int) < 0) = false := by simp; omega
  go_wp2_with fail
  refine (szTwill_ok _ _ _ _ _ _ (by omega) (by omega)).mono ?_
  rintro e w1 ⟨rfl, hb⟩
  have sz1 : (w.alloc (.cells #[.slice p0 x0.length c0, .int .i64 st0] 24)).heap.size ≤ w1.heap.size := hb.size
  replace hB := bstep hB hb (Nat.le_refl _)
  clear hb
  have hA0 := ((CellsAt.box w #[.slice p0 x0.length c0, .int .i64 st0] 24)).below hB
  have dd0_0 := hA0.2 0 _ rfl
  have dd0_1 := hA0.2 1 _ rfl
  go_wp2_with fail
  refine (toTwill_any _ _ _ _ _ _ (by omega) (rA0.below hB)).mono ?_
  rintro e w2 ⟨v_y0, rfl, ho_y0, hb⟩
  obtain ⟨a_y0, c_y0, rfl, hr_y0⟩ := ho_y0.sliceI
  clear hr_y0
  have sz2 : w1.heap.size ≤ w2.heap.size := hb.size
  replace hB := bstep hB hb (Nat.le_refl _)
  clear hb
  replace ho_y0 : Own w2 w1.heap.size w2.heap.size _ _ _ := ho_y0
  clear dd0_0 dd0_1
  go_wp2_with fail
  refine (specTwillText_any _ _ _ _ _ _ ho_y0.rv).mono ?_
  rintro e w3 ⟨rfl, hb⟩
  have sz3 : w2.heap.size ≤ w3.heap.size := hb.size
  replace hB := bstep hB hb (Nat.le_refl _)
  replace ho_y0 := ho_y0.below hb
  clear hb
  have hA0 := ((CellsAt.box w #[.slice p0 x0.length c0, .int .i64 st0] 24)).below hB
  have dd0_0 := hA0.2 0 _ rfl
  have dd0_1 := hA0.2 1 _ rfl
  go_wp2_with fail
  refine (toTwill_any _ _ _ _ _ _ (by omega) (rA0.below hB)).mono ?_
  rintro e w4 ⟨v_x0, rfl, ho_x0, hb⟩
  obtain ⟨a_x0, c_x0, rfl, hr_x0⟩ := ho_x0.sliceI
  clear hr_x0
  have sz4 : w3.heap.size ≤ w4.heap.size := hb.size
  replace hB := bstep hB hb (Nat.le_refl _)
  replace ho_y0 := ho_y0.below hb
  clear hb
  replace ho_x0 : Own w4 w3.heap.size w4.heap.size _ _ _ := ho_x0
  clear dd0_0 dd0_1
  have hx_Xx0 := CellsAt.box w4 #[.slice a_x0 x0.length c_x0, .int .i64 st0] 27
  replace hB := Below.alloc hB hB.size (.cells #[.slice a_x0 x0.length c_x0, .int .i64 st0] 27)
  replace ho_y0 := ho_y0.below ((Below.refl _ _).alloc (Nat.le_refl _) (.cells #[.slice a_x0 x0.length c_x0, .int .i64 st0] 27))
  replace ho_x0 := ho_x0.below ((Below.refl _ _).alloc (Nat.le_refl _) (.cells #[.slice a_x0 x0.length c_x0, .int .i64 st0] 27))
  have dx_Xx0_0 := hx_Xx0.2 0 _ rfl
  have dx_Xx0_1 := hx_Xx0.2 1 _ rfl
  go_wp2_with fail
  refine (twillText_any _ _ _ _ _ _ ho_x0.rv).mono ?_
  rintro e w5 ⟨rfl, hb⟩
  have sz5 : w4.heap.size ≤ w5.heap.size := by have := hb.size; simp at this; omega
  replace hB := bstep hB hb (Nat.le_refl _)
  replace ho_y0 := ho_y0.below hb
  replace ho_x0 := ho_x0.below hb
  replace hx_Xx0 := hx_Xx0.below hb
  clear hb
  clear dx_Xx0_0 dx_Xx0_1
  have hA0 := ((CellsAt.box w #[.slice p0 x0.length c0, .int .i64 st0] 24)).below hB
  have dd0_0 := hA0.2 0 _ rfl
  have dd0_1 := hA0.2 1 _ rfl
  have dx_Xx0_0 := hx_Xx0.2 0 _ rfl
  have dx_Xx0_1 := hx_Xx0.2 1 _ rfl
  have rZ := rA0.below hB
  have rX := ho_x0.rv
  have hxl := hx_Xx0.1
  clear ho_y0 ho_x0 hx_Xx0
  have HB := Lib.hid hB
  have RZ := Lib.hid rZ
  have RX := Lib.hid rX
  clear hB rZ rX
  go_wp2_with fail
  go_region_with (first | (go_at_call 7; refine (toTwill_any _ _ _ _ _ _ (by omega) (by exact RZ.out)).mono ?_; rintro e wz ⟨v_z, rfl, ho_z, hb⟩; obtain ⟨a_z, c_z, rfl, hr_z⟩ := ho_z.sliceI; replace hb : Below w5.heap.size w5 wz := bundrew hb; obtain ⟨hcz, hfz⟩ := bcell hb; have HBz := Lib.hid (bstep HB.out hb (Nat.le_refl _)); have Rz1 := Lib.hid hr_z; have Rz2 := Lib.hid (RX.out.below hb); clear hr_z ho_z hb) | (go_at_call 9; refine (eqTwill_same _ _ _ _ _ _ _ _ (by exact Rz2.out) (by exact Rz1.out)).mono ?_; rintro e wy ⟨rfl, hb⟩; have HBy := Lib.hid (bstep HBz.out hb (Nat.le_refl _)); clear hb))
  all_goals (go_wp2; go_ret; exact ⟨rfl, hB0.trans (HBy.out.mono hB0.size)⟩)

set_option maxRecDepth 100000 in
theorem lifted (os : Os) (started : os.Started) (H : Type) (enc : TypeId × Value → H) :
    ReturnsInHanded {} Tryd.checked os 3 .any (fun w args => (Rows.fnExactTwillTextSpec.pre enc Tryd.prog Tryd.f3 [] false w args ∧ laidMetH Tryd.prog Rows.fnExactTwillTextRow.laid w) ∧ sizedMet enc Tryd.prog Tryd.f3 (OpenSpec.ofChange Rows.fnExactTwillTextSpec) false w args) (Rows.fnExactTwillTextSpec.post enc Tryd.prog Tryd.f3 false true false false) := by
  refine returnsInHanded_of_change_and (C := Tryd.checked) (X := fun w _ => laidMetH Tryd.prog Rows.fnExactTwillTextRow.laid w) (fun _ _ _ hh h => h.of_heap hh) own started (by kernel_rfl) Tryd.func3
    (ChangeSpec.witness_shaped (enc := enc) (C := Tryd.checked) (os := os) (X := fun w _ => laidMetH Tryd.prog Rows.fnExactTwillTextRow.laid w) false (World.laidAll Tryd.prog os Rows.fnExactTwillTextRow.laid) #[.agg #[.slice none 0 0, .int .i64 0]] 8 (World.laidAll_os _ _ _)
      (World.shaped_of_ZipB (by kernel_rfl) (by kernel_rfl)) (by kernel_rfl) (by kernel_rfl) (by kernel_rfl)
      (by rw [MakeChecks.laidMetH_plain _ _ _ (by kernel_rfl)]; exact laidMet_laidAll _ (by kernel_rfl) (by kernel_rfl))) ?_
  intro W base args ds gs before hval0 hW _ _ hL _
  have hval : ∀ (j : Nat) t v, Tryd.f3.params[j]? = some t → args[j]? = some v → Value.okWide Tryd.prog W .any base t v := hval0
  have hW' := hW
  obtain ⟨p, q, hA0, hV, rfl, hfz, hnd⟩ := hW
  have hA : DataW.TrodAll enc Tryd.prog W 0 (fun _ => true) true Tryd.f3.params.toList args.toList ds p := hA0
  rw [Tryd.params3] at hA hval
  obtain ⟨v0, vs0, d0, ds0, pP0, qQ0, hargs, rfl, rfl, k0, e0⟩ := trodAll_cons hA
  obtain ⟨rfl, rfl, rfl⟩ := trodAll_nil e0
  obtain rfl : args = #[v0] := by cases args; simp_all
  obtain ⟨rfl, rfl⟩ := trodVars_none hV
  have l0 := arg_lt k0
  obtain ⟨p0, n0, c0, x0, st0, rfl, r0, b0, g0⟩ := arg_twill (hval 0 _ v0 rfl rfl) k0
  clear hA0 hval0
  refine (walk W p0 n0 c0 x0 st0 r0 b0 g0).mono fun e W' ⟨he, bel⟩ => ?_
  subst he
  exact ⟨_, rfl, _, _, _, [], _, [], hW', trodAll_mk1 (shut_bool Tryd.underlying4 _), (trodAll_cons_mk (Below.trod laidOut (by kernel_rfl) (of_decide_eq_true (by kernel_rfl)) k0 bel l0) trodAll_mk0), rfl, bel.frame _, fun h => by cases h⟩

theorem over : Rows.fnExactTwillTextRow.holds Tryd.pinned (OpenSpec.ofChange Rows.fnExactTwillTextSpec) :=
  OpenClaim.holds_of_wide 3 Tryd.f3 rfl rfl rfl rfl rfl rfl rfl ⟨rfl, rfl, rfl, rfl, rfl⟩ rfl rfl rfl rfl rfl (by kernel_rfl) Tryd.func3 (by kernel_rfl)
    (of_decide_eq_true (by kernel_rfl)) (by unfold Func.isWrapper; first | (rw [if_pos (by decide +kernel)]; kernel_rfl) | (rw [if_neg (by decide +kernel)]; exact ⟨rfl, rfl⟩))
    (fun os started H enc _ => lifted os started H enc)

set_option maxRecDepth 100000 in
/-- the statement -/
theorem proved : Rows.FnExactTwillTextCardSaid :=
  Claim7.holds_tied_plain_at .later [] [.data, .data, .data] true (true, "b6cca475fa880350fb8707a7f1d8c04e5360b02e3b178948b5241249af2dc415") false over (fun _ h => by cases h) (by kernel_rfl) (fun _ h => by cases h) fnExactTwillText_row_tie rfl ⟨rfl, rfl⟩ (by kernel_rfl) rfl
    (fun f fn hf hfn => by
      obtain rfl : f = 3 := Option.some.inj ((show Tryd.prog.funcNamed Rows.fnExactTwillTextRow.func = some 3 by kernel_rfl).symm.trans hf) |>.symm
      obtain rfl : fn = Tryd.f3 := (Option.some.inj (Tryd.func3.symm.trans hfn)).symm
      exact ⟨by kernel_rfl, fun j t ht => by
        rw [Tryd.params3] at ht
        have hm : t ∈ [24] := by simpa using Array.mem_of_getElem? ht
        have hall : ([24].all fun u => !Tryd.prog.wantsStandIn u) = true := by kernel_rfl
        exact (show Tryd.prog.wantsStandIn t = false by simpa using List.all_eq_true.1 hall t hm)⟩)
    (by kernel_rfl)
#print axioms proved
end Go.Proofs.YtkofcafnblikkaaDoor.fnExactTwillText
