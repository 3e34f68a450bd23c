/-
  Proved here: the law FnExactGapsAt answers true at every input, and leaves its arguments as they were. No condition.
-/
import Derived.Test.YtepeklmeiooaeaaFrame
import Derived.Test.YtepeklmeiooaeaaBase5
namespace Go.Proofs.Ytepeklmeiooaeaa.fnExactGapsAt
open Go.ChangeShapes Go.WideShapes Go.ChangeAt Go.RowKit
set_option linter.unusedVariables false

set_option maxHeartbeats 1000000 in
theorem walk (w : World) (t0 : Int) (s0 : Int) (r0 : Int) (k0 : Int) (gt0 : (-9223372036854775808 ≤ t0 ∧ t0 ≤ 9223372036854775807)) (gs0 : (-9223372036854775808 ≤ s0 ∧ s0 ≤ 9223372036854775807)) (gr0 : (-9223372036854775808 ≤ r0 ∧ r0 ≤ 9223372036854775807)) (gk0 : (-9223372036854775808 ≤ k0 ∧ k0 ≤ 9223372036854775807)) (a1 : Int) (g1 : -9223372036854775808 ≤ a1 ∧ a1 ≤ 9223372036854775807) :
    Calls Try.prog 11 #[.agg #[.int .i64 t0, .int .i64 s0, .int .i64 r0, .int .i64 k0], .int .i64 a1] w fun e w' => e = .returned (.bool true) ∧ Below w.heap.size w w' := by
  have hB0 : Below w.heap.size w (w.alloc (.cells #[.int .i64 t0, .int .i64 s0, .int .i64 r0, .int .i64 k0] 23)) := ((Below.refl _ _).alloc (by simp) _)
  have hB : Below (w.alloc (.cells #[.int .i64 t0, .int .i64 s0, .int .i64 r0, .int .i64 k0] 23)).heap.size (w.alloc (.cells #[.int .i64 t0, .int .i64 s0, .int .i64 r0, .int .i64 k0] 23)) (w.alloc (.cells #[.int .i64 t0, .int .i64 s0, .int .i64 r0, .int .i64 k0] 23)) := Below.refl _ _
  go_enter Try.func11, Try.ntmps11
  go_wp2_with fail
  refine (toBase_any _ _ _ _ _).mono ?_
  rintro e w1 ⟨rfl, hb⟩
  have sz1 : (w.alloc (.cells #[.int .i64 t0, .int .i64 s0, .int .i64 r0, .int .i64 k0] 23)).heap.size ≤ w1.heap.size := hb.size
  replace hB := bstep hB hb (Nat.le_refl _)
  clear hb
  go_wp2_with fail
  refine (specGapsAt_any _ _ _ _ _ _).mono ?_
  rintro e w2 ⟨rfl, hb⟩
  have sz2 : w1.heap.size ≤ w2.heap.size := hb.size
  replace hB := bstep hB hb (Nat.le_refl _)
  clear hb
  have hx_f0 := CellsAt.box w2 #[.int .i64 (gapsR t0 s0 r0 k0 a1).1, .int .i64 (gapsR t0 s0 r0 k0 a1).2.1] 43
  replace hB := Below.alloc hB hB.size (.cells #[.int .i64 (gapsR t0 s0 r0 k0 a1).1, .int .i64 (gapsR t0 s0 r0 k0 a1).2.1] 43)
  have hA0 := ((CellsAt.box w #[.int .i64 t0, .int .i64 s0, .int .i64 r0, .int .i64 k0] 23)).below hB
  have dd0_0 := hA0.2 0 _ rfl
  have dd0_1 := hA0.2 1 _ rfl
  have dd0_2 := hA0.2 2 _ rfl
  have dd0_3 := hA0.2 3 _ rfl
  go_wp2_with fail
  refine (toBase_any _ _ _ _ _).mono ?_
  rintro e w3 ⟨rfl, hb⟩
  have sz3 : w2.heap.size ≤ w3.heap.size := by have := hb.size; simp at this; omega
  replace hB := bstep hB hb (Nat.le_refl _)
  replace hx_f0 := hx_f0.below hb
  clear hb
  clear dd0_0 dd0_1 dd0_2 dd0_3
  go_wp2_with fail
  refine (GapsAt_any _ _ _ _ _ _).mono ?_
  rintro e w4 ⟨rfl, hb⟩
  have sz4 : w3.heap.size ≤ w4.heap.size := hb.size
  replace hB := bstep hB hb (Nat.le_refl _)
  replace hx_f0 := hx_f0.below hb
  clear hb
  have hx_f1 := CellsAt.box w4 #[.int .i64 (gapsR t0 s0 r0 k0 a1).1, .int .i64 (gapsR t0 s0 r0 k0 a1).2.1] 43
  replace hB := Below.alloc hB hB.size (.cells #[.int .i64 (gapsR t0 s0 r0 k0 a1).1, .int .i64 (gapsR t0 s0 r0 k0 a1).2.1] 43)
  replace hx_f0 := hx_f0.below ((Below.refl _ _).alloc (Nat.le_refl _) (.cells #[.int .i64 (gapsR t0 s0 r0 k0 a1).1, .int .i64 (gapsR t0 s0 r0 k0 a1).2.1] 43))
  have dx_f0_0 := hx_f0.2 0 _ rfl
  have dx_f0_1 := hx_f0.2 1 _ rfl
  have dx_f1_0 := hx_f1.2 0 _ rfl
  have dx_f1_1 := hx_f1.2 1 _ rfl
  go_wp2_with fail
  refine (eqFraction_same _ _ _).mono ?_
  rintro e w5 ⟨rfl, hb⟩
  have sz5 : w4.heap.size ≤ w5.heap.size := by have := hb.size; simp at this; omega
  replace hB := bstep hB hb (Nat.le_refl _)
  replace hx_f0 := hx_f0.below hb
  replace hx_f1 := hx_f1.below hb
  clear hb
  go_wp2_with fail
  go_ret
  exact ⟨rfl, hB0.trans (hB.mono hB0.size)⟩

set_option maxRecDepth 100000 in
theorem lifted (os : Os) (started : os.Started) (H : Type) (enc : TypeId × Value → H) :
    ReturnsInHanded {} Try.checked os 11 .any (Rows.fnExactGapsAtSpec.pre6 enc Try.prog Try.f11 Rows.fnExactGapsAtRow.domain false) (Rows.fnExactGapsAtSpec.post enc Try.prog Try.f11 false true false false) := by
  refine returnsInHanded_of_change (C := Try.checked) own started (by kernel_rfl) Try.func11
    (ChangeSpec.witness6 (enc := enc) (C := Try.checked) false ⟨#[], #[.agg #[.int .i64 0, .int .i64 0, .int .i64 0, .int .i64 0], .int .i64 0], []⟩ 8 (by kernel_rfl) (by kernel_rfl) (by kernel_rfl) (by kernel_rfl)) ?_
  intro W base args ds gs before hval0 hW hcnd _
  have hval : ∀ (j : Nat) t v, Try.f11.params[j]? = some t → args[j]? = some v → Value.okWide Try.prog W .any base t v := hval0
  have hW' := hW
  obtain ⟨p, q, hA0, hV, rfl, hfz, hnd⟩ := hW
  have hA : DataW.TrodAll enc Try.prog W 0 (fun _ => true) true Try.f11.params.toList args.toList ds p := hA0
  rw [Try.params11] at hA hval
  obtain ⟨v0, vs0, d0, ds0, pP0, qQ0, hargs, rfl, rfl, k0, e0⟩ := trodAll_cons hA
  obtain ⟨v1, vs1, d1, ds1, pP1, qQ1, rfl, rfl, rfl, k1, e1⟩ := trodAll_cons e0
  obtain ⟨rfl, rfl, rfl⟩ := trodAll_nil e1
  obtain rfl : args = #[v0, v1] := by cases args; simp_all
  obtain ⟨rfl, rfl⟩ := trodVars_none hV
  have l0 := arg_lt k0
  have l1 := arg_lt k1
  obtain ⟨t0, s0, r0, q0, rfl, gt0, gs0, gr0, gk0⟩ := arg_base (hval 0 _ v0 rfl rfl) k0
  obtain ⟨a1, rfl, g1⟩ := arg_int (hval 1 _ v1 rfl rfl) k1
  clear hA0 hval0
  refine (walk W t0 s0 r0 q0 gt0 gs0 gr0 gk0 a1 g1).mono fun e W' ⟨he, bel⟩ => ?_
  subst he
  exact ⟨_, rfl, _, _, _, [], _, [], hW', trodAll_mk1 (shut_bool Try.underlying4 _), (trodAll_cons_mk (Below.trod laidOut (by kernel_rfl) (of_decide_eq_true (by kernel_rfl)) k0 bel l0) (trodAll_cons_mk (Below.trod laidOut (by kernel_rfl) (of_decide_eq_true (by kernel_rfl)) k1 bel l1) trodAll_mk0)), rfl, bel.frame _, fun h => by cases h⟩

theorem over : Rows.fnExactGapsAtRow.holds Try.pinned (OpenSpec.ofChange Rows.fnExactGapsAtSpec) :=
  OpenClaim.holds_of_wide 11 Try.f11 rfl rfl rfl rfl rfl rfl rfl ⟨rfl, rfl, rfl, rfl, rfl⟩ rfl rfl rfl rfl rfl (by kernel_rfl) Try.func11 (by kernel_rfl)
    (of_decide_eq_true (by kernel_rfl)) (by unfold Func.isWrapper; first | (rw [if_pos (by decide +kernel)]; kernel_rfl) | (rw [if_neg (by decide +kernel)]; exact ⟨rfl, rfl⟩))
    (fun os started H enc _ => lifted os started H enc)

/-- the statement -/
theorem proved : Rows.FnExactGapsAtSaid := over
#print axioms proved
end Go.Proofs.Ytepeklmeiooaeaa.fnExactGapsAt
