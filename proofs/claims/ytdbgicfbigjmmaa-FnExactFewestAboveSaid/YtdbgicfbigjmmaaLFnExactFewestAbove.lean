/-
  Proved here: the law FnExactFewestAbove answers true at every input, and leaves its arguments as they were. No condition.
-/
import Derived.Test.YtdbgicfbigjmmaaFrame
import Derived.Test.YtdbgicfbigjmmaaLaidF
namespace Go.Proofs.Ytdbgicfbigjmmaa.fnExactFewestAbove
open Go.ChangeShapes Go.WideShapes Go.ChangeAt Go.RowKit
set_option linter.unusedVariables false

set_option maxHeartbeats 2000000 in
set_option maxRecDepth 100000 in
theorem walk (w : World) (a0 : Int) (g0 : -9223372036854775808 ≤ a0 ∧ a0 ≤ 9223372036854775807) (p1 : Option Addr) (n1 c1 : Nat) (x1 : List Int) (r1 : RV w p1 n1 c1 (ints x1)) (b1 : ∀ x ∈ x1, -9223372036854775808 ≤ x ∧ x ≤ 9223372036854775807) (a2 : Int) (g2 : -9223372036854775808 ≤ a2 ∧ a2 ≤ 9223372036854775807) :
    Calls Try.prog 3 #[.int .i64 a0, .slice p1 n1 c1, .int .i64 a2] w fun e w' => e = .returned (.bool true) ∧ Below w.heap.size w w' := by
  by_cases hn1 : 1048576 < (n1 : Int)
  · go_enter Try.func3, Try.ntmps3
    go_wp2
    go_ret
    exact ⟨rfl, Below.refl _ _⟩
  have hl1 := r1.lenI
  subst hl1
  have hB : Below w.heap.size w w := Below.refl _ _
  go_enter Try.func3, Try.ntmps3
  go_wp2_with fail
  refine (toInts_any _ _ _ _ _ (by omega) (r1.below hB)).mono ?_
  rintro e w1 ⟨v_y0, rfl, ho_y0, hb⟩
  obtain ⟨a_y0, c_y0, rfl, hr_y0⟩ := ho_y0.sliceI
  clear hr_y0
  have sz1 : w.heap.size ≤ w1.heap.size := hb.size
  replace hB := bstep hB hb (Nat.le_refl _)
  clear hb
  replace ho_y0 : Own w1 w.heap.size w1.heap.size _ _ _ := ho_y0
  go_wp2_with fail
  refine (specFewest_any _ _ _ _ _ _ _ ho_y0.rv).mono ?_
  rintro e w2 ⟨rfl, hb⟩
  have sz2 : w1.heap.size ≤ w2.heap.size := hb.size
  replace hB := bstep hB hb (Nat.le_refl _)
  replace ho_y0 := ho_y0.below hb
  clear hb
  go_wp2_with fail
  refine (toInts_any _ _ _ _ _ (by omega) (r1.below hB)).mono ?_
  rintro e w3 ⟨v_x0, rfl, ho_x0, hb⟩
  obtain ⟨a_x0, c_x0, rfl, hr_x0⟩ := ho_x0.sliceI
  clear hr_x0
  have sz3 : w2.heap.size ≤ w3.heap.size := hb.size
  replace hB := bstep hB hb (Nat.le_refl _)
  replace ho_y0 := ho_y0.below hb
  clear hb
  replace ho_x0 : Own w3 w2.heap.size w3.heap.size _ _ _ := ho_x0
  go_wp2_with fail
  refine (fewest_any _ _ _ _ _ _ _ ho_x0.rv).mono ?_
  rintro e w4 ⟨rfl, hb⟩
  have sz4 : w3.heap.size ≤ w4.heap.size := hb.size
  replace hB := bstep hB hb (Nat.le_refl _)
  replace ho_y0 := ho_y0.below hb
  replace ho_x0 := ho_x0.below hb
  clear hb
  go_wp2_with fail
  refine (toInts_any _ _ _ _ _ (by omega) (r1.below hB)).mono ?_
  rintro e w5 ⟨v_z0, rfl, ho_z0, hb⟩
  obtain ⟨a_z0, c_z0, rfl, hr_z0⟩ := ho_z0.sliceI
  clear hr_z0
  have sz5 : w4.heap.size ≤ w5.heap.size := hb.size
  replace hB := bstep hB hb (Nat.le_refl _)
  replace ho_y0 := ho_y0.below hb
  replace ho_x0 := ho_x0.below hb
  clear hb
  replace ho_z0 : Own w5 w4.heap.size w5.heap.size _ _ _ := ho_z0
  go_wp2_with fail
  refine (eqInts_same _ _ _ _ _ _ _ (ho_x0.rv) (ho_z0.rv)).mono ?_
  rintro e wq ⟨rfl, m6, rfl⟩
  replace hB := bdrewN hB m6
  replace ho_y0 := ho_y0.drewN m6
  replace ho_x0 := ho_x0.drewN m6
  replace ho_z0 := ho_z0.drewN m6
  go_wp2_with fail
  go_ret
  exact ⟨rfl, hB⟩

set_option maxRecDepth 100000 in
theorem lifted (os : Os) (started : os.Started) (H : Type) (enc : TypeId × Value → H) :
    ReturnsInHanded {} Try.checked os 3 .any (Rows.fnExactFewestAboveSpec.pre6 enc Try.prog Try.f3 Rows.fnExactFewestAboveRow.domain false) (Rows.fnExactFewestAboveSpec.post enc Try.prog Try.f3 false true false false) := by
  refine returnsInHanded_of_change (C := Try.checked) own started (by kernel_rfl) Try.func3
    (ChangeSpec.witness6 (enc := enc) (C := Try.checked) false ⟨#[], #[.int .i64 0, .slice none 0 0, .int .i64 0], []⟩ 8 (by kernel_rfl) (by kernel_rfl) (by kernel_rfl) (by kernel_rfl)) ?_
  intro W base args ds gs before hval0 hW hcnd _
  have hval : ∀ (j : Nat) t v, Try.f3.params[j]? = some t → args[j]? = some v → Value.okWide Try.prog W .any base t v := hval0
  have hW' := hW
  obtain ⟨p, q, hA0, hV, rfl, hfz, hnd⟩ := hW
  have hA : DataW.TrodAll enc Try.prog W 0 (fun _ => true) true Try.f3.params.toList args.toList ds p := hA0
  rw [Try.params3] at hA hval
  obtain ⟨v0, vs0, d0, ds0, pP0, qQ0, hargs, rfl, rfl, k0, e0⟩ := trodAll_cons hA
  obtain ⟨v1, vs1, d1, ds1, pP1, qQ1, rfl, rfl, rfl, k1, e1⟩ := trodAll_cons e0
  obtain ⟨v2, vs2, d2, ds2, pP2, qQ2, rfl, rfl, rfl, k2, e2⟩ := trodAll_cons e1
  obtain ⟨rfl, rfl, rfl⟩ := trodAll_nil e2
  obtain rfl : args = #[v0, v1, v2] := by cases args; simp_all
  obtain ⟨rfl, rfl⟩ := trodVars_none hV
  have l0 := arg_lt k0
  have l1 := arg_lt k1
  have l2 := arg_lt k2
  obtain ⟨a0, rfl, g0⟩ := arg_int (hval 0 _ v0 rfl rfl) k0
  obtain ⟨p1, n1, c1, x1, rfl, r1, b1⟩ := arg_ints (hval 1 _ v1 rfl rfl) k1
  obtain ⟨a2, rfl, g2⟩ := arg_int (hval 2 _ v2 rfl rfl) k2
  clear hA0 hval0
  refine (walk W a0 g0 p1 n1 c1 x1 r1 b1 a2 g2).mono fun e W' ⟨he, bel⟩ => ?_
  subst he
  exact ⟨_, rfl, _, _, _, [], _, [], hW', trodAll_mk1 (shut_bool Try.underlying4 _), (trodAll_cons_mk (Below.trod laidOut (by kernel_rfl) (of_decide_eq_true (by kernel_rfl)) k0 bel l0) (trodAll_cons_mk (Below.trod laidOut (by kernel_rfl) (of_decide_eq_true (by kernel_rfl)) k1 bel l1) (trodAll_cons_mk (Below.trod laidOut (by kernel_rfl) (of_decide_eq_true (by kernel_rfl)) k2 bel l2) trodAll_mk0))), rfl, bel.frame _, fun h => by cases h⟩

theorem over : Rows.fnExactFewestAboveRow.holds Try.pinned (OpenSpec.ofChange Rows.fnExactFewestAboveSpec) :=
  OpenClaim.holds_of_wide 3 Try.f3 rfl rfl rfl rfl rfl rfl rfl ⟨rfl, rfl, rfl, rfl, rfl⟩ rfl rfl rfl rfl rfl (by kernel_rfl) Try.func3 (by kernel_rfl)
    (of_decide_eq_true (by kernel_rfl)) (by unfold Func.isWrapper; first | (rw [if_pos (by decide +kernel)]; kernel_rfl) | (rw [if_neg (by decide +kernel)]; exact ⟨rfl, rfl⟩))
    (fun os started H enc _ => lifted os started H enc)

/-- the statement -/
theorem proved : Rows.FnExactFewestAboveSaid := over
#print axioms proved
end Go.Proofs.Ytdbgicfbigjmmaa.fnExactFewestAbove
