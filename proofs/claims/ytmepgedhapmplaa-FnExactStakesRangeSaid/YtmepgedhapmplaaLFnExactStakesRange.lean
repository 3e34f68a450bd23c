/-
  Proved here: the law FnExactStakesRange answers true at every input, and leaves its arguments as they were. No condition.
-/
import Derived.Test.YtmepgedhapmplaaFrame
import Derived.Test.YtmepgedhapmplaaShapeRng
namespace Go.Proofs.Ytmepgedhapmplaa.fnExactStakesRange
open Go.ChangeShapes Go.WideShapes Go.ChangeAt Go.RowKit
set_option linter.unusedVariables false

set_option maxHeartbeats 1000000 in
theorem walk (w : World) (a0 : Int) (g0 : -9223372036854775808 ≤ a0 ∧ a0 ≤ 9223372036854775807) (a1 : Int) (g1 : -9223372036854775808 ≤ a1 ∧ a1 ≤ 9223372036854775807) (a2 : Int) (g2 : -9223372036854775808 ≤ a2 ∧ a2 ≤ 9223372036854775807) :
    Calls Try.prog 4 #[.int .i64 a0, .int .i64 a1, .int .i64 a2] w fun e w' => e = .returned (.bool true) ∧ Below w.heap.size w w' := by
  have hB : Below w.heap.size w w := Below.refl _ _
  go_enter Try.func4, Try.ntmps4
  go_wp2_with (first | (go_at_call 19; refine (stakesRangeI_any _ _ _ _).mono ?_; rintro e w1 ⟨rfl, m, rfl⟩; have hB := bdrewN hB m) | (go_at_call 18; refine (specStakesRange_any _ _ _ _).mono ?_; rintro e w1 ⟨rfl, m, rfl⟩; have hB := bdrewN hB m))
  go_ret
  exact ⟨rfl, by first | exact hB | (simp only [World.drewN_drewN] at hB; exact hB)⟩

set_option maxRecDepth 100000 in
theorem lifted (os : Os) (started : os.Started) (H : Type) (enc : TypeId × Value → H) :
    ReturnsInHanded {} Try.checked os 4 .any (Rows.fnExactStakesRangeSpec.pre6 enc Try.prog Try.f4 Rows.fnExactStakesRangeRow.domain false) (Rows.fnExactStakesRangeSpec.post enc Try.prog Try.f4 false true false false) := by
  refine returnsInHanded_of_change (C := Try.checked) own started (by kernel_rfl) Try.func4
    (ChangeSpec.witness6 (enc := enc) (C := Try.checked) false ⟨#[], #[.int .i64 0, .int .i64 0, .int .i64 0], []⟩ 8 (by kernel_rfl) (by kernel_rfl) (by kernel_rfl) (by kernel_rfl)) ?_
  intro W base args ds gs before hval0 hW hcnd _
  have hval : ∀ (j : Nat) t v, Try.f4.params[j]? = some t → args[j]? = some v → Value.okWide Try.prog W .any base t v := hval0
  have hW' := hW
  obtain ⟨p, q, hA0, hV, rfl, hfz, hnd⟩ := hW
  have hA : DataW.TrodAll enc Try.prog W 0 (fun _ => true) true Try.f4.params.toList args.toList ds p := hA0
  rw [Try.params4] at hA hval
  obtain ⟨v0, vs0, d0, ds0, pP0, qQ0, hargs, rfl, rfl, k0, e0⟩ := trodAll_cons hA
  obtain ⟨v1, vs1, d1, ds1, pP1, qQ1, rfl, rfl, rfl, k1, e1⟩ := trodAll_cons e0
  obtain ⟨v2, vs2, d2, ds2, pP2, qQ2, rfl, rfl, rfl, k2, e2⟩ := trodAll_cons e1
  obtain ⟨rfl, rfl, rfl⟩ := trodAll_nil e2
  obtain rfl : args = #[v0, v1, v2] := by cases args; simp_all
  obtain ⟨rfl, rfl⟩ := trodVars_none hV
  have l0 := arg_lt k0
  have l1 := arg_lt k1
  have l2 := arg_lt k2
  obtain ⟨a0, rfl, g0⟩ := arg_int (hval 0 _ v0 rfl rfl) k0
  obtain ⟨a1, rfl, g1⟩ := arg_int (hval 1 _ v1 rfl rfl) k1
  obtain ⟨a2, rfl, g2⟩ := arg_int (hval 2 _ v2 rfl rfl) k2
  clear hA0 hval0
  refine (walk W a0 g0 a1 g1 a2 g2).mono fun e W' ⟨he, bel⟩ => ?_
  subst he
  exact ⟨_, rfl, _, _, _, [], _, [], hW', trodAll_mk1 (shut_bool Try.underlying4 _), (trodAll_cons_mk (Below.trod laidOut (by kernel_rfl) (of_decide_eq_true (by kernel_rfl)) k0 bel l0) (trodAll_cons_mk (Below.trod laidOut (by kernel_rfl) (of_decide_eq_true (by kernel_rfl)) k1 bel l1) (trodAll_cons_mk (Below.trod laidOut (by kernel_rfl) (of_decide_eq_true (by kernel_rfl)) k2 bel l2) trodAll_mk0))), rfl, bel.frame _, fun h => by cases h⟩

theorem over : Rows.fnExactStakesRangeRow.holds Try.pinned (OpenSpec.ofChange Rows.fnExactStakesRangeSpec) :=
  OpenClaim.holds_of_wide 4 Try.f4 rfl rfl rfl rfl rfl rfl rfl ⟨rfl, rfl, rfl, rfl, rfl⟩ rfl rfl rfl rfl rfl (by kernel_rfl) Try.func4 (by kernel_rfl)
    (of_decide_eq_true (by kernel_rfl)) (by unfold Func.isWrapper; first | (rw [if_pos (by decide +kernel)]; kernel_rfl) | (rw [if_neg (by decide +kernel)]; exact ⟨rfl, rfl⟩))
    (fun os started H enc _ => lifted os started H enc)

/-- the statement -/
theorem proved : Rows.FnExactStakesRangeSaid := over
#print axioms proved
end Go.Proofs.Ytmepgedhapmplaa.fnExactStakesRange
