/-
  Proved here: the law FnExactValidBase answers true at every input, and leaves its arguments as they were. No condition.
-/
import Derived.Test.YtepeklmeiooaeaaFrame
import Derived.Test.YtepeklmeiooaeaaBase5
namespace Go.Proofs.Ytepeklmeiooaeaa.fnExactValidBase
open Go.ChangeShapes Go.WideShapes Go.ChangeAt Go.RowKit
set_option linter.unusedVariables false

set_option maxHeartbeats 1000000 in
theorem walk (w : World) (t0 : Int) (s0 : Int) (r0 : Int) (k0 : Int) (gt0 : (-9223372036854775808 ≤ t0 ∧ t0 ≤ 9223372036854775807)) (gs0 : (-9223372036854775808 ≤ s0 ∧ s0 ≤ 9223372036854775807)) (gr0 : (-9223372036854775808 ≤ r0 ∧ r0 ≤ 9223372036854775807)) (gk0 : (-9223372036854775808 ≤ k0 ∧ k0 ≤ 9223372036854775807)) :
    Calls Try.prog 3 #[.agg #[.int .i64 t0, .int .i64 s0, .int .i64 r0, .int .i64 k0]] w fun e w' => e = .returned (.bool true) ∧ Below w.heap.size w w' := by
  have hB : Below w.heap.size w (w.alloc (.cells #[.int .i64 t0, .int .i64 s0, .int .i64 r0, .int .i64 k0] 23)) := ((Below.refl _ _).alloc (by simp) _)
  have hz : w.heap.size < (w.alloc (.cells #[.int .i64 t0, .int .i64 s0, .int .i64 r0, .int .i64 k0] 23)).heap.size := by simp
  go_enter Try.func3, Try.ntmps3
  go_wp2_with (first | (go_at_call 14; refine (toBase_any _ _ _ _ _).mono ?_; rintro e w1 ⟨rfl, hb⟩; obtain ⟨hc, hf⟩ := bcell hb; have hz := Nat.lt_of_lt_of_le hz hb.size; have hB := bstep hB hb (Nat.le_refl _)) | (go_at_call 15; refine (validBase_any _ _ _ _ _).mono ?_; rintro e w1 ⟨rfl, hb⟩; obtain ⟨hc, hf⟩ := bcell hb; have hz := Nat.lt_of_lt_of_le hz hb.size; have hB := bstep hB hb (Nat.le_refl _)) | (go_at_call 13; refine (specValidBase_any _ _ _ _ _).mono ?_; rintro e w1 ⟨rfl, hb⟩; obtain ⟨hc, hf⟩ := bcell hb; have hz := Nat.lt_of_lt_of_le hz hb.size; have hB := bstep hB hb (Nat.le_refl _)))
  go_ret
  exact ⟨rfl, hB⟩

set_option maxRecDepth 100000 in
theorem lifted (os : Os) (started : os.Started) (H : Type) (enc : TypeId × Value → H) :
    ReturnsInHanded {} Try.checked os 3 .any (Rows.fnExactValidBaseSpec.pre6 enc Try.prog Try.f3 Rows.fnExactValidBaseRow.domain false) (Rows.fnExactValidBaseSpec.post enc Try.prog Try.f3 false true false false) := by
  refine returnsInHanded_of_change (C := Try.checked) own started (by kernel_rfl) Try.func3
    (ChangeSpec.witness6 (enc := enc) (C := Try.checked) false ⟨#[], #[.agg #[.int .i64 0, .int .i64 0, .int .i64 0, .int .i64 0]], []⟩ 8 (by kernel_rfl) (by kernel_rfl) (by kernel_rfl) (by kernel_rfl)) ?_
  intro W base args ds gs before hval0 hW hcnd _
  have hval : ∀ (j : Nat) t v, Try.f3.params[j]? = some t → args[j]? = some v → Value.okWide Try.prog W .any base t v := hval0
  have hW' := hW
  obtain ⟨p, q, hA0, hV, rfl, hfz, hnd⟩ := hW
  have hA : DataW.TrodAll enc Try.prog W 0 (fun _ => true) true Try.f3.params.toList args.toList ds p := hA0
  rw [Try.params3] at hA hval
  obtain ⟨v0, vs0, d0, ds0, pP0, qQ0, hargs, rfl, rfl, k0, e0⟩ := trodAll_cons hA
  obtain ⟨rfl, rfl, rfl⟩ := trodAll_nil e0
  obtain rfl : args = #[v0] := by cases args; simp_all
  obtain ⟨rfl, rfl⟩ := trodVars_none hV
  have l0 := arg_lt k0
  obtain ⟨t0, s0, r0, q0, rfl, gt0, gs0, gr0, gk0⟩ := arg_base (hval 0 _ v0 rfl rfl) k0
  clear hA0 hval0
  refine (walk W t0 s0 r0 q0 gt0 gs0 gr0 gk0).mono fun e W' ⟨he, bel⟩ => ?_
  subst he
  exact ⟨_, rfl, _, _, _, [], _, [], hW', trodAll_mk1 (shut_bool Try.underlying4 _), (trodAll_cons_mk (Below.trod laidOut (by kernel_rfl) (of_decide_eq_true (by kernel_rfl)) k0 bel l0) trodAll_mk0), rfl, bel.frame _, fun h => by cases h⟩

theorem over : Rows.fnExactValidBaseRow.holds Try.pinned (OpenSpec.ofChange Rows.fnExactValidBaseSpec) :=
  OpenClaim.holds_of_wide 3 Try.f3 rfl rfl rfl rfl rfl rfl rfl ⟨rfl, rfl, rfl, rfl, rfl⟩ rfl rfl rfl rfl rfl (by kernel_rfl) Try.func3 (by kernel_rfl)
    (of_decide_eq_true (by kernel_rfl)) (by unfold Func.isWrapper; first | (rw [if_pos (by decide +kernel)]; kernel_rfl) | (rw [if_neg (by decide +kernel)]; exact ⟨rfl, rfl⟩))
    (fun os started H enc _ => lifted os started H enc)

/-- the statement -/
theorem proved : Rows.FnExactValidBaseSaid := over
#print axioms proved
end Go.Proofs.Ytepeklmeiooaeaa.fnExactValidBase
