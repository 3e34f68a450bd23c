/-
  Proved here: the law FnExactBaseText answers true at every input, and leaves its arguments as they were. No condition.
-/
import Derived.Test.YtimomjkeknlcgaaDoorFrame
import Derived.Test.YtimomjkeknlcgaaDoorTie
import Derived.Test.YtimomjkeknlcgaaDoorCards
import Derived.Lay
import Derived.SevenTiedAt
import Derived.LaidMore
import Derived.Stop.Joined
import Derived.Test.YtimomjkeknlcgaaDoorBaseTxt3
namespace Go.Proofs.YtimomjkeknlcgaaDoor.fnExactBaseText
open Go.ChangeShapes Go.WideShapes Go.ChangeAt Go.RowKit
set_option linter.unusedVariables false

set_option maxHeartbeats 16000000 in
set_option maxRecDepth 100000 in
theorem walk (w : World) (t0 : Int) (s0 : Int) (r0 : Int) (k0 : Int) (gt0 : (-9223372036854775808 ≤ t0 ∧ t0 ≤ 9223372036854775807)) (gs0 : (-9223372036854775808 ≤ s0 ∧ s0 ≤ 9223372036854775807)) (gr0 : (-9223372036854775808 ≤ r0 ∧ r0 ≤ 9223372036854775807)) (gk0 : (-9223372036854775808 ≤ k0 ∧ k0 ≤ 9223372036854775807))
    (htab : Lib.TabIs Tryd.prog w "internal/strconv.uint64pow10" .u64 Lib.pow10Tab) : Calls Tryd.prog 3 #[.agg #[.int .i64 t0, .int .i64 s0, .int .i64 r0, .int .i64 k0]] w fun e w' => e = .returned (.bool true) ∧ Below w.heap.size w w' := by
  --TAB
  have hB0 : Below w.heap.size w (w.alloc (.cells #[.int .i64 t0, .int .i64 s0, .int .i64 r0, .int .i64 k0] 23)) := ((Below.refl _ _).alloc (by simp) _)
  have Htab := Lib.hid htab
  clear htab
  have hB : Below (w.alloc (.cells #[.int .i64 t0, .int .i64 s0, .int .i64 r0, .int .i64 k0] 23)).heap.size (w.alloc (.cells #[.int .i64 t0, .int .i64 s0, .int .i64 r0, .int .i64 k0] 23)) (w.alloc (.cells #[.int .i64 t0, .int .i64 s0, .int .i64 r0, .int .i64 k0] 23)) := Below.refl _ _
  go_enter Tryd.func3, Tryd.ntmps3
  go_wp2_with fail
  with_reducible refine (toBase_any _ _ _ _ _).mono ?_
  rintro e w1 ⟨rfl, hb⟩
  replace hB := bstep hB hb (Nat.le_refl _)
  clear hb
  go_wp2_with fail
  with_reducible refine (specBaseText_any _ _ _ _ _).mono ?_
  rintro e w2 ⟨rfl, hb⟩
  replace hB := bstep hB hb (Nat.le_refl _)
  clear hb
  have hA0 := ((CellsAt.box w #[.int .i64 t0, .int .i64 s0, .int .i64 r0, .int .i64 k0] 23)).below hB
  have dd0_0 := hA0.2 0 _ rfl
  have dd0_1 := hA0.2 1 _ rfl
  have dd0_2 := hA0.2 2 _ rfl
  have dd0_3 := hA0.2 3 _ rfl
  clear hA0
  go_wp2_with fail
  with_reducible refine (toBase_any _ _ _ _ _).mono ?_
  rintro e w3 ⟨rfl, hb⟩
  replace hB := bstep hB hb (Nat.le_refl _)
  clear hb dd0_0 dd0_1 dd0_2 dd0_3
  have hB2 := bstep hB0 hB (Nat.le_refl _)
  go_wp2_with fail
  with_reducible refine (baseText_any _ _ _ _ _ (Joins.tab_stays (g := 0) (by kernel_rfl) Htab.out hB2 (Nat.le_refl _))).mono ?_
  rintro e w4 ⟨rfl, hb⟩
  replace hB2 := bstep hB2 hb (Nat.le_refl _)
  clear hb hB
  generalize baseTextR t0 s0 r0 k0 = T at *
  go_wp2_with fail
  go_ret
  exact ⟨rfl, by first | exact hB2 | (simp only [World.drewN_drewN] at hB2; exact hB2)⟩

set_option maxRecDepth 100000 in
theorem lifted (os : Os) (started : os.Started) (H : Type) (enc : TypeId × Value → H) :
    ReturnsInHanded {} Tryd.checked os 3 .any (fun w args => (Rows.fnExactBaseTextSpec.pre enc Tryd.prog Tryd.f3 [] false w args ∧ laidMetH Tryd.prog Rows.fnExactBaseTextRow.laid w) ∧ sizedMet enc Tryd.prog Tryd.f3 (OpenSpec.ofChange Rows.fnExactBaseTextSpec) false w args) (Rows.fnExactBaseTextSpec.post enc Tryd.prog Tryd.f3 false true false false) := by
  refine returnsInHanded_of_change_and (C := Tryd.checked) (X := fun w _ => laidMetH Tryd.prog Rows.fnExactBaseTextRow.laid w) (fun _ _ _ hh h => h.of_heap hh) own started (by kernel_rfl) Tryd.func3
    (ChangeSpec.witness_shaped (enc := enc) (C := Tryd.checked) (os := os) (X := fun w _ => laidMetH Tryd.prog Rows.fnExactBaseTextRow.laid w) false (World.laidAll Tryd.prog os Rows.fnExactBaseTextRow.laid) #[.agg #[.int .i64 0, .int .i64 0, .int .i64 0, .int .i64 0]] 8 (World.laidAll_os _ _ _)
      (World.shaped_of_ZipB (by kernel_rfl) (by kernel_rfl)) (by kernel_rfl) (by kernel_rfl) (by kernel_rfl)
      (by rw [MakeChecks.laidMetH_plain _ _ _ (by kernel_rfl)]; exact laidMet_laidAll _ (by kernel_rfl) (by kernel_rfl))) ?_
  intro W base args ds gs before hval0 hW _ _ hL _
  have hval : ∀ (j : Nat) t v, Tryd.f3.params[j]? = some t → args[j]? = some v → Value.okWide Tryd.prog W .any base t v := hval0
  have hW' := hW
  obtain ⟨p, q, hA0, hV, rfl, hfz, hnd⟩ := hW
  have hA : DataW.TrodAll enc Tryd.prog W 0 (fun _ => true) true Tryd.f3.params.toList args.toList ds p := hA0
  rw [Tryd.params3] at hA hval
  obtain ⟨v0, vs0, d0, ds0, pP0, qQ0, hargs, rfl, rfl, k0, e0⟩ := trodAll_cons hA
  obtain ⟨rfl, rfl, rfl⟩ := trodAll_nil e0
  obtain rfl : args = #[v0] := by cases args; simp_all
  obtain ⟨rfl, rfl⟩ := trodVars_none hV
  have l0 := arg_lt k0
  obtain ⟨t0, s0, r0, q0, rfl, gt0, gs0, gr0, gk0⟩ := arg_base (hval 0 _ v0 rfl rfl) k0
  clear hA0 hval0
  have htab : Lib.TabIs Tryd.prog W "internal/strconv.uint64pow10" .u64 Lib.pow10Tab := by
    have h := hL
    rw [MakeChecks.laidMetH_plain _ _ _ (by kernel_rfl)] at h
    have h2 := laidMet.filter (fun x => x.1 == "internal/strconv.uint64pow10") h
    have e : (Rows.fnExactBaseTextRow.laid.filter (fun x => x.1 == "internal/strconv.uint64pow10")) = [("internal/strconv.uint64pow10", Lib.tabData .u64 Lib.pow10Tab)] := by kernel_rfl
    rw [e] at h2
    exact Lib.tabIs_of_head (g := 0) (t := 74) (e := 60) (n := 20) (by kernel_rfl) (by kernel_rfl) (by kernel_rfl) (by kernel_rfl) (by kernel_rfl) (by kernel_rfl) h2
  refine (walk W t0 s0 r0 q0 gt0 gs0 gr0 gk0 htab).mono fun e W' ⟨he, bel⟩ => ?_
  subst he
  exact ⟨_, rfl, _, _, _, [], _, [], hW', trodAll_mk1 (shut_bool Tryd.underlying4 _), (trodAll_cons_mk (Below.trod laidOut (by kernel_rfl) (of_decide_eq_true (by kernel_rfl)) k0 bel l0) trodAll_mk0), rfl, bel.frame _, fun h => by cases h⟩

theorem over : Rows.fnExactBaseTextRow.holds Tryd.pinned (OpenSpec.ofChange Rows.fnExactBaseTextSpec) :=
  OpenClaim.holds_of_wide 3 Tryd.f3 rfl rfl rfl rfl rfl rfl rfl ⟨rfl, rfl, rfl, rfl, rfl⟩ rfl rfl rfl rfl rfl (by kernel_rfl) Tryd.func3 (by kernel_rfl)
    (of_decide_eq_true (by kernel_rfl)) (by unfold Func.isWrapper; first | (rw [if_pos (by decide +kernel)]; kernel_rfl) | (rw [if_neg (by decide +kernel)]; exact ⟨rfl, rfl⟩))
    (fun os started H enc _ => lifted os started H enc)

set_option maxRecDepth 100000 in
/-- the statement -/
theorem proved : Rows.FnExactBaseTextCardSaid :=
  Claim7.holds_tied_plain_at .later [] [.data, .data, .data] true (true, "399fb9f95262c9df08f1686c91eb4252d2b73cf79fa9dcb9d585db8bcba6e394") false over (fun _ h => by cases h) (by kernel_rfl) (fun _ h => by cases h) fnExactBaseText_row_tie rfl ⟨rfl, rfl⟩ (by kernel_rfl) rfl
    (fun f fn hf hfn => by
      obtain rfl : f = 3 := Option.some.inj ((show Tryd.prog.funcNamed Rows.fnExactBaseTextRow.func = some 3 by kernel_rfl).symm.trans hf) |>.symm
      obtain rfl : fn = Tryd.f3 := (Option.some.inj (Tryd.func3.symm.trans hfn)).symm
      exact ⟨by kernel_rfl, fun j t ht => by
        rw [Tryd.params3] at ht
        have hm : t ∈ [23] := by simpa using Array.mem_of_getElem? ht
        have hall : ([23].all fun u => !Tryd.prog.wantsStandIn u) = true := by kernel_rfl
        exact (show Tryd.prog.wantsStandIn t = false by simpa using List.all_eq_true.1 hall t hm)⟩)
    (by kernel_rfl)
#print axioms proved
end Go.Proofs.YtimomjkeknlcgaaDoor.fnExactBaseText
