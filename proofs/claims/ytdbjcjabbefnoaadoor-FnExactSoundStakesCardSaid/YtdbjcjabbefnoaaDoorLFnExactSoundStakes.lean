/-
  Proved here: the law FnExactSoundStakes answers true at every input, and leaves its arguments as they were. No condition.
-/
import Derived.Test.YtdbjcjabbefnoaaDoorFrame
import Derived.Test.YtdbjcjabbefnoaaDoorTie
import Derived.Test.YtdbjcjabbefnoaaDoorCards
import Derived.Lay
import Derived.SevenTiedAt
import Derived.LaidMore
import Derived.Stop.Joined
import Derived.Test.YtdbjcjabbefnoaaDoorWeave3
namespace Go.Proofs.YtdbjcjabbefnoaaDoor.fnExactSoundStakes
open Go.ChangeShapes Go.WideShapes Go.ChangeAt Go.RowKit
set_option linter.unusedVariables false

set_option maxHeartbeats 16000000 in
set_option maxRecDepth 100000 in
theorem walk (w : World) (s0 : ByteArray) (z0 : s0.size ≤ maxLen) (a1 : Int) (g1 : -9223372036854775808 ≤ a1 ∧ a1 ≤ 9223372036854775807) (a2 : Int) (g2 : -9223372036854775808 ≤ a2 ∧ a2 ≤ 9223372036854775807) :
    Calls Tryd.prog 4 #[.string s0, .int .i64 a1, .int .i64 a2] w fun e w' => e = .returned (.bool true) ∧ Below w.heap.size w w' := by
  by_cases hn0 : 1048576 < (s0.size : Int)
  · go_enter Tryd.func4, Tryd.ntmps4
    go_wp2
    go_ret
    exact ⟨rfl, Below.refl _ _⟩
  have hB : Below w.heap.size w w := Below.refl _ _
  have hlen : (soundR s0.data.toList a1 a2).1.length ≤ 1000000 := soundR_len _ _ _
  go_enter Tryd.func4, Tryd.ntmps4
  go_wp2_with fail
  refine (specSoundStakes_any _ _ _ _ z0).mono ?_
  rintro e w1 ⟨v_w0, rfl, ho_w0, hb⟩
  obtain ⟨a_w0, c_w0, rfl, hr_w0⟩ := ho_w0.sliceI
  clear hr_w0
  have sz1 : w.heap.size ≤ w1.heap.size := hb.size
  replace hB := bstep hB hb (Nat.le_refl _)
  clear hb
  replace ho_w0 : Own w1 w.heap.size w1.heap.size _ _ _ := ho_w0
  go_wp2_with fail
  refine (SoundStakes_any _ _ _ _ z0).mono ?_
  rintro e w2 ⟨v_g0, rfl, ho_g0, hb⟩
  obtain ⟨a_g0, c_g0, rfl, hr_g0⟩ := ho_g0.sliceI
  clear hr_g0
  have sz2 : w1.heap.size ≤ w2.heap.size := hb.size
  replace hB := bstep hB hb (Nat.le_refl _)
  replace ho_w0 := ho_w0.below hb
  clear hb
  replace ho_g0 : Own w2 w1.heap.size w2.heap.size _ _ _ := ho_g0
  go_wp2_with fail
  refine (eqInts_same _ _ _ _ _ _ _ (ho_g0.rv) (ho_w0.rv)).mono ?_
  rintro e wq ⟨rfl, m3, rfl⟩
  replace hB := bdrewN hB m3
  replace ho_w0 := ho_w0.drewN m3
  replace ho_g0 := ho_g0.drewN m3
  go_wp2_with fail
  refine (markInts_ints _ _ _ _ _ _ (by decide) (by decide) (by omega) ho_g0).mono ?_
  rintro e w4 ⟨rfl, hm, hg⟩
  replace hB := below_marked hB ho_g0 hg (by omega) hB.size
  have sz4 : w2.heap.size ≤ w4.heap.size := hg.size
  replace ho_w0 := ho_w0.apart ho_g0 hg (by omega)
  replace ho_g0 := hm
  clear hm hg
  go_wp2_with fail
  refine (heldInts_any _ _ _ _ _ (by decide) (by decide) (by omega) (ho_g0.rv)).mono ?_
  rintro e wq ⟨rfl, rfl⟩
  go_wp2_with fail
  refine (SoundStakes_any _ _ _ _ z0).mono ?_
  rintro e w5 ⟨v_h0, rfl, ho_h0, hb⟩
  obtain ⟨a_h0, c_h0, rfl, hr_h0⟩ := ho_h0.sliceI
  clear hr_h0
  have sz5 : w4.heap.size ≤ w5.heap.size := hb.size
  replace hB := bstep hB hb (Nat.le_refl _)
  replace ho_w0 := ho_w0.below hb
  replace ho_g0 := ho_g0.below hb
  clear hb
  replace ho_h0 : Own w5 w4.heap.size w5.heap.size _ _ _ := ho_h0
  go_wp2_with fail
  refine (eqInts_same _ _ _ _ _ _ _ (ho_h0.rv) (ho_w0.rv)).mono ?_
  rintro e wq ⟨rfl, m6, rfl⟩
  replace hB := bdrewN hB m6
  replace ho_w0 := ho_w0.drewN m6
  replace ho_g0 := ho_g0.drewN m6
  replace ho_h0 := ho_h0.drewN m6
  go_wp2_with fail
  refine (heldInts_any _ _ _ _ _ (by decide) (by decide) (by omega) (ho_g0.rv)).mono ?_
  rintro e wq ⟨rfl, rfl⟩
  go_wp2_with fail
  go_ret
  exact ⟨rfl, hB⟩

set_option maxRecDepth 100000 in
theorem lifted (os : Os) (started : os.Started) (H : Type) (enc : TypeId × Value → H) :
    ReturnsInHanded {} Tryd.checked os 4 .any (fun w args => (Rows.fnExactSoundStakesSpec.pre enc Tryd.prog Tryd.f4 [] false w args ∧ laidMetH Tryd.prog Rows.fnExactSoundStakesRow.laid w) ∧ sizedMet enc Tryd.prog Tryd.f4 (OpenSpec.ofChange Rows.fnExactSoundStakesSpec) false w args) (Rows.fnExactSoundStakesSpec.post enc Tryd.prog Tryd.f4 false true false false) := by
  refine returnsInHanded_of_change_and (C := Tryd.checked) (X := fun w _ => laidMetH Tryd.prog Rows.fnExactSoundStakesRow.laid w) (fun _ _ _ hh h => h.of_heap hh) own started (by kernel_rfl) Tryd.func4
    (ChangeSpec.witness_shaped (enc := enc) (C := Tryd.checked) (os := os) (X := fun w _ => laidMetH Tryd.prog Rows.fnExactSoundStakesRow.laid w) false (World.laidAll Tryd.prog os Rows.fnExactSoundStakesRow.laid) #[.string ByteArray.empty, .int .i64 0, .int .i64 0] 8 (World.laidAll_os _ _ _)
      (World.shaped_of_ZipB (by kernel_rfl) (by kernel_rfl)) (by kernel_rfl) (by kernel_rfl) (by kernel_rfl)
      (by rw [MakeChecks.laidMetH_plain _ _ _ (by kernel_rfl)]; exact laidMet_laidAll _ (by kernel_rfl) (by kernel_rfl))) ?_
  intro W base args ds gs before hval0 hW _ _ hL _
  have hval : ∀ (j : Nat) t v, Tryd.f4.params[j]? = some t → args[j]? = some v → Value.okWide Tryd.prog W .any base t v := hval0
  have hW' := hW
  obtain ⟨p, q, hA0, hV, rfl, hfz, hnd⟩ := hW
  have hA : DataW.TrodAll enc Tryd.prog W 0 (fun _ => true) true Tryd.f4.params.toList args.toList ds p := hA0
  rw [Tryd.params4] at hA hval
  obtain ⟨v0, vs0, d0, ds0, pP0, qQ0, hargs, rfl, rfl, k0, e0⟩ := trodAll_cons hA
  obtain ⟨v1, vs1, d1, ds1, pP1, qQ1, rfl, rfl, rfl, k1, e1⟩ := trodAll_cons e0
  obtain ⟨v2, vs2, d2, ds2, pP2, qQ2, rfl, rfl, rfl, k2, e2⟩ := trodAll_cons e1
  obtain ⟨rfl, rfl, rfl⟩ := trodAll_nil e2
  obtain rfl : args = #[v0, v1, v2] := by cases args; simp_all
  obtain ⟨rfl, rfl⟩ := trodVars_none hV
  have l0 := arg_lt k0
  have l1 := arg_lt k1
  have l2 := arg_lt k2
  obtain ⟨s0, rfl, z0⟩ := arg_str (hval 0 _ v0 rfl rfl) k0
  obtain ⟨a1, rfl, g1⟩ := arg_int (hval 1 _ v1 rfl rfl) k1
  obtain ⟨a2, rfl, g2⟩ := arg_int (hval 2 _ v2 rfl rfl) k2
  clear hA0 hval0
  refine (walk W s0 z0 a1 g1 a2 g2).mono fun e W' ⟨he, bel⟩ => ?_
  subst he
  exact ⟨_, rfl, _, _, _, [], _, [], hW', trodAll_mk1 (shut_bool Tryd.underlying4 _), (trodAll_cons_mk (Below.trod laidOut (by kernel_rfl) (of_decide_eq_true (by kernel_rfl)) k0 bel l0) (trodAll_cons_mk (Below.trod laidOut (by kernel_rfl) (of_decide_eq_true (by kernel_rfl)) k1 bel l1) (trodAll_cons_mk (Below.trod laidOut (by kernel_rfl) (of_decide_eq_true (by kernel_rfl)) k2 bel l2) trodAll_mk0))), rfl, bel.frame _, fun h => by cases h⟩

theorem over : Rows.fnExactSoundStakesRow.holds Tryd.pinned (OpenSpec.ofChange Rows.fnExactSoundStakesSpec) :=
  OpenClaim.holds_of_wide 4 Tryd.f4 rfl rfl rfl rfl rfl rfl rfl ⟨rfl, rfl, rfl, rfl, rfl⟩ rfl rfl rfl rfl rfl (by kernel_rfl) Tryd.func4 (by kernel_rfl)
    (of_decide_eq_true (by kernel_rfl)) (by unfold Func.isWrapper; first | (rw [if_pos (by decide +kernel)]; kernel_rfl) | (rw [if_neg (by decide +kernel)]; exact ⟨rfl, rfl⟩))
    (fun os started H enc _ => lifted os started H enc)

set_option maxRecDepth 100000 in
/-- the statement -/
theorem proved : Rows.FnExactSoundStakesCardSaid :=
  Claim7.holds_tied_plain_at .later [] [.data, .pinned] true (true, "c1a6f091aa61e7db9d0f659661e7d6c9241281098af5c2a057da1e944caa10bd") false over (fun _ h => by cases h) (by kernel_rfl) (fun _ h => by cases h) fnExactSoundStakes_row_tie rfl ⟨rfl, rfl⟩ (by kernel_rfl) rfl
    (fun f fn hf hfn => by
      obtain rfl : f = 4 := Option.some.inj ((show Tryd.prog.funcNamed Rows.fnExactSoundStakesRow.func = some 4 by kernel_rfl).symm.trans hf) |>.symm
      obtain rfl : fn = Tryd.f4 := (Option.some.inj (Tryd.func4.symm.trans hfn)).symm
      exact ⟨by kernel_rfl, fun j t ht => by
        rw [Tryd.params4] at ht
        have hm : t ∈ [9, 2, 2] := by simpa using Array.mem_of_getElem? ht
        have hall : ([9, 2, 2].all fun u => !Tryd.prog.wantsStandIn u) = true := by kernel_rfl
        exact (show Tryd.prog.wantsStandIn t = false by simpa using List.all_eq_true.1 hall t hm)⟩)
    (by kernel_rfl)
#print axioms proved
end Go.Proofs.YtdbjcjabbefnoaaDoor.fnExactSoundStakes
