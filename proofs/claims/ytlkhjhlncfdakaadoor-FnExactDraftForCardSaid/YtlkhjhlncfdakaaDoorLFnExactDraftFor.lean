/-
  Proved here: the law FnExactDraftFor answers true at every input, and leaves its arguments as they were. No condition.
-/
import Derived.Test.YtlkhjhlncfdakaaDoorFrame
import Derived.Test.YtlkhjhlncfdakaaDoorTie
import Derived.Test.YtlkhjhlncfdakaaDoorCards
import Derived.Lay
import Derived.SevenTiedAt
import Derived.LaidMore
import Derived.Stop.Joined
import Derived.Test.YtlkhjhlncfdakaaDoorDraft5
namespace Go.Proofs.YtlkhjhlncfdakaaDoor.fnExactDraftFor
open Go.ChangeShapes Go.WideShapes Go.ChangeAt Go.RowKit
set_option linter.unusedVariables false

set_option maxHeartbeats 2000000 in
set_option maxRecDepth 100000 in
theorem walk (w : World) (s0 : ByteArray) (z0 : s0.size ≤ maxLen) (a1 : Int) (g1 : -9223372036854775808 ≤ a1 ∧ a1 ≤ 9223372036854775807) :
    Calls Tryd.prog 4 #[.string s0, .int .i64 a1] w fun e w' => e = .returned (.bool true) ∧ Below w.heap.size w w' := by
  by_cases hn0 : 1048576 < (s0.size : Int)
  · go_enter Tryd.func4, Tryd.ntmps4
    go_wp2
    go_ret
    exact ⟨rfl, Below.refl _ _⟩
  have hB : Below w.heap.size w w := Below.refl _ _
  have hlen : (draftR s0.data.toList a1).1.length ≤ 1000000 := draftR_len _ _
  have hkd : decide ((1 : Int) + ((draftR s0.data.toList a1).1.length : Int) < 0) = false := by simp; omega
  go_enter Tryd.func4, Tryd.ntmps4
  go_wp2_with fail
  refine (specDraftFor_any _ _ _ z0).mono ?_
  rintro e w1 ⟨v_w0, rfl, ho_w0, hb⟩
  obtain ⟨a_w0, c_w0, rfl, hr_w0⟩ := ho_w0.sliceI
  clear hr_w0
  have sz1 : w.heap.size ≤ w1.heap.size := hb.size
  replace hB := bstep hB hb (Nat.le_refl _)
  clear hb
  replace ho_w0 : Own w1 (w.heap.size) w1.heap.size _ _ _ := ho_w0
  have hx_Xw0 := CellsAt.box w1 #[.slice a_w0 (draftR s0.data.toList a1).1.length c_w0, .int .i64 (draftR s0.data.toList a1).2.1] 27
  replace hB := Below.alloc hB hB.size (.cells #[.slice a_w0 (draftR s0.data.toList a1).1.length c_w0, .int .i64 (draftR s0.data.toList a1).2.1] 27)
  replace ho_w0 := ho_w0.below ((Below.refl _ _).alloc (Nat.le_refl _) (.cells #[.slice a_w0 (draftR s0.data.toList a1).1.length c_w0, .int .i64 (draftR s0.data.toList a1).2.1] 27))
  go_wp2_with fail
  refine (draftFor_any _ _ _ z0).mono ?_
  rintro e w2 ⟨v_g0, rfl, ho_g0, hb⟩
  obtain ⟨a_g0, c_g0, rfl, hr_g0⟩ := ho_g0.sliceI
  clear hr_g0
  have sz2 : w1.heap.size ≤ w2.heap.size := by have := hb.size; simp at this; omega
  replace hB := bstep hB hb (Nat.le_refl _)
  replace ho_w0 := ho_w0.below hb
  replace hx_Xw0 := hx_Xw0.below hb
  clear hb
  replace ho_g0 : Own w2 (w1.heap.size + 1) w2.heap.size _ _ _ := ho_g0.mono (by simp) (Nat.le_refl _)
  have hx_Xg0 := CellsAt.box w2 #[.slice a_g0 (draftR s0.data.toList a1).1.length c_g0, .int .i64 (draftR s0.data.toList a1).2.1] 27
  replace hB := Below.alloc hB hB.size (.cells #[.slice a_g0 (draftR s0.data.toList a1).1.length c_g0, .int .i64 (draftR s0.data.toList a1).2.1] 27)
  replace ho_w0 := ho_w0.below ((Below.refl _ _).alloc (Nat.le_refl _) (.cells #[.slice a_g0 (draftR s0.data.toList a1).1.length c_g0, .int .i64 (draftR s0.data.toList a1).2.1] 27))
  replace ho_g0 := ho_g0.below ((Below.refl _ _).alloc (Nat.le_refl _) (.cells #[.slice a_g0 (draftR s0.data.toList a1).1.length c_g0, .int .i64 (draftR s0.data.toList a1).2.1] 27))
  replace hx_Xw0 := hx_Xw0.below ((Below.refl _ _).alloc (Nat.le_refl _) (.cells #[.slice a_g0 (draftR s0.data.toList a1).1.length c_g0, .int .i64 (draftR s0.data.toList a1).2.1] 27))
  have dx_Xw0_0 := hx_Xw0.2 0 _ rfl
  have dx_Xw0_1 := hx_Xw0.2 1 _ rfl
  have dx_Xg0_0 := hx_Xg0.2 0 _ rfl
  have dx_Xg0_1 := hx_Xg0.2 1 _ rfl
  go_wp2_with fail
  refine (eqTwill_same _ _ _ _ _ _ _ _ (ho_g0.rv) (ho_w0.rv)).mono ?_
  rintro e w3 ⟨rfl, hb⟩
  have sz3 : w2.heap.size ≤ w3.heap.size := by have := hb.size; simp at this; omega
  replace hB := bstep hB hb (Nat.le_refl _)
  replace ho_w0 := ho_w0.below hb
  replace ho_g0 := ho_g0.below hb
  replace hx_Xw0 := hx_Xw0.below hb
  replace hx_Xg0 := hx_Xg0.below hb
  clear hb
  clear dx_Xw0_0 dx_Xw0_1
  clear dx_Xg0_0 dx_Xg0_1
  have dx_Xg0_0 := hx_Xg0.2 0 _ rfl
  have dx_Xg0_1 := hx_Xg0.2 1 _ rfl
  go_wp2_with fail
  refine (markTwill_any _ _ _ _ _ _ _ (by decide) (by decide) (by omega) ho_g0).mono ?_
  rintro e w4 ⟨rfl, hm, hg⟩
  have hBa := Below.alloc hB hB.size (.cells #[.slice a_g0 (draftR s0.data.toList a1).1.length c_g0, .int .i64 (draftR s0.data.toList a1).2.1] 27)
  replace hB := below_marked hBa (ho_g0.below ((Below.refl _ _).alloc (Nat.le_refl _) (.cells #[.slice a_g0 (draftR s0.data.toList a1).1.length c_g0, .int .i64 (draftR s0.data.toList a1).2.1] 27))) hg (by first | omega | (simp; omega)) hBa.size
  have sz4 : w3.heap.size ≤ w4.heap.size := by have := hg.size; simp at this; omega
  replace ho_w0 := (ho_w0.below ((Below.refl _ _).alloc (Nat.le_refl _) (.cells #[.slice a_g0 (draftR s0.data.toList a1).1.length c_g0, .int .i64 (draftR s0.data.toList a1).2.1] 27))).apart (ho_g0.below ((Below.refl _ _).alloc (Nat.le_refl _) (.cells #[.slice a_g0 (draftR s0.data.toList a1).1.length c_g0, .int .i64 (draftR s0.data.toList a1).2.1] 27))) hg (by omega)
  replace hx_Xw0 := (hx_Xw0.below ((Below.refl _ _).alloc (Nat.le_refl _) (.cells #[.slice a_g0 (draftR s0.data.toList a1).1.length c_g0, .int .i64 (draftR s0.data.toList a1).2.1] 27))).grown hg (fun e => by have h1 := (ho_g0.1.lt _ e.symm).1; have h2 := ho_g0.2 _ e.symm; first | omega | (simp at h1 h2; omega))
  replace hx_Xg0 := (hx_Xg0.below ((Below.refl _ _).alloc (Nat.le_refl _) (.cells #[.slice a_g0 (draftR s0.data.toList a1).1.length c_g0, .int .i64 (draftR s0.data.toList a1).2.1] 27))).grown hg (fun e => by have h1 := (ho_g0.1.lt _ e.symm).1; have h2 := ho_g0.2 _ e.symm; first | omega | (simp at h1 h2; omega))
  replace ho_g0 := hm
  clear hm hg hBa
  clear dx_Xg0_0 dx_Xg0_1
  have dx_Xg0_0 := hx_Xg0.2 0 _ rfl
  have dx_Xg0_1 := hx_Xg0.2 1 _ rfl
  go_wp2_with fail
  refine (heldTwill_any _ _ _ _ _ _ (by decide) (by decide) (by omega) ho_g0.rv).mono ?_
  rintro e w5 ⟨rfl, hb⟩
  have sz5 : w4.heap.size ≤ w5.heap.size := hb.size
  replace hB := bstep hB hb (Nat.le_refl _)
  replace ho_w0 := ho_w0.below hb
  replace ho_g0 := ho_g0.below hb
  replace hx_Xw0 := hx_Xw0.below hb
  replace hx_Xg0 := hx_Xg0.below hb
  clear hb
  clear dx_Xg0_0 dx_Xg0_1
  go_wp2_with fail
  refine (draftFor_any _ _ _ z0).mono ?_
  rintro e w6 ⟨v_h0, rfl, ho_h0, hb⟩
  obtain ⟨a_h0, c_h0, rfl, hr_h0⟩ := ho_h0.sliceI
  clear hr_h0
  have sz6 : w5.heap.size ≤ w6.heap.size := hb.size
  replace hB := bstep hB hb (Nat.le_refl _)
  replace ho_w0 := ho_w0.below hb
  replace ho_g0 := ho_g0.below hb
  replace hx_Xw0 := hx_Xw0.below hb
  replace hx_Xg0 := hx_Xg0.below hb
  clear hb
  replace ho_h0 : Own w6 (w5.heap.size) w6.heap.size _ _ _ := ho_h0
  have hx_Xh0 := CellsAt.box w6 #[.slice a_h0 (draftR s0.data.toList a1).1.length c_h0, .int .i64 (draftR s0.data.toList a1).2.1] 27
  replace hB := Below.alloc hB hB.size (.cells #[.slice a_h0 (draftR s0.data.toList a1).1.length c_h0, .int .i64 (draftR s0.data.toList a1).2.1] 27)
  replace ho_w0 := ho_w0.below ((Below.refl _ _).alloc (Nat.le_refl _) (.cells #[.slice a_h0 (draftR s0.data.toList a1).1.length c_h0, .int .i64 (draftR s0.data.toList a1).2.1] 27))
  replace ho_g0 := ho_g0.below ((Below.refl _ _).alloc (Nat.le_refl _) (.cells #[.slice a_h0 (draftR s0.data.toList a1).1.length c_h0, .int .i64 (draftR s0.data.toList a1).2.1] 27))
  replace ho_h0 := ho_h0.below ((Below.refl _ _).alloc (Nat.le_refl _) (.cells #[.slice a_h0 (draftR s0.data.toList a1).1.length c_h0, .int .i64 (draftR s0.data.toList a1).2.1] 27))
  replace hx_Xw0 := hx_Xw0.below ((Below.refl _ _).alloc (Nat.le_refl _) (.cells #[.slice a_h0 (draftR s0.data.toList a1).1.length c_h0, .int .i64 (draftR s0.data.toList a1).2.1] 27))
  replace hx_Xg0 := hx_Xg0.below ((Below.refl _ _).alloc (Nat.le_refl _) (.cells #[.slice a_h0 (draftR s0.data.toList a1).1.length c_h0, .int .i64 (draftR s0.data.toList a1).2.1] 27))
  have dx_Xw0_0 := hx_Xw0.2 0 _ rfl
  have dx_Xw0_1 := hx_Xw0.2 1 _ rfl
  have dx_Xh0_0 := hx_Xh0.2 0 _ rfl
  have dx_Xh0_1 := hx_Xh0.2 1 _ rfl
  go_wp2_with fail
  refine (eqTwill_same _ _ _ _ _ _ _ _ (ho_h0.rv) (ho_w0.rv)).mono ?_
  rintro e w7 ⟨rfl, hb⟩
  have sz7 : w6.heap.size ≤ w7.heap.size := by have := hb.size; simp at this; omega
  replace hB := bstep hB hb (Nat.le_refl _)
  replace ho_w0 := ho_w0.below hb
  replace ho_g0 := ho_g0.below hb
  replace ho_h0 := ho_h0.below hb
  replace hx_Xw0 := hx_Xw0.below hb
  replace hx_Xg0 := hx_Xg0.below hb
  replace hx_Xh0 := hx_Xh0.below hb
  clear hb
  clear dx_Xw0_0 dx_Xw0_1
  clear dx_Xh0_0 dx_Xh0_1
  have dx_Xg0_0 := hx_Xg0.2 0 _ rfl
  have dx_Xg0_1 := hx_Xg0.2 1 _ rfl
  go_wp2_with fail
  refine (heldTwill_any _ _ _ _ _ _ (by decide) (by decide) (by omega) ho_g0.rv).mono ?_
  rintro e w8 ⟨rfl, hb⟩
  have sz8 : w7.heap.size ≤ w8.heap.size := hb.size
  replace hB := bstep hB hb (Nat.le_refl _)
  replace ho_w0 := ho_w0.below hb
  replace ho_g0 := ho_g0.below hb
  replace ho_h0 := ho_h0.below hb
  replace hx_Xw0 := hx_Xw0.below hb
  replace hx_Xg0 := hx_Xg0.below hb
  replace hx_Xh0 := hx_Xh0.below hb
  clear hb
  go_wp2_with fail
  go_ret
  exact ⟨rfl, hB⟩

set_option maxRecDepth 100000 in
theorem lifted (os : Os) (started : os.Started) (H : Type) (enc : TypeId × Value → H) :
    ReturnsInHanded {} Tryd.checked os 4 .any (fun w args => (Rows.fnExactDraftForSpec.pre enc Tryd.prog Tryd.f4 [] false w args ∧ laidMetH Tryd.prog Rows.fnExactDraftForRow.laid w) ∧ sizedMet enc Tryd.prog Tryd.f4 (OpenSpec.ofChange Rows.fnExactDraftForSpec) false w args) (Rows.fnExactDraftForSpec.post enc Tryd.prog Tryd.f4 false true false false) := by
  refine returnsInHanded_of_change_and (C := Tryd.checked) (X := fun w _ => laidMetH Tryd.prog Rows.fnExactDraftForRow.laid w) (fun _ _ _ hh h => h.of_heap hh) own started (by kernel_rfl) Tryd.func4
    (ChangeSpec.witness_shaped (enc := enc) (C := Tryd.checked) (os := os) (X := fun w _ => laidMetH Tryd.prog Rows.fnExactDraftForRow.laid w) false (World.laidAll Tryd.prog os Rows.fnExactDraftForRow.laid) #[.string ByteArray.empty, .int .i64 0] 8 (World.laidAll_os _ _ _)
      (World.shaped_of_ZipB (by kernel_rfl) (by kernel_rfl)) (by kernel_rfl) (by kernel_rfl) (by kernel_rfl)
      (by rw [MakeChecks.laidMetH_plain _ _ _ (by kernel_rfl)]; exact laidMet_laidAll _ (by kernel_rfl) (by kernel_rfl))) ?_
  intro W base args ds gs before hval0 hW _ _ hL _
  have hval : ∀ (j : Nat) t v, Tryd.f4.params[j]? = some t → args[j]? = some v → Value.okWide Tryd.prog W .any base t v := hval0
  have hW' := hW
  obtain ⟨p, q, hA0, hV, rfl, hfz, hnd⟩ := hW
  have hA : DataW.TrodAll enc Tryd.prog W 0 (fun _ => true) true Tryd.f4.params.toList args.toList ds p := hA0
  rw [Tryd.params4] at hA hval
  obtain ⟨v0, vs0, d0, ds0, pP0, qQ0, hargs, rfl, rfl, k0, e0⟩ := trodAll_cons hA
  obtain ⟨v1, vs1, d1, ds1, pP1, qQ1, rfl, rfl, rfl, k1, e1⟩ := trodAll_cons e0
  obtain ⟨rfl, rfl, rfl⟩ := trodAll_nil e1
  obtain rfl : args = #[v0, v1] := by cases args; simp_all
  obtain ⟨rfl, rfl⟩ := trodVars_none hV
  have l0 := arg_lt k0
  have l1 := arg_lt k1
  obtain ⟨s0, rfl, z0⟩ := arg_str (hval 0 _ v0 rfl rfl) k0
  obtain ⟨a1, rfl, g1⟩ := arg_int (hval 1 _ v1 rfl rfl) k1
  clear hA0 hval0
  refine (walk W s0 z0 a1 g1).mono fun e W' ⟨he, bel⟩ => ?_
  subst he
  exact ⟨_, rfl, _, _, _, [], _, [], hW', trodAll_mk1 (shut_bool Tryd.underlying4 _), (trodAll_cons_mk (Below.trod laidOut (by kernel_rfl) (of_decide_eq_true (by kernel_rfl)) k0 bel l0) (trodAll_cons_mk (Below.trod laidOut (by kernel_rfl) (of_decide_eq_true (by kernel_rfl)) k1 bel l1) trodAll_mk0)), rfl, bel.frame _, fun h => by cases h⟩

theorem over : Rows.fnExactDraftForRow.holds Tryd.pinned (OpenSpec.ofChange Rows.fnExactDraftForSpec) :=
  OpenClaim.holds_of_wide 4 Tryd.f4 rfl rfl rfl rfl rfl rfl rfl ⟨rfl, rfl, rfl, rfl, rfl⟩ rfl rfl rfl rfl rfl (by kernel_rfl) Tryd.func4 (by kernel_rfl)
    (of_decide_eq_true (by kernel_rfl)) (by unfold Func.isWrapper; first | (rw [if_pos (by decide +kernel)]; kernel_rfl) | (rw [if_neg (by decide +kernel)]; exact ⟨rfl, rfl⟩))
    (fun os started H enc _ => lifted os started H enc)

set_option maxRecDepth 100000 in
/-- the statement -/
theorem proved : Rows.FnExactDraftForCardSaid :=
  Claim7.holds_tied_plain_at .later [] [.data, .pinned] true (true, "c04fd3de78710613fddb982653f248266e8381e4d31205765978bb8ed5e1bf2d") false over (fun _ h => by cases h) (by kernel_rfl) (fun _ h => by cases h) fnExactDraftFor_row_tie rfl ⟨rfl, rfl⟩ (by kernel_rfl) rfl
    (fun f fn hf hfn => by
      obtain rfl : f = 4 := Option.some.inj ((show Tryd.prog.funcNamed Rows.fnExactDraftForRow.func = some 4 by kernel_rfl).symm.trans hf) |>.symm
      obtain rfl : fn = Tryd.f4 := (Option.some.inj (Tryd.func4.symm.trans hfn)).symm
      exact ⟨by kernel_rfl, fun j t ht => by
        rw [Tryd.params4] at ht
        have hm : t ∈ [9, 2] := by simpa using Array.mem_of_getElem? ht
        have hall : ([9, 2].all fun u => !Tryd.prog.wantsStandIn u) = true := by kernel_rfl
        exact (show Tryd.prog.wantsStandIn t = false by simpa using List.all_eq_true.1 hall t hm)⟩)
    (by kernel_rfl)
#print axioms proved
end Go.Proofs.YtlkhjhlncfdakaaDoor.fnExactDraftFor
