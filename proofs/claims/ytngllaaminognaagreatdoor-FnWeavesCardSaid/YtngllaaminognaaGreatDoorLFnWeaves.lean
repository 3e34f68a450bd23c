/-
  Proved here: the law FnWeaves answers true at every input, and leaves its arguments as they were. No condition.
-/
import Derived.Test.YtngllaaminognaaGreatDoorFrame
import Derived.Test.YtngllaaminognaaGreatDoorTie
import Derived.Test.YtngllaaminognaaGreatDoorCards
import Derived.Lay
import Derived.SevenTiedAt
import Derived.LaidMore
import Derived.Stop.Joined
import Derived.Test.YtngllaaminognaaGreatDoorWeaveFn2
namespace Go.Proofs.YtngllaaminognaaGreatDoor.fnWeaves
open Go.ChangeShapes Go.WideShapes Go.ChangeAt Go.RowKit
set_option linter.unusedVariables false

set_option maxHeartbeats 16000000 in
set_option maxRecDepth 100000 in
theorem walk (w : World) (p0 : Option Addr) (n0 c0 : Nat) (x0 : List Int) (r0 : RV w p0 n0 c0 (x0.map (.int .u8))) (b0 : ∀ x ∈ x0, 0 ≤ x ∧ x ≤ 255) (p1 : Option Addr) (n1 c1 : Nat) (x1 : List Int) (r1 : RV w p1 n1 c1 (x1.map (.int .u8))) (b1 : ∀ x ∈ x1, 0 ≤ x ∧ x ≤ 255) :
    Calls Tryz.prog 3 #[.slice p0 n0 c0, .slice p1 n1 c1] w fun e w' => e = .returned (.bool true) ∧ Below w.heap.size w w' := by
  by_cases hlong : ¬ (n0 ≤ 3000 ∧ n1 ≤ 3000)
  · go_enter Tryz.func3, Tryz.ntmps3
    go_wp2_with (go_at_call 4; refine (a2Long_yes _ _ _ _ _ _ _ hlong).mono ?_; rintro e w' ⟨rfl, rfl⟩)
    go_ret
    exact ⟨rfl, Below.refl _ _⟩
  obtain ⟨hl0, hl1⟩ := Decidable.not_not.1 hlong
  clear hlong
  have hB : Below w.heap.size w w := Below.refl _ _
  have Hb1 := Lib.hid b1
  go_enter Tryz.func3, Tryz.ntmps3
  go_wp2_with fail
  with_reducible refine (a2Long_no _ _ _ _ _ _ _ hl0 hl1).mono ?_
  rintro e wq ⟨rfl, rfl⟩
  go_wp2_with fail
  with_reducible refine (A2Stroke_any _ _ _ _ _ r0 b0).mono ?_
  rintro e w1 ⟨S, rfl, hs1, hs2, htw, hb⟩
  replace hB := bstep hB hb (Nat.le_refl _)
  clear hb
  have Hr1 := Lib.hid (RV.below r1 hB)
  clear r0 b0 r1 b1
  go_wp2_with fail
  with_reducible refine (a2At_any _ _ _ _ _ _ _ (by omega) (by omega) Hr1.out Hb1.out).mono ?_
  rintro e wq ⟨⟨s, rfl, hs0, hs1'⟩, rfl⟩
  obtain ⟨m, hm⟩ : ∃ m : Nat, 3 + s = (m : Int) := ⟨(3 + s).toNat, by omega⟩
  have hm3 : 3 ≤ m ∧ m ≤ 24 := by omega
  obtain ⟨l, Hl⟩ : ∃ l, Hid (l = S.data.toList) := ⟨_, rfl⟩
  have Hll := Lib.hid (show l.length = S.size by rw [Hl.out, size_list])
  have hvs : vS l = true := vS_iff.2 ⟨by rw [Hll.out]; omega, by rw [Hll.out]; omega, by rw [Hl.out]; exact htw⟩
  have Htw := Lib.hid (show two 70 66 l = true by rw [Hl.out]; exact htw)
  obtain ⟨O, HO⟩ : ∃ O : ByteArray, Hid (O = str (swapL l)) := ⟨_, rfl⟩
  have hOs : O.size = S.size := by rw [HO.out, str_size, swapL_len, Hll.out]
  have HOl := Lib.hid (show O.data.toList = swapL l by rw [HO.out, str_list])
  have Hos := Lib.hid (fun W => show Calls Tryz.prog 7 #[.string S] W fun e w' => e = .returned (.tuple #[.string O, .int .i64 0]) ∧ Below W.heap.size W w' by
    have h := OtherSide_any S W (by unfold maxLen; omega)
    rw [← Hl.out, show otherR l = (O, 0) by rw [otherR, if_pos hvs, HO.out]] at h
    exact h)
  have Hob := Lib.hid (fun W => show Calls Tryz.prog 7 #[.string O] W fun e w' => e = .returned (.tuple #[.string S, .int .i64 0]) ∧ Below W.heap.size W w' by
    have h := OtherSide_any O W (by unfold maxLen; omega)
    rw [HOl.out, show otherR (swapL l) = (S, 0) by rw [otherR, if_pos (swapL_vS hvs), swapL_swapL Htw.out, Hl.out, str_of]] at h
    exact h)
  have Hag := Lib.hid (fun W => BeginsAgain_any S m W (by rw [← Hl.out]; exact hvs) (by omega) (by omega))
  have hagb := agW_spec (n := S.size) (st := (m : Int)) (by omega) (by omega)
  have hagm := again_mul (n := S.size) (m := m) (by omega) (by omega)
  have Hfirst := Lib.hid (fun r h0 h1 => again_first (n := S.size) (m := m) (r := r) (by omega) (by omega) h0 h1)
  have Hro := Lib.hid (fun (r : Nat) (hr : r ≤ 100) W => show ∃ T : ByteArray, T.size = m ∧ (∀ k, k < m → bat T.data.toList k = bat l ((r * m + k) % S.size)) ∧ Calls Tryz.prog 9 #[.string S, .int .i64 m, .int .i64 r] W fun e w' => e = .returned (.tuple #[.string T, .int .i64 0]) ∧ Below W.heap.size W w' by
    have h := RoundOf_any S m r W (by rw [← Hl.out]; exact hvs) (by omega) (by omega) hr
    rw [← Hl.out] at h
    exact ⟨_, by rw [str_size, alongL_len], fun k hk => by rw [str_list, round_at l _ m k hk, Hll.out], h⟩)
  have Hru := Lib.hid (fun (r : Nat) (hr : r ≤ 100) W => show ∃ T : ByteArray, T.size = m ∧ (∀ k, k < m → bat T.data.toList k = bat (swapL l) ((r * m + k) % S.size)) ∧ Calls Tryz.prog 9 #[.string O, .int .i64 m, .int .i64 r] W fun e w' => e = .returned (.tuple #[.string T, .int .i64 0]) ∧ Below W.heap.size W w' by
    have h := RoundOf_any O m r W (by rw [HOl.out]; exact swapL_vS hvs) (by omega) (by omega) hr
    rw [HOl.out] at h
    exact ⟨_, by rw [str_size, alongL_len], fun k hk => by rw [str_list, round_at (swapL l) _ m k hk, swapL_len, Hll.out], h⟩)
  obtain ⟨M, hM⟩ : ∃ M, agW S.size (m : Int) = M := ⟨_, rfl⟩
  rw [hM] at Hag hagb hagm Hfirst
  have hM1 : 1 ≤ M := hagb.2.1
  have hM12 : M ≤ 12 := by omega
  obtain ⟨Z, hZ⟩ : ∃ Z, S.size = Z := ⟨_, rfl⟩
  rw [hZ] at hOs Hll Hfirst Hro Hru hagm hs1 hs2
  have hmm0 : M * m ≤ 12 * 24 := Nat.mul_le_mul hM12 hm3.2
  have hMm : (M : Int) * (m : Int) = ((M * m : Nat) : Int) := by simp
  have w1m : IntKind.i64.wrap ((M : Int) * (m : Int)) = ((M * m : Nat) : Int) := by rw [hMm]; exact IntWalk.i64_in _ (by omega)
  have t0 : (((M * m : Nat) : Int)).tmod (Z : Int) = 0 := by rw [Int.tmod_eq_emod_of_nonneg (by omega)]; omega
  have t0' : (((M * m : Nat) : Int)) % (Z : Int) = 0 := by omega
  obtain ⟨Mm, hMmE⟩ : ∃ Mm : Nat, M * m = Mm := ⟨_, rfl⟩
  rw [hMmE] at w1m t0 t0' hMm hmm0
  have hzi : (Z : Int) ≠ 0 := by omega
  have hzn : Z ≠ 0 := by omega
  have HB := Lib.hid hB
  clear htw hvs hagb hagm hMmE hM hMm hB
  go_wp2_with fail
  with_reducible refine (Hos.out _).mono ?_
  rintro e w2 ⟨rfl, hb⟩
  replace HB := Lib.hid (bstep HB.out hb (Nat.le_refl _))
  clear hb
  go_wp2_with fail
  with_reducible refine (Hob.out _).mono ?_
  rintro e w3 ⟨rfl, hb⟩
  replace HB := Lib.hid (bstep HB.out hb (Nat.le_refl _))
  clear hb
  go_wp2_with fail
  with_reducible refine (Hag.out _).mono ?_
  rintro e w4 ⟨rfl, hb⟩
  replace HB := Lib.hid (bstep HB.out hb (Nat.le_refl _))
  clear hb Hos Hob Hag
  go_wp2_with fail
  go_loopw [13, 14] (fun a i wr => ∃ r : Nat, r ≤ M + 1 ∧ i = .int .i64 r ∧ a = .int .i64 ((r * m) % Z : Nat) ∧ Hid (Below w4.heap.size w4 wr)) (fun _ i _ => M + 1 - (intOf i).toNat)
  case atStart => exact ⟨0, by omega, rfl, by simp, Lib.hid (Below.refl _ _)⟩
  case round =>
    obtain ⟨r, hr, rfl, rfl, Hb⟩ := hrel
    generalize wr = wx at *
    by_cases hrM : r ≤ M
    · have d0 : decide ((r : Int) ≤ M) = true := by simp; omega
      have d0' : decide (r ≤ M) = true := by simp [hrM]
      obtain ⟨T, hT, hTk, HcT⟩ := Hro.out r (by omega) wx
      have HTk := Lib.hid hTk
      have HcT := Lib.hid HcT
      have Hnz := Lib.hid (Hfirst.out r)
      obtain ⟨at0, hat⟩ : ∃ a : Nat, r * m % Z = a := ⟨_, rfl⟩
      have Hat := Lib.hid hat
      have hatZ : at0 < Z := by rw [← hat]; exact Nat.mod_lt _ (by omega)
      rw [hat]
      clear hTk hat
      go_wp2_with fail
      with_reducible refine HcT.out.mono ?_
      rintro e w5 ⟨rfl, hb⟩
      have Hb5 := Lib.hid (bstep Hb.out hb (Nat.le_refl _))
      obtain ⟨U, hU, hUk, HcU⟩ := Hru.out r (by omega) w5
      have HUk := Lib.hid hUk
      have HcU := Lib.hid HcU
      clear hb hUk
      go_wp2_with fail
      with_reducible refine HcU.out.mono ?_
      rintro e w6 ⟨rfl, hb⟩
      have Hb6 := Lib.hid (bstep Hb5.out hb (Nat.le_refl _))
      clear hb HcT HcU
      go_upto_region 18 with fail
      go_cut [130] (fun sq wc => sq = .bool false ∧ wc = w6)
      case first =>
        by_cases h0 : r = 0
        · subst h0
          go_wp2_with fail
          go_meet
          exact ⟨rfl, rfl⟩
        · have e0 : decide (0 < (r : Int)) = true := by simp; omega
          have e0' : decide (0 < r) = true := by simp; omega
          by_cases h1 : r < M
          · have hne := Hnz.out (by omega) h1
            rw [Hat.out] at hne
            have e1 : decide ((r : Int) < M) = true := by simp; omega
            have e1' : decide (r < M) = true := by simp [h1]
            have e2 : ((at0 : Int) == 0) = false := by simp; omega
            have e2' : (at0 == 0) = false := by simp [hne]
            go_wp2_with fail
            go_meet
            exact ⟨rfl, rfl⟩
          · have e1 : decide ((r : Int) < M) = false := by simp; omega
            have e1' : decide (r < M) = false := by simp [h1]
            go_wp2_with fail
            go_meet
            exact ⟨rfl, rfl⟩
      obtain ⟨rfl, hwc⟩ := hcut
      rw [hwc]
      clear hwc
      go_wp2_with fail
      go_loopw [13, 19] (fun a i wr => ∃ k q : Nat, k ≤ m ∧ i = .int .i64 k ∧ a = .int .i64 ((r * m + k) % Z : Nat) ∧ Hid (wr = w6.drewN q)) (fun _ i _ => m - (intOf i).toNat)
      case atStart => exact ⟨0, 0, by omega, rfl, by rw [Nat.add_zero, Hat.out], Lib.hid rfl⟩
      case round =>
        obtain ⟨k, q, hk, rfl, rfl, Hw⟩ := hrel
        generalize wr = wy at *
        by_cases hkm : k < m
        · have f0 : decide ((k : Int) < m) = true := by simp; omega
          have f0' : decide (k < m) = true := by simp [hkm]
          have htk := HTk.out k hkm
          have huk := HUk.out k hkm
          obtain ⟨j, hj⟩ : ∃ j : Nat, (r * m + k) % Z = j := ⟨_, rfl⟩
          have hjZ : j < Z := by rw [← hj]; exact Nat.mod_lt _ (by omega)
          have Hnx := Lib.hid (show (r * m + (k + 1)) % Z = (j + 1) % Z by rw [← hj, Nat.mod_add_mod, Nat.add_assoc])
          rw [hj] at htk huk
          have hdf := sides_differ Htw.out (j := j) (by rw [Hll.out]; exact hjZ)
          have hkT : k < T.size := by omega
          have hkU : k < U.size := by omega
          have hjS : j < S.size := by omega
          have e1 : (T[k]'hkT).toNat = bat l j := by rw [bat_get hkT]; exact htk
          have e2 : (U[k]'hkU).toNat = bat (swapL l) j := by rw [bat_get hkU]; exact huk
          have e3 : (S[j]'hjS).toNat = bat l j := by rw [bat_get hjS, Hl.out]
          generalize bat (swapL l) j = y at *
          generalize bat l j = x at *
          obtain ⟨j', hj'⟩ : ∃ j', (j + 1) % Z = j' := ⟨_, rfl⟩
          have q1 : ((j : Int) + 1) % (Z : Int) = (j' : Int) := by rw [← hj']; simp
          have q2 : ((j : Int) + 1).tmod (Z : Int) = (j' : Int) := by rw [Int.tmod_eq_emod_of_nonneg (by omega)]; exact q1
          have hki : (k : Int) < m := by omega
          have hji : (j : Int) < Z := by omega
          have n1 : ((x : Int) == (y : Int)) = false := by simp; omega
          have n2 : (x == y) = false := by simp; omega
          rw [hj]
          rw [hj'] at Hnx
          clear htk huk hj hj' hdf
          go_wp2_with fail
          go_quiet (fail)
          go_wp2
          go_roundw
          case rel => exact ⟨k + 1, q + nq, by omega, by go_num, by rw [Hnx.out], Lib.hid (by rw [Hw.out, World.drewN_drewN])⟩
          case measure => simp [intOf]; omega
        · have hkm' : k = m := by omega
          subst hkm'
          have f0 : decide ((k : Int) < k) = false := by simp
          have Hnx := Lib.hid (show r * k + k = (r + 1) * k by rw [Nat.succ_mul])
          go_wp2_with fail
          go_roundw
          case rel => exact ⟨r + 1, by omega, by go_num, by rw [Hnx.out], Lib.hid (by rw [Hw.out]; exact bdrewN Hb6.out q)⟩
          case measure => simp [intOf]; omega
    · have d0 : decide ((r : Int) ≤ M) = false := by simp; omega
      have d0' : decide (r ≤ M) = false := by simp [hrM]
      go_wp2_with fail
      go_ret
      exact ⟨rfl, bstep HB.out Hb.out (Nat.le_refl _)⟩

set_option maxRecDepth 100000 in
theorem lifted (os : Os) (started : os.Started) (H : Type) (enc : TypeId × Value → H) :
    ReturnsInHanded {} Tryz.checked os 3 .any (fun w args => (Rows.fnWeavesSpec.pre enc Tryz.prog Tryz.f3 [] false w args ∧ laidMetH Tryz.prog Rows.fnWeavesRow.laid w) ∧ sizedMet enc Tryz.prog Tryz.f3 (OpenSpec.ofChange Rows.fnWeavesSpec) false w args) (Rows.fnWeavesSpec.post enc Tryz.prog Tryz.f3 false true false false) := by
  refine returnsInHanded_of_change_and (C := Tryz.checked) (X := fun w _ => laidMetH Tryz.prog Rows.fnWeavesRow.laid w) (fun _ _ _ hh h => h.of_heap hh) own started (by kernel_rfl) Tryz.func3
    (ChangeSpec.witness_shaped (enc := enc) (C := Tryz.checked) (os := os) (X := fun w _ => laidMetH Tryz.prog Rows.fnWeavesRow.laid w) false (World.laidAll Tryz.prog os Rows.fnWeavesRow.laid) #[.slice none 0 0, .slice none 0 0] 8 (World.laidAll_os _ _ _)
      (World.shaped_of_ZipB (by kernel_rfl) (by kernel_rfl)) (by kernel_rfl) (by kernel_rfl) (by kernel_rfl)
      (by rw [MakeChecks.laidMetH_plain _ _ _ (by kernel_rfl)]; exact laidMet_laidAll _ (by kernel_rfl) (by kernel_rfl))) ?_
  intro W base args ds gs before hval0 hW _ _ hL _
  have hval : ∀ (j : Nat) t v, Tryz.f3.params[j]? = some t → args[j]? = some v → Value.okWide Tryz.prog W .any base t v := hval0
  have hW' := hW
  obtain ⟨p, q, hA0, hV, rfl, hfz, hnd⟩ := hW
  have hA : DataW.TrodAll enc Tryz.prog W 0 (fun _ => true) true Tryz.f3.params.toList args.toList ds p := hA0
  rw [Tryz.params3] at hA hval
  obtain ⟨v0, vs0, d0, ds0, pP0, qQ0, hargs, rfl, rfl, k0, e0⟩ := trodAll_cons hA
  obtain ⟨v1, vs1, d1, ds1, pP1, qQ1, rfl, rfl, rfl, k1, e1⟩ := trodAll_cons e0
  obtain ⟨rfl, rfl, rfl⟩ := trodAll_nil e1
  obtain rfl : args = #[v0, v1] := by cases args; simp_all
  obtain ⟨rfl, rfl⟩ := trodVars_none hV
  have l0 := arg_lt k0
  have l1 := arg_lt k1
  obtain ⟨p0, n0, c0, x0, rfl, r0, b0⟩ := arg_bytes (hval 0 _ v0 rfl rfl) k0
  obtain ⟨p1, n1, c1, x1, rfl, r1, b1⟩ := arg_bytes (hval 1 _ v1 rfl rfl) k1
  clear hA0 hval0
  refine (walk W p0 n0 c0 x0 r0 b0 p1 n1 c1 x1 r1 b1).mono fun e W' ⟨he, bel⟩ => ?_
  subst he
  exact ⟨_, rfl, _, _, _, [], _, [], hW', trodAll_mk1 (shut_bool Tryz.underlying4 _), (trodAll_cons_mk (Below.trod laidOut (by kernel_rfl) (of_decide_eq_true (by kernel_rfl)) k0 bel l0) (trodAll_cons_mk (Below.trod laidOut (by kernel_rfl) (of_decide_eq_true (by kernel_rfl)) k1 bel l1) trodAll_mk0)), rfl, bel.frame _, fun h => by cases h⟩

theorem over : Rows.fnWeavesRow.holds Tryz.pinned (OpenSpec.ofChange Rows.fnWeavesSpec) :=
  OpenClaim.holds_of_wide 3 Tryz.f3 rfl rfl rfl rfl rfl rfl rfl ⟨rfl, rfl, rfl, rfl, rfl⟩ rfl rfl rfl rfl rfl (by kernel_rfl) Tryz.func3 (by kernel_rfl)
    (of_decide_eq_true (by kernel_rfl)) (by unfold Func.isWrapper; first | (rw [if_pos (by decide +kernel)]; kernel_rfl) | (rw [if_neg (by decide +kernel)]; exact ⟨rfl, rfl⟩))
    (fun os started H enc _ => lifted os started H enc)

set_option maxRecDepth 100000 in
/-- the statement -/
theorem proved : Rows.FnWeavesCardSaid :=
  Claim7.holds_tied_plain_at .later [] [.data, .pinned] true (true, "2e97218cb544d1de9a70e2c690438e5064559b812a3eb4811fcab41692c7dc15") true over (fun _ h => by cases h) (by kernel_rfl) (fun _ h => by cases h) fnWeaves_row_tie rfl ⟨rfl, rfl⟩ (by kernel_rfl) rfl
    (fun f fn hf hfn => by
      obtain rfl : f = 3 := Option.some.inj ((show Tryz.prog.funcNamed Rows.fnWeavesRow.func = some 3 by kernel_rfl).symm.trans hf) |>.symm
      obtain rfl : fn = Tryz.f3 := (Option.some.inj (Tryz.func3.symm.trans hfn)).symm
      exact ⟨by kernel_rfl, fun j t ht => by
        rw [Tryz.params3] at ht
        have hm : t ∈ [22, 22] := by simpa using Array.mem_of_getElem? ht
        have hall : ([22, 22].all fun u => !Tryz.prog.wantsStandIn u) = true := by kernel_rfl
        exact (show Tryz.prog.wantsStandIn t = false by simpa using List.all_eq_true.1 hall t hm)⟩)
    (by kernel_rfl)
#print axioms proved
end Go.Proofs.YtngllaaminognaaGreatDoor.fnWeaves
