/-
  Proved here: the law FnLaidRounds answers true at every input, and leaves its arguments as they were. No condition.
-/
import Derived.Test.YtfpcbccmpdkkpaaFrame
import Derived.Test.YtfpcbccmpdkkpaaLaidDraw
import Derived.Test.YtfpcbccmpdkkpaaLaid2
import Derived.Test.YtfpcbccmpdkkpaaLaid4
namespace Go.Proofs.Ytfpcbccmpdkkpaa.fnLaidRounds
open Go.ChangeShapes Go.WideShapes Go.ChangeAt Go.RowKit
set_option linter.unusedVariables false

set_option maxHeartbeats 1000000 in
theorem walk (w : World) (p0 : Option Addr) (n0 c0 : Nat) (x0 : List Int) (r0 : RV w p0 n0 c0 (x0.map (.int .u8))) (b0 : ∀ x ∈ x0, 0 ≤ x ∧ x ≤ 255) (p1 : Option Addr) (n1 c1 : Nat) (x1 : List Int) (r1 : RV w p1 n1 c1 (x1.map (.int .u8))) (b1 : ∀ x ∈ x1, 0 ≤ x ∧ x ≤ 255) :
    Calls Try.prog 10 #[.slice p0 n0 c0, .slice p1 n1 c1] w fun e w' => e = .returned (.bool true) ∧ Below w.heap.size w w' := by
  by_cases hlong : ¬ (n0 ≤ 3000 ∧ n1 ≤ 3000)
  · go_enter Try.func10, Try.ntmps10
    go_wp2_with (go_at_call 31; refine (a2Long_yes _ _ _ _ _ _ _ hlong).mono ?_; rintro e w' ⟨rfl, rfl⟩)
    go_ret
    exact ⟨rfl, Below.refl _ _⟩
  obtain ⟨hl0, hl1⟩ := Decidable.not_not.1 hlong
  clear hlong
  have hB : Below w.heap.size w w := Below.refl _ _
  go_enter Try.func10, Try.ntmps10
  go_wp2_with fail
  refine (a2Long_no _ _ _ _ _ _ _ hl0 hl1).mono ?_
  rintro e wq ⟨rfl, rfl⟩
  go_wp2_with fail
  refine (A2Laid_any _ _ _ _ _ r0 b0).mono ?_
  rintro e w1 ⟨v, l, rfl, hok, ho, hb⟩
  obtain ⟨a1, c1', rfl, hr1⟩ := ho.sliceI
  have h7 := (okRods_iff.1 hok).2
  have Hok := Lib.hid hok
  have Hbd := Lib.hid (fun k (hk : k ≤ l.length) => psum_bd hok k hk)
  have Hel := Lib.hid (fun k (hk : k < l.length) => okRods_at hok (k := k) hk)
  have hpl : ∀ s : Int, ((places l).map (· % (3 + s))).length = l.length - 1 := fun s => by rw [List.length_map, places_len]
  have Hpl := Lib.hid hpl
  have Hr := Lib.hid hr1
  clear ho hr1 hok hpl
  replace hB := bstep hB hb (Nat.le_refl _)
  clear hb
  generalize hN : l.length = N at *
  have HN := Lib.hid hN
  clear hN
  have Hr1 := Lib.hid (RV.below r1 hB)
  go_wp2_with fail
  refine (a2At_any _ _ _ _ _ _ _ (by omega) (by omega) Hr1.out b1).mono ?_
  rintro e wq ⟨⟨s, rfl, hs0, hs1⟩, rfl⟩
  go_wp2_with fail
  refine (a2At_any _ _ _ _ _ _ _ (by omega) (by omega) Hr1.out b1).mono ?_
  rintro e wq ⟨⟨be, rfl, hb0, hb1⟩, rfl⟩
  have hst : 3 ≤ 3 + s ∧ 3 + s ≤ 60 := by omega
  have Hvl := Lib.hid (show vLaid (3 + s) l = true by simp [vLaid, areSt, inB_iff.2 hst, Hok.out])
  have Hjn := Lib.hid (by
    have h := joinsOf_any (3 + s) a1 N c1' l w1 Hr.out
    rw [show joinsR (3 + s) l = ((places l).map (· % (3 + s)), 0) by simp [joinsR, Hvl.out]] at h
    exact h)
  go_wp2_with fail
  refine Hjn.out.mono ?_
  rintro e w2 ⟨v2, rfl, ho2, hb⟩
  obtain ⟨a2, c2', rfl, hr2⟩ := ho2.sliceI
  clear ho2 Hjn
  rw [Hpl.out s] at hr2 ⊢
  obtain ⟨J, HJ⟩ : ∃ J, Hid (J = N - 1) := ⟨_, rfl⟩
  rw [← HJ.out] at hr2 ⊢
  have hJ7 : J ≤ 7 := by have := HJ.out; omega
  have Hr2 := Lib.hid hr2
  clear hr2
  have hsz2 := hb.size
  replace hB := bstep hB hb (Nat.le_refl _)
  have Hrb := Lib.hid (Hr.out.below hb)
  clear hb
  obtain ⟨S, HS⟩ : ∃ S, Hid (S = psum l N) := ⟨_, rfl⟩
  obtain ⟨q, Hq⟩ : ∃ q, Hid (q = S / (3 + s)) := ⟨_, rfl⟩
  obtain ⟨r, Hr'⟩ : ∃ r, Hid (r = S % (3 + s)) := ⟨_, rfl⟩
  have Hrl := Lib.hid (by
    have h := roundsLaid_any (3 + s) a1 N c1' l w2 Hrb.out
    rw [show roundsR (3 + s) l = (q, r, 0) by rw [Hq.out, Hr'.out, HS.out]; simp [roundsR, Hvl.out, HN.out]] at h
    exact h)
  have hSb : 0 ≤ S ∧ S ≤ 1400 := by have := Hbd.out N (by omega); rw [← HS.out] at this; omega
  have hq0 : 0 ≤ q := by rw [Hq.out]; exact Int.ediv_nonneg (by omega) (by omega)
  have hqS : q ≤ S := by rw [Hq.out]; exact Int.ediv_le_self _ (by omega)
  have hr0 : 0 ≤ r := by rw [Hr'.out]; exact Int.emod_nonneg _ (by omega)
  have hr1 : r < 3 + s := by rw [Hr'.out]; exact Int.emod_lt_of_pos _ (by omega)
  obtain ⟨T, HT⟩ : ∃ T, Hid (q * (3 + s) = T ∧ T + r = S) := ⟨_, rfl, by rw [Hq.out, Hr'.out, Int.mul_comm]; exact Int.mul_ediv_add_emod S (3 + s)⟩
  have hT : 0 ≤ T ∧ T ≤ 1400 := by
    have h1 : 0 ≤ q * (3 + s) := Int.mul_nonneg hq0 (by omega)
    have := HT.out.1; have := HT.out.2; omega
  have hwT : IntKind.i64.wrap (q * (3 + s)) = T := by rw [HT.out.1]; exact IntWalk.i64_in T (by omega)
  have hwS : IntKind.i64.wrap (T + r) = S := by rw [HT.out.2]; exact IntWalk.i64_in S (by omega)
  have hd1 : decide (q < 0) = false := by simp; omega
  have hd2 : decide (r < 0) = false := by simp; omega
  have hd3 : decide (3 + s ≤ r) = false := by simp; omega
  have hd4 : ((J : Int) != max 0 ((N : Int) - 1)) = false := by have := HJ.out; simp; omega
  have hd5 : ((J : Int) == max 0 ((N : Int) - 1)) = true := by have := HJ.out; simp; omega
  go_wp2_with fail
  refine Hrl.out.mono ?_
  rintro e w3 ⟨rfl, m3, rfl⟩
  clear Hrl
  have hBk := Lib.hid hB
  replace hB := bdrewN hB m3
  have Hsum := Lib.hid (by
    have h := a2Sum_any a1 N c1' l (w2.drewN m3) Hok.out (Hrb.out.drewN m3)
    rw [← HS.out] at h
    exact h)
  go_wp2_with (go_at_call 34; refine Hsum.out.mono ?_; rintro e w' ⟨rfl, rfl⟩)
  clear hwT hwS hd1 hd2 hd3 hd4 hd5 Hsum HT hT hqS hq0 Hq Hr' hr0 hr1
  go_loopw [13, 14] (fun t i wr => ∃ k : Nat, k ≤ J ∧ i = .int .i64 k ∧ t = .int .i64 (psum l k) ∧ ∃ m, Hid (wr = w2.drewN m)) (fun _ i _ => J - (intOf i).toNat)
  case atStart => exact ⟨0, Nat.zero_le _, rfl, rfl, m3, Lib.hid rfl⟩
  case round =>
    obtain ⟨k, hk, rfl, rfl, m, Hw⟩ := hrel
    by_cases hlt : k < J
    · have hkN : k < N := by have := HJ.out; omega
      have Ha' : RV wr a1 N c1' (ints l) := by rw [Hw.out]; exact Hrb.out.drewN m
      have Hb' : RV wr a2 J c2' (ints ((places l).map (· % (3 + s)))) := by rw [Hw.out]; exact Hr2.out.drewN m
      obtain ⟨b, o, rfl, hbl, hc⟩ := Ha'.cell (by omega)
      obtain ⟨b', o', rfl, hbl', hc'⟩ := Hb'.cell (by omega)
      clear Ha' Hb'
      have e1 := hc k hkN
      have e2 := hc' k hlt
      have bk := Hbd.out k (by omega)
      have bk1 := Hbd.out (k + 1) (by omega)
      have Hps := Lib.hid (show psum l (k + 1) = psum l k + l.getD k 0 from rfl)
      have hpk : ((places l).map (· % (3 + s))).getD k 0 = psum l (k + 1) % (3 + s) := by
        have h1 : k < (places l).length := by rw [places_len, HN.out]; have := HJ.out; omega
        have h2 : (places l).getD k 0 = psum l (k + 1) := by
          unfold places; rw [placesTo_get]; rw [HN.out]; have := HJ.out; omega
        rw [← h2]
        simp [h1]
      rw [hpk, Hps.out] at e2
      rw [Hps.out] at bk1
      clear hc hc' hpk
      generalize psum l k = P at *
      generalize l.getD k 0 = u at *
      have q2 : (P + u).tmod (3 + s) = (P + u) % (3 + s) := Int.tmod_eq_emod_of_nonneg (by omega)
      have q4 := Int.emod_nonneg (P + u) (show 3 + s ≠ 0 by omega)
      have q5 := Int.emod_lt_of_pos (P + u) (show 0 < 3 + s by omega)
      have hz : 3 + s ≠ 0 := by omega
      have q7 := IntWalk.i64_in ((P + u) % (3 + s)) (by omega)
      have q8 := IntWalk.i64_in (P + u) (by omega)
      have hlt2 : (k : Int) < N := by omega
      have hlt3 : (k : Int) < J := by omega
      go_wp2
      go_quiet (fail)
      go_wp2
      go_roundw
      case rel => exact ⟨k + 1, by omega, by go_num, by rw [Hps.out], m + nq, Lib.hid (by rw [Hw.out, World.drewN_drewN])⟩
      case measure => simp [intOf]; omega
    · have hkJ : k = J := by omega
      have hBw : Below w.heap.size w wr := by rw [Hw.out]; exact bdrewN hBk.out m
      have HrW := Lib.hid (show RV wr a1 N c1' (ints l) by rw [Hw.out]; exact Hrb.out.drewN m)
      have hl3 : vLaid 3 l = true := by simp [vLaid, Hok.out, show areSt 3 = true from rfl]
      have hbe : inB be 0 5 = true := inB_iff.2 ⟨by omega, by omega⟩
      obtain ⟨M, HM⟩ : ∃ M : Nat, Hid (M = (3 + s - 2).toNat) := ⟨_, rfl⟩
      have hM : (M : Int) = s + 1 := by have := HM.out; omega
      have Hm1 := Lib.hid hM
      have Hsk := Lib.hid (by
        have h := stakesForRods_any be (3 + s) a1 N c1' l wr HrW.out
        rw [show stakesR l be (3 + s) = (goodTo l be M, 0) by rw [HM.out]; simp [stakesR, laidC, hl3, hbe, areSt, inB_iff.2 hst]] at h
        exact h)
      have Hbe := Lib.hid hbe
      clear hl3 hbe hkJ hM
      obtain ⟨W3, rfl⟩ : ∃ W3, W3 = wr := ⟨wr, rfl⟩
      go_wp2_with fail
      refine Hsk.out.mono ?_
      rintro e w5 ⟨v5, rfl, ho5, hb⟩
      obtain ⟨a5, c5, rfl, hr5⟩ := ho5.sliceI
      have hLm : ∀ x ∈ goodTo l be M, 3 ≤ x ∧ x ≤ 3 + s := by
        intro x hx
        obtain ⟨j, hj, _, rfl⟩ := goodTo_mem.1 hx
        have := Hm1.out; omega
      have Hris := Lib.hid (fun (m : Int) (hm : m = 3 + s + 1) => a2Rises_yes a5 _ c5 (goodTo l be M) m w5 hr5 (fun k hk => by
        have := hLm ((goodTo l be M).getD k 0) (by simp [hk]); omega) (fun k hk => pairwise_at (goodTo_sorted l be M) hk))
      have Hr5 := Lib.hid hr5
      have Hr6 := Lib.hid (HrW.out.below hb)
      replace hBw := bstep hBw hb (Nat.le_refl _)
      clear ho5 hb hr5 hLm Hsk
      generalize hL : (goodTo l be M).length = L at *
      clear hL
      go_wp2_with fail
      refine (Hris.out _ (by omega)).mono ?_
      rintro e w6 ⟨rfl, m6, rfl⟩
      go_wp2
      obtain ⟨W6, HW6⟩ : ∃ W6, Hid (W6 = w5.drewN m6) := ⟨_, rfl⟩
      go_loopw [17] (fun i wr => ∃ n : Nat, (n : Int) ≤ s + 4 ∧ i = .int .i64 n ∧ Hid (Below w5.heap.size w5 wr)) (fun i _ => (s + 4 - intOf i).toNat)
      case atStart => exact ⟨0, by omega, rfl, Lib.hid (bdrewN (Below.refl _ _) _)⟩
      case round =>
        obtain ⟨n, hn, rfl, Hbl⟩ := hrel
        have hszw := Hbl.out.size
        by_cases hlt : (n : Int) ≤ 3 + s
        · have hd : decide ((n : Int) ≤ 3 + s) = true := by simp [hlt]
          obtain ⟨z, hz0⟩ : ∃ z : Int, z = max 3 (n : Int) := ⟨_, rfl⟩
          have hzb : 3 ≤ z ∧ z ≤ 60 := by omega
          have hvz : vLaid z l = true := by simp [vLaid, areSt, inB_iff.2 hzb, Hok.out]
          obtain ⟨m, Hm⟩ : ∃ m : Nat, Hid (m = (allAbv z l be).length) := ⟨_, rfl⟩
          have Hca := Lib.hid (by
            have h := specCountAbove_any z be a1 N c1' l wr (Hr6.out.below Hbl.out)
            rw [show countR z l be = ((m : Int), 0) by rw [Hm.out]; simp [countR, laidC, hvz, Hbe.out]] at h
            exact h)
          have Hz0 := Lib.hid hz0
          have Hmem := Lib.hid (show ((n : Int) ∈ goodTo l be M) ↔ 3 ≤ n ∧ m = 0 by
            constructor
            · intro h
              obtain ⟨j, hj, hr, hv⟩ := goodTo_mem.1 h
              have h3 : 3 ≤ n := by omega
              refine ⟨h3, ?_⟩
              rw [Hm.out, allAbv, show z = 3 + (j : Int) by rw [Hz0.out]; omega]
              exact of_decide_eq_true hr
            · rintro ⟨h3, h0⟩
              refine goodTo_mem.2 ⟨n - 3, by have := Hm1.out; omega, ?_, by omega⟩
              unfold rodSt
              rw [show (3 + ((n - 3 : Nat) : Int)) = z by rw [Hz0.out]; omega]
              have := Hm.out
              rw [h0] at this
              exact decide_eq_true this.symm)
          clear hvz hz0
          go_wp2_with fail
          rw [← Hz0.out]
          refine Hca.out.mono ?_
          rintro e w8 ⟨rfl, hb8⟩
          have Hb8 := Lib.hid (bstep Hbl.out hb8 (Nat.le_refl _))
          clear hb8 Hca
          have Hr8 := Lib.hid (Hr5.out.below Hb8.out)
          by_cases hn3 : 3 ≤ n
          · have d1 : decide (3 ≤ (n : Int)) = true := by simp; omega
            have d1' : decide (3 ≤ n) = true := by simp; omega
            by_cases hm0 : m = 0
            · have Hh := Lib.hid (by
                have h := a2Has_any a5 L c5 (goodTo l be M) n w8 Hr8.out
                rw [show decide ((n : Int) ∈ goodTo l be M) = true by simp [Hmem.out, hn3, hm0]] at h
                exact h)
              subst hm0
              go_wp2_with (go_at_call 36; refine Hh.out.mono ?_; rintro e w' ⟨rfl, rfl⟩)
              go_roundw
              case rel => exact ⟨n + 1, by omega, by go_num, Hb8⟩
              case measure => simp [intOf]; omega
            · have Hh := Lib.hid (by
                have h := a2Has_any a5 L c5 (goodTo l be M) n w8 Hr8.out
                rw [show decide ((n : Int) ∈ goodTo l be M) = false by simp [Hmem.out, hm0]] at h
                exact h)
              have d2 : ((m : Int) == 0) = false := by simp [hm0]
              have d2' : (m == 0) = false := by simp [hm0]
              go_wp2_with (go_at_call 36; refine Hh.out.mono ?_; rintro e w' ⟨rfl, rfl⟩)
              go_roundw
              case rel => exact ⟨n + 1, by omega, by go_num, Hb8⟩
              case measure => simp [intOf]; omega
          · have d1 : decide (3 ≤ (n : Int)) = false := by simp; omega
            have d1' : decide (3 ≤ n) = false := by simp; omega
            have Hh := Lib.hid (by
              have h := a2Has_any a5 L c5 (goodTo l be M) n w8 Hr8.out
              rw [show decide ((n : Int) ∈ goodTo l be M) = false by simp [Hmem.out, hn3]] at h
              exact h)
            go_wp2_with (go_at_call 36; refine Hh.out.mono ?_; rintro e w' ⟨rfl, rfl⟩)
            go_roundw
            case rel => exact ⟨n + 1, by omega, by go_num, Hb8⟩
            case measure => simp [intOf]; omega
        · have hd : decide ((n : Int) ≤ 3 + s) = false := by simp; omega
          go_wp2
          go_ret
          exact ⟨rfl, bstep hBw Hbl.out (Nat.le_refl _)⟩

set_option maxRecDepth 100000 in
theorem lifted (os : Os) (started : os.Started) (H : Type) (enc : TypeId × Value → H) :
    ReturnsInHanded {} Try.checked os 10 .any (Rows.fnLaidRoundsSpec.pre6 enc Try.prog Try.f10 Rows.fnLaidRoundsRow.domain false) (Rows.fnLaidRoundsSpec.post enc Try.prog Try.f10 false true false false) := by
  refine returnsInHanded_of_change (C := Try.checked) own started (by kernel_rfl) Try.func10
    (ChangeSpec.witness6 (enc := enc) (C := Try.checked) false ⟨#[], #[.slice none 0 0, .slice none 0 0], []⟩ 8 (by kernel_rfl) (by kernel_rfl) (by kernel_rfl) (by kernel_rfl)) ?_
  intro W base args ds gs before hval0 hW hcnd _
  have hval : ∀ (j : Nat) t v, Try.f10.params[j]? = some t → args[j]? = some v → Value.okWide Try.prog W .any base t v := hval0
  have hW' := hW
  obtain ⟨p, q, hA0, hV, rfl, hfz, hnd⟩ := hW
  have hA : DataW.TrodAll enc Try.prog W 0 (fun _ => true) true Try.f10.params.toList args.toList ds p := hA0
  rw [Try.params10] at hA hval
  obtain ⟨v0, vs0, d0, ds0, pP0, qQ0, hargs, rfl, rfl, k0, e0⟩ := trodAll_cons hA
  obtain ⟨v1, vs1, d1, ds1, pP1, qQ1, rfl, rfl, rfl, k1, e1⟩ := trodAll_cons e0
  obtain ⟨rfl, rfl, rfl⟩ := trodAll_nil e1
  obtain rfl : args = #[v0, v1] := by cases args; simp_all
  obtain ⟨rfl, rfl⟩ := trodVars_none hV
  have l0 := arg_lt k0
  have l1 := arg_lt k1
  obtain ⟨p0, n0, c0, x0, rfl, r0, b0⟩ := arg_bytes (hval 0 _ v0 rfl rfl) k0
  obtain ⟨p1, n1, c1, x1, rfl, r1, b1⟩ := arg_bytes (hval 1 _ v1 rfl rfl) k1
  clear hA0 hval0
  refine (walk W p0 n0 c0 x0 r0 b0 p1 n1 c1 x1 r1 b1).mono fun e W' ⟨he, bel⟩ => ?_
  subst he
  exact ⟨_, rfl, _, _, _, [], _, [], hW', trodAll_mk1 (shut_bool Try.underlying4 _), (trodAll_cons_mk (Below.trod laidOut (by kernel_rfl) (of_decide_eq_true (by kernel_rfl)) k0 bel l0) (trodAll_cons_mk (Below.trod laidOut (by kernel_rfl) (of_decide_eq_true (by kernel_rfl)) k1 bel l1) trodAll_mk0)), rfl, bel.frame _, fun h => by cases h⟩

theorem over : Rows.fnLaidRoundsRow.holds Try.pinned (OpenSpec.ofChange Rows.fnLaidRoundsSpec) :=
  OpenClaim.holds_of_wide 10 Try.f10 rfl rfl rfl rfl rfl rfl rfl ⟨rfl, rfl, rfl, rfl, rfl⟩ rfl rfl rfl rfl rfl (by kernel_rfl) Try.func10 (by kernel_rfl)
    (of_decide_eq_true (by kernel_rfl)) (by unfold Func.isWrapper; first | (rw [if_pos (by decide +kernel)]; kernel_rfl) | (rw [if_neg (by decide +kernel)]; exact ⟨rfl, rfl⟩))
    (fun os started H enc _ => lifted os started H enc)

/-- the statement -/
theorem proved : Rows.FnLaidRoundsSaid := over
#print axioms proved
end Go.Proofs.Ytfpcbccmpdkkpaa.fnLaidRounds
