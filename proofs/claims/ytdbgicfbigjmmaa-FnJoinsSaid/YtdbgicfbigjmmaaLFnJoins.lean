/-
  Proved here: the law FnJoins answers true at every input, and leaves its arguments as they were. No condition.
-/
import Derived.Test.YtdbgicfbigjmmaaFrame
import Derived.Test.YtdbgicfbigjmmaaLaidF
import Derived.Test.YtdbgicfbigjmmaaLaidJ
import Derived.Test.YtdbgicfbigjmmaaLaidDraw
namespace Go.Proofs.Ytdbgicfbigjmmaa.fnJoins
open Go.ChangeShapes Go.WideShapes Go.ChangeAt Go.RowKit
set_option linter.unusedVariables false

set_option maxHeartbeats 2000000 in
set_option maxRecDepth 100000 in
theorem walk (w : World) (p0 : Option Addr) (n0 c0 : Nat) (x0 : List Int) (r0 : RV w p0 n0 c0 (x0.map (.int .u8))) (b0 : ∀ x ∈ x0, 0 ≤ x ∧ x ≤ 255) (p1 : Option Addr) (n1 c1 : Nat) (x1 : List Int) (r1 : RV w p1 n1 c1 (x1.map (.int .u8))) (b1 : ∀ x ∈ x1, 0 ≤ x ∧ x ≤ 255) :
    Calls Try.prog 5 #[.slice p0 n0 c0, .slice p1 n1 c1] w fun e w' => e = .returned (.bool true) ∧ Below w.heap.size w w' := by
  by_cases hlong : ¬ (n0 ≤ 3000 ∧ n1 ≤ 3000)
  · go_enter Try.func5, Try.ntmps5
    go_wp2_with (go_at_call 14; refine (a2Long_yes _ _ _ _ _ _ _ hlong).mono ?_; rintro e w' ⟨rfl, rfl⟩)
    go_ret
    exact ⟨rfl, Below.refl _ _⟩
  obtain ⟨hl0, hl1⟩ := Decidable.not_not.1 hlong
  clear hlong
  have hB : Below w.heap.size w w := Below.refl _ _
  go_enter Try.func5, Try.ntmps5
  go_wp2_with fail
  refine (a2Long_no _ _ _ _ _ _ _ hl0 hl1).mono ?_
  rintro e wq ⟨rfl, rfl⟩
  go_wp2_with fail
  refine (A2Laid_any _ _ _ _ _ r0 b0).mono ?_
  rintro e w1 ⟨v, l, rfl, hok, ho, hb⟩
  obtain ⟨a1, c1', rfl, hr1⟩ := ho.sliceI
  have h7 := (okRods_iff.1 hok).2
  have Hok := Lib.hid hok
  have Hbd := Lib.hid (fun k (hk : k ≤ l.length) => psum_bd hok k hk)
  have Hel := Lib.hid (fun k (hk : k < l.length) => okRods_at hok (k := k) hk)
  have Hr := Lib.hid hr1
  clear ho hr1 hok
  replace hB := bstep hB hb (Nat.le_refl _)
  clear hb
  generalize hN : l.length = N at *
  have HN := Lib.hid hN
  clear hN
  have Hr1 := Lib.hid (RV.below r1 hB)
  go_wp2_with fail
  refine (a2At_any _ _ _ _ _ _ _ (by omega) (by omega) Hr1.out b1).mono ?_
  rintro e wq ⟨⟨s, rfl, hs0, hs1⟩, rfl⟩
  go_wp2_with fail
  refine (a2At_any _ _ _ _ _ _ _ (by omega) (by omega) Hr1.out b1).mono ?_
  rintro e wq ⟨⟨be, rfl, hb0, hb1⟩, rfl⟩
  have hst : 3 ≤ 3 + s ∧ 3 + s ≤ 60 := by omega
  have hvl : vLaid (3 + s) l = true := by simp [vLaid, areSt, inB_iff.2 hst, Hok.out]
  have hlc : laidC (3 + s) l be = 0 := by simp [laidC, hvl, inB_iff.2 (⟨hb0, by omega⟩ : 0 ≤ be ∧ be ≤ 5)]
  have Hok2 := Lib.hid (fun (o : List Nat) (ho : Ord N o) => laidIn_ok Hok.out (o := o) (by rw [ho.len]; omega) (fun x hx => by rw [HN.out]; exact ho.lt x hx))
  have Hcnt := Lib.hid (fun (o : List Nat) (ho : Ord N o) => show countR (3 + s) (laidIn l o) be = ((meas (3 + s) l be o : Int), (0 : Int)) by
    have h2 := Hok2.out o ho
    have hv2 : vLaid (3 + s) (laidIn l o) = true := by simp [vLaid, areSt, inB_iff.2 hst, h2]
    have hc2 : laidC (3 + s) (laidIn l o) be = 0 := by simp [laidC, hv2, inB_iff.2 (⟨hb0, by omega⟩ : 0 ≤ be ∧ be ≤ 5)]
    simp [countR, hc2, meas])
  have Hmin := Lib.hid (fun (o : List Nat) (ho : Ord N o) => srchAll_min (3 + s) l be o (by rw [ho.len, HN.out]) ho.nd (fun x hx => by rw [HN.out]; exact ho.lt x hx))
  obtain ⟨hM0, hlen, hnd, hltB, hMB⟩ := srchAll_ok (3 + s) l be
  rw [HN.out] at hlen hltB
  have HordB := Lib.hid (show Ord N (srchAll (3 + s) l be).1 from ⟨hlen, hnd, hltB⟩)
  have HMB := Lib.hid hMB
  have Hfew := Lib.hid (fun W h => show Calls Try.prog 8 #[.int .i64 (3 + s), .slice a1 N c1', .int .i64 be] W fun e w' => e = rt2 ((srchAll (3 + s) l be).2, (0 : Int)) ∧ Below W.heap.size W w' by
    have h := fewest_any (3 + s) be a1 N c1' l W h
    rw [show fewR (3 + s) l be = ((srchAll (3 + s) l be).2, 0) by simp [fewR, hlc]] at h
    exact h)
  have Hord := Lib.hid (order_any (3 + s) be a1 N c1' l w1 Hr.out)
  have Hcl := Lib.hid (fun W h => show Calls Try.prog 18 #[.int .i64 (3 + s), .slice a1 N c1', .int .i64 be] W fun e w' => e = rt2 (((allAbv (3 + s) l be).length : Int), (0 : Int)) ∧ Below W.heap.size W w' by
    have h := countAbove_any (3 + s) be a1 N c1' l W h
    rw [show countR (3 + s) l be = (((allAbv (3 + s) l be).length : Int), (0 : Int)) by simp [countR, hlc]] at h
    exact h)
  have Hfl := Lib.hid (fun W h => show Calls Try.prog 22 #[.int .i64 (3 + s), .slice a1 N c1', .int .i64 be] W fun e w' => e = rt2 (firstL (allAbv (3 + s) l be)) ∧ Below W.heap.size W w' by
    have h := firstAbove_any (3 + s) be a1 N c1' l W h
    rw [show firstR (3 + s) l be = firstL (allAbv (3 + s) l be) by simp [firstR, hlc]] at h
    exact h)
  have Hlc := Lib.hid hlc
  clear hlc hvl hlen hnd hltB hMB
  obtain ⟨M, HM⟩ : ∃ M, Hid (M = (srchAll (3 + s) l be).2) := ⟨_, rfl⟩
  obtain ⟨bst, Hbst⟩ : ∃ bst, Hid (bst = (srchAll (3 + s) l be).1) := ⟨_, rfl⟩
  rw [← HM.out] at hM0 HMB Hfew Hmin
  rw [← Hbst.out] at HordB HMB
  have hMle : M ≤ 7 := by rw [HMB.out]; have := meas_le (st := 3 + s) (be := be) (l := l) (o := bst) (by rw [HordB.out.len]; omega); omega
  by_cases h0 : M = 0
  · have hor : orderR (3 + s) l be = (nats bst, 0) := by
      unfold orderR
      rw [if_pos Hlc.out, ← HM.out, ← Hbst.out]
      rw [if_pos h0]
    rw [hor] at Hord
    clear hor
    go_wp2_with fail
    refine (Hord.out).mono ?_
    rintro e w2 ⟨v2, rfl, ho2, hb⟩
    obtain ⟨a2, c2', rfl, hr2⟩ := ho2.sliceI
    rw [show (nats bst).length = N by simp [nats, HordB.out.len]] at hr2 ⊢
    have Hr2 := Lib.hid hr2
    replace hB := bstep hB hb (Nat.le_refl _)
    replace Hr := Lib.hid (Hr.out.below hb)
    replace Hr1 := Lib.hid (Hr1.out.below hb)
    clear ho2 hr2 hb Hord
    go_wp2_with fail
    refine (Hfew.out _ Hr.out).mono ?_
    rintro e w3 ⟨rfl, hb⟩
    replace hB := bstep hB hb (Nat.le_refl _)
    replace Hr := Lib.hid (Hr.out.below hb)
    replace Hr1 := Lib.hid (Hr1.out.below hb)
    replace Hr2 := Lib.hid (Hr2.out.below hb)
    clear hb
    go_wp2_with fail
    refine (A2Order_any _ _ _ _ N _ (by omega) Hr1.out b1).mono ?_
    rintro e w4 ⟨v4, o4, rfl, hord4, ho4, hb⟩
    obtain ⟨a4, c4, rfl, hr4⟩ := ho4.sliceI
    rw [show (nats o4).length = N by simp [nats, hord4.len]] at hr4 ⊢
    have Hr4 := Lib.hid hr4
    have Ho4 := Lib.hid hord4
    replace hB := bstep hB hb (Nat.le_refl _)
    replace Hr := Lib.hid (Hr.out.below hb)
    replace Hr2 := Lib.hid (Hr2.out.below hb)
    clear ho4 hr4 hb hord4
    go_wp2_with fail
    refine (a2Pick_any _ _ _ _ _ _ l o4 _ (by omega) Ho4.out.lt Hr.out Hr4.out).mono ?_
    rintro e w5 ⟨v5, rfl, ho5, hb⟩
    obtain ⟨a5, c5, rfl, hr5⟩ := ho5.sliceI
    rw [show (laidIn l o4).length = N by simp [laidIn, Ho4.out.len]] at hr5 ⊢
    replace hB := bstep hB hb (Nat.le_refl _)
    replace Hr := Lib.hid (Hr.out.below hb)
    replace Hr2 := Lib.hid (Hr2.out.below hb)
    have Hc5 := Lib.hid (by
      have h := countAbove_any (3 + s) be a5 N c5 (laidIn l o4) w5 hr5
      rw [Hcnt.out o4 Ho4.out] at h
      exact h)
    have hmin4 := Hmin.out o4 Ho4.out
    have hm4 : meas (3 + s) l be o4 ≤ 7 := meas_le (by rw [Ho4.out.len]; omega)
    clear ho5 hr5 hb Hr4
    generalize meas (3 + s) l be o4 = m4 at *
    go_wp2_with fail
    refine (Hc5.out).mono ?_
    rintro e w6 ⟨rfl, hb⟩
    replace hB := bstep hB hb (Nat.le_refl _)
    replace Hr := Lib.hid (Hr.out.below hb)
    replace Hr2 := Lib.hid (Hr2.out.below hb)
    clear hb Hc5
    have t1 : decide (M < 0) = false := by simp; omega
    have t2 : decide ((m4 : Int) < M) = false := by simp; omega
    have t3 : (M == 0) = true := by simp [h0]
    have hc2 : N ≤ c2' := Hr2.out.2.1
    go_wp2_with fail
    go_loopw [15] (fun i wr => ∃ k : Nat, k ≤ N ∧ i = .int .i64 k ∧ ∃ m, Hid (wr = w6.drewN m)) (fun i _ => N - (intOf i).toNat)
    case atStart => exact ⟨0, Nat.zero_le _, rfl, 0, Lib.hid rfl⟩
    case round =>
      obtain ⟨k, hk, rfl, m, Hw⟩ := hrel
      by_cases hlt : k < N
      · have hrv : RV wr a2 N c2' (ints (nats bst)) := by rw [Hw.out]; exact Hr2.out.drewN m
        have hrt := rv_take hrv hk
        obtain ⟨b, o, rfl, hbl, hc⟩ := hrv.cell (by omega)
        have e1 := hc k hlt
        have hkb : k < bst.length := by rw [HordB.out.len]; exact hlt
        have hy : (nats bst).getD k 0 = ((bst.getD k 0 : Nat) : Int) := by simp [nats, hkb]
        rw [hy] at e1
        have hyN : bst.getD k 0 < N := HordB.out.lt _ (by simp [hkb])
        have hnot : ((bst.getD k 0 : Nat) : Int) ∉ nats (bst.take k) := by
          intro hm
          obtain ⟨y, hy1, hy2⟩ := List.mem_map.1 hm
          have hy3 : y = bst.getD k 0 := by omega
          have hnd : (bst.take k ++ [bst.getD k 0]).Nodup := by
            rw [← take_snoc' hkb]
            exact HordB.out.nd.sublist (List.take_sublist _ _)
          exact (List.nodup_append.1 hnd).2.2 y hy1 (bst.getD k 0) (by simp) hy3
        have Hhas := Lib.hid (fun W (h : RV W (some ⟨b, o, none⟩) k c2' (ints (nats (bst.take k)))) => show Calls Try.prog 20 #[.slice (some ⟨b, o, none⟩) k c2', .int .i64 ((bst.getD k 0 : Nat) : Int)] W fun e w' => e = .returned (.bool false) ∧ W = w' by
          have h := a2Has_any (some ⟨b, o, none⟩) k c2' (nats (bst.take k)) ((bst.getD k 0 : Nat) : Int) W h
          rw [show decide (((bst.getD k 0 : Nat) : Int) ∈ nats (bst.take k)) = false by simpa using hnot] at h
          exact h)
        have Hrt := Lib.hid (show RV wr (some ⟨b, o, none⟩) k c2' (ints (nats (bst.take k))) by simpa [nats, List.map_take] using hrt)
        clear hrv hrt hc hy hnot hkb
        generalize bst.getD k 0 = y at *
        have hkN : (k : Int) < N := by omega
        have hkc : (k : Int) ≤ c2' := by omega
        have d1 : decide ((y : Int) < 0) = false := by first | (simp; done) | (simp; omega)
        have d2 : decide ((N : Int) ≤ y) = false := by simp; omega
        have d2' : decide (N ≤ y) = false := by simp; omega
        go_wp2
        go_quiet ((go_at_call 20; exact Calls.quiet_of_same ((Hhas.out _ (by exact Hrt.out)).mono fun e w' ⟨h1, h2⟩ => ⟨h1, h2.symm⟩)))
        go_wp2
        go_roundw
        case rel => exact ⟨k + 1, by omega, by go_num, m + nq, Lib.hid (by rw [Hw.out, World.drewN_drewN])⟩
        case measure => simp [intOf]; omega
      · have hrr : RV wr a1 N c1' (ints l) := by rw [Hw.out]; exact Hr.out.drewN m
        have hrb : RV wr a2 N c2' (ints (nats bst)) := by rw [Hw.out]; exact Hr2.out.drewN m
        have hBw : Below w.heap.size w wr := by rw [Hw.out]; exact bdrewN hB m
        have Hrr := Lib.hid hrr
        have Hrb := Lib.hid hrb
        clear hrr hrb hB
        go_wp2_with fail
        refine (a2Pick_any _ _ _ _ _ _ l bst _ (by omega) HordB.out.lt Hrr.out Hrb.out).mono ?_
        rintro e w7 ⟨v7, rfl, ho7, hb⟩
        obtain ⟨a7, c7, rfl, hr7⟩ := ho7.sliceI
        rw [show (laidIn l bst).length = N by simp [laidIn, HordB.out.len]] at hr7 ⊢
        have hB := bstep hBw hb (Nat.le_refl _)
        replace Hrr := Lib.hid (Hrr.out.below hb)
        have Hc7 := Lib.hid (by
          have h := specCountAbove_any (3 + s) be a7 N c7 (laidIn l bst) w7 hr7
          rw [Hcnt.out bst HordB.out, ← HMB.out] at h
          exact h)
        clear ho7 hr7 hb hBw
        go_wp2_with fail
        refine (Hc7.out).mono ?_
        rintro e w8 ⟨rfl, hb⟩
        replace hB := bstep hB hb (Nat.le_refl _)
        replace Hr := Lib.hid (Hrr.out.below hb)
        clear hb Hc7 Hrr
        have t4 : (M != 0) = false := by simp [h0]
        clear h0 t1 t2 t3
        go_wp2_with fail
        refine (Hfl.out _ Hr.out).mono ?_
        rintro e x1 ⟨rfl, hb⟩
        replace hB := bstep hB hb (Nat.le_refl _)
        replace Hr := Lib.hid (Hr.out.below hb)
        clear hb
        go_wp2_with fail
        refine (Hcl.out _ Hr.out).mono ?_
        rintro e x2 ⟨rfl, hb⟩
        replace hB := bstep hB hb (Nat.le_refl _)
        replace Hr := Lib.hid (Hr.out.below hb)
        clear hb
        have hpl : (places l).length = N - 1 := by rw [places_len, HN.out]
        have Hpl := Lib.hid hpl
        have HA := Lib.hid (show allAbv (3 + s) l be = abovesTo (places l) (3 + s) be (N - 1) by unfold allAbv; rw [hpl])
        have Hpg := Lib.hid (fun j (hj : j < N - 1) => show (places l).getD j 0 = psum l (j + 1) by unfold places; exact placesTo_get (by rw [HN.out]; exact hj))
        have Hal := Lib.hid (fun j => abovesTo_len (places l) (3 + s) be j)
        have HB2 := Lib.hid hB
        clear hB hpl
        go_wp2
        go_loopw [22, 23, 24, 25, 26] (fun q1 q2 q3 v i wr => ∃ k : Nat, k ≤ N - 1 ∧ i = .int .i64 k ∧ q3 = .int .i64 (psum l k) ∧ ∃ (nn : Nat) (at_ : Int), nn ≤ 7 ∧ -1 ≤ at_ ∧ at_ ≤ 7 ∧ q1 = .int .i64 nn ∧ q2 = .int .i64 at_ ∧ Hid (nn = (abovesTo (places l) (3 + s) be k).length) ∧ Hid (at_ = fstA (abovesTo (places l) (3 + s) be k)) ∧ Hid (wr.ownsRow x2.heap.size 2 1 v k (ints (placesTo l k))) ∧ Hid (Below x2.heap.size x2 wr)) (fun _ _ _ _ i _ => N - (intOf i).toNat)
        case atStart => exact ⟨0, Nat.zero_le _, rfl, rfl, 0, -1, by omega, by omega, by omega, rfl, rfl, Lib.hid rfl, Lib.hid rfl, Lib.hid (owns_empty rfl (Nat.le_refl _)), Lib.hid ((Below.refl _ _).alloc (Nat.le_refl _) _)⟩
        case round =>
          obtain ⟨k, hk, rfl, rfl, nn, at_, hn7, ha0, ha7, rfl, rfl, Hnn, Hat, Hown, Hbl⟩ := hrel
          obtain ⟨a9, c9, hv9⟩ := owns_slice Hown.out
          subst hv9
          have hszx := Hbl.out.size
          by_cases hlt : k < N - 1
          · have hkN : (k : Int) + 1 < N := by omega
            have hrv : RV wr a1 N c1' (ints l) := Hr.out.below Hbl.out
            have hr9 := (owns_read Hown.out).1
            obtain ⟨b, o, rfl, hbl, hc⟩ := hrv.cell (by omega)
            have e1 := hc k (by omega)
            have b1 := Hbd.out k (by omega)
            have b2 := Hbd.out (k + 1) (by omega)
            have Hps := Lib.hid (show psum l (k + 1) = psum l k + l.getD k 0 from rfl)
            have Hpk := Lib.hid (Hpg.out k hlt)
            have Hr9 := Lib.hid hr9
            clear hrv hc hr9
            rw [Hps.out] at b2
            generalize hu : l.getD k 0 = u at *
            have Hu := Lib.hid hu
            clear hu
            obtain ⟨p1', Hp1⟩ : ∃ p1', Hid (p1' = psum l k + u) := ⟨_, rfl⟩
            generalize psum l k = p0' at *
            have hpb : 0 ≤ p0' + u ∧ p0' + u ≤ 1400 := by omega
            go_wp2_with fail
            go_loop [27, 28, 29] (fun g j d => ∃ q : Nat, q ≤ k ∧ j = .int .i64 q ∧ g = .bool (abvTo (places l) (3 + s) be k q)) (fun _ j _ => k - (intOf j).toNat)
            case atStart => exact ⟨0, Nat.zero_le _, rfl, by simp [abvTo]⟩
            case round =>
              obtain ⟨q, hq, rfl, rfl⟩ := hrel
              by_cases hqk : q < k
              · obtain ⟨b9, o9, rfl, hb9, hc9⟩ := Hr9.out.cell (by omega)
                have e9 := hc9 q hqk
                rw [placesTo_get hqk, ← Hpg.out q (by omega)] at e9
                have bq := Hbd.out (q + 1) (by omega)
                rw [← Hpg.out q (by omega)] at bq
                have Hs := Lib.hid (abvTo_step (places l) (3 + s) be k q)
                have Hpk2 := Lib.hid (show (places l).getD k 0 = p0' + u by rw [Hpk.out, Hps.out])
                clear hc9
                generalize hz : (places l).getD q 0 = z at *
                have Hz := Lib.hid hz
                clear hz
                cases hg : abvTo (places l) (3 + s) be k q
                · rw [hg, Bool.false_or, Hpk2.out] at Hs
                  have Hs2 := Lib.hid (show abvTo (places l) (3 + s) be k (q + 1) = decide (max (p0' + u - z - (3 + s)) (-(p0' + u - z - (3 + s))) ≤ be) by
                    rw [Hs.out]
                    congr 1
                    unfold far
                    apply propext
                    omega)
                  clear Hs
                  cases hd : decide (max (p0' + u - z - (3 + s)) (-(p0' + u - z - (3 + s))) ≤ be)
                  all_goals
                    go_wp2
                    go_round
                    case rel => exact ⟨q + 1, by omega, by go_num, by rw [Hs2.out, hd]⟩
                    case measure => simp [intOf]; omega
                · rw [hg, Bool.true_or] at Hs
                  go_wp2
                  go_round
                  case rel => exact ⟨q + 1, by omega, by go_num, by rw [Hs.out]⟩
                  case measure => simp [intOf]; omega
              · have hqk2 : q = k := by omega
                subst hqk2
                have Hst := Lib.hid (abovesTo_step (places l) (3 + s) be q)
                have Hpt := Lib.hid (show ints (placesTo l (q + 1)) = ints (placesTo l q) ++ [.int .i64 (p0' + u)] by rw [placesTo_step, Hps.out]; simp)
                have hl1 := Hal.out (q + 1)
                have hab : abv (places l) (3 + s) be q = abvTo (places l) (3 + s) be q q := rfl
                have hown := Hown.out
                have hbl2 := Hbl.out
                clear Hown Hr9 e1
                cases hg : abvTo (places l) (3 + s) be q q
                · rw [hg] at hab
                  have Hn1 := Lib.hid (show nn = (abovesTo (places l) (3 + s) be (q + 1)).length by rw [Hst.out, hab, Hnn.out]; simp)
                  have Ha1 := Lib.hid (show at_ = fstA (abovesTo (places l) (3 + s) be (q + 1)) by rw [Hst.out, hab, Hat.out]; simp)
                  clear hab hl1
                  go_wp2_with (at_builtin; refine wpList_app1 rfl _ _ 22 rfl x2.heap.size 2 _ 8 Try.underlying22 info_i64 (by decide) rfl _ q _ rfl (hown.alloc _) wr.heap.size (.int .i64 (p0' + u)) rfl (cell_boxed rfl) rfl (by omega) (by simp; omega) ?_)
                  intro v3 w3 hown3 hgrow
                  have hb3 := below_app (hbl2.alloc (by omega) _) (hown.alloc _) hgrow (Nat.le_refl _) (by simp; omega)
                  rw [← Hpt.out] at hown3
                  have Hown3 := Lib.hid hown3
                  have Hb3 := Lib.hid hb3
                  clear hown hgrow hown3 hb3 hbl2
                  go_wp2
                  go_roundw
                  case measure => simp [intOf]; omega
                  case rel => exact ⟨q + 1, by omega, by go_num, by rw [Hps.out], nn, at_, hn7, ha0, ha7, rfl, rfl, Hn1, Ha1, Hown3, Hb3⟩
                · rw [hg] at hab
                  have hn1 : nn + 1 = (abovesTo (places l) (3 + s) be (q + 1)).length := by rw [Hst.out, hab, Hnn.out]; simp
                  have hn2 : nn + 1 ≤ 7 := by omega
                  have Hn1 := Lib.hid hn1
                  clear hn1
                  by_cases hat0 : at_ < 0
                  · have Ha1 := Lib.hid (show (q : Int) = fstA (abovesTo (places l) (3 + s) be (q + 1)) by
                      have h := Hat.out
                      cases hAq : abovesTo (places l) (3 + s) be q with
                      | nil => rw [Hst.out, hab, hAq]; simp [fstA]
                      | cons y L => rw [hAq] at h; simp [fstA] at h; omega)
                    clear hab hl1
                    go_wp2_with (at_builtin; refine wpList_app1 rfl _ _ 22 rfl x2.heap.size 2 _ 8 Try.underlying22 info_i64 (by decide) rfl _ q _ rfl (hown.alloc _) wr.heap.size (.int .i64 (p0' + u)) rfl (cell_boxed rfl) rfl (by omega) (by simp; omega) ?_)
                    intro v3 w3 hown3 hgrow
                    have hb3 := below_app (hbl2.alloc (by omega) _) (hown.alloc _) hgrow (Nat.le_refl _) (by simp; omega)
                    rw [← Hpt.out] at hown3
                    have Hown3 := Lib.hid hown3
                    have Hb3 := Lib.hid hb3
                    clear hown hgrow hown3 hb3 hbl2
                    go_wp2
                    go_roundw
                    case measure => simp [intOf]; omega
                    case rel => exact ⟨q + 1, by omega, by go_num, by rw [Hps.out], nn + 1, (q : Int), hn2, by omega, by omega, by go_num, rfl, Hn1, Ha1, Hown3, Hb3⟩
                  · have Ha1 := Lib.hid (show at_ = fstA (abovesTo (places l) (3 + s) be (q + 1)) by
                      have h := Hat.out
                      cases hAq : abovesTo (places l) (3 + s) be q with
                      | nil => rw [hAq] at h; simp [fstA] at h; omega
                      | cons y L => rw [hAq] at h; rw [Hst.out, hab, hAq, h]; simp [fstA])
                    clear hab hl1
                    go_wp2_with (at_builtin; refine wpList_app1 rfl _ _ 22 rfl x2.heap.size 2 _ 8 Try.underlying22 info_i64 (by decide) rfl _ q _ rfl (hown.alloc _) wr.heap.size (.int .i64 (p0' + u)) rfl (cell_boxed rfl) rfl (by omega) (by simp; omega) ?_)
                    intro v3 w3 hown3 hgrow
                    have hb3 := below_app (hbl2.alloc (by omega) _) (hown.alloc _) hgrow (Nat.le_refl _) (by simp; omega)
                    rw [← Hpt.out] at hown3
                    have Hown3 := Lib.hid hown3
                    have Hb3 := Lib.hid hb3
                    clear hown hgrow hown3 hb3 hbl2
                    go_wp2
                    go_roundw
                    case measure => simp [intOf]; omega
                    case rel => exact ⟨q + 1, by omega, by go_num, by rw [Hps.out], nn + 1, at_, hn2, ha0, ha7, by go_num, rfl, Hn1, Ha1, Hown3, Hb3⟩
          · have hkN : k = N - 1 := by omega
            have hge : ¬ ((k : Int) + 1 < N) := by omega
            have e1 := Hnn.out
            have e2 := Hat.out
            rw [hkN, ← HA.out] at e1 e2
            clear hkN
            have hBf := bstep HB2.out Hbl.out (Nat.le_refl _)
            cases hA : allAbv (3 + s) l be with
            | nil =>
              rw [hA] at e1 e2
              simp [fstA] at e1 e2
              subst e1 e2
              simp only [firstL, List.length_nil]
              go_wp2
              go_ret
              exact ⟨rfl, hBf⟩
            | cons q L =>
              rw [hA] at e1 e2
              simp [fstA] at e1 e2
              subst e1 e2
              simp only [firstL, List.length_cons]
              have d1 : decide ((q : Int) < 0) = false := by first | (simp; done) | (simp; omega)
              have d2 : decide (0 ≤ (q : Int)) = true := by simp
              go_wp2
              go_ret
              exact ⟨rfl, hBf⟩
  · have hor : orderR (3 + s) l be = ([], 3) := by
      unfold orderR
      rw [if_pos Hlc.out, ← HM.out]
      rw [if_neg h0]
    rw [hor] at Hord
    clear hor
    go_wp2_with fail
    refine (Hord.out).mono ?_
    rintro e w2 ⟨v2, rfl, ho2, hb⟩
    obtain ⟨a2, c2', rfl, hr2⟩ := ho2.sliceI
    have Hr2 := Lib.hid hr2
    replace hB := bstep hB hb (Nat.le_refl _)
    replace Hr := Lib.hid (Hr.out.below hb)
    replace Hr1 := Lib.hid (Hr1.out.below hb)
    clear ho2 hr2 hb Hord
    go_wp2_with fail
    refine (Hfew.out _ Hr.out).mono ?_
    rintro e w3 ⟨rfl, hb⟩
    replace hB := bstep hB hb (Nat.le_refl _)
    replace Hr := Lib.hid (Hr.out.below hb)
    replace Hr1 := Lib.hid (Hr1.out.below hb)
    replace Hr2 := Lib.hid (Hr2.out.below hb)
    clear hb
    go_wp2_with fail
    refine (A2Order_any _ _ _ _ N _ (by omega) Hr1.out b1).mono ?_
    rintro e w4 ⟨v4, o4, rfl, hord4, ho4, hb⟩
    obtain ⟨a4, c4, rfl, hr4⟩ := ho4.sliceI
    rw [show (nats o4).length = N by simp [nats, hord4.len]] at hr4 ⊢
    have Hr4 := Lib.hid hr4
    have Ho4 := Lib.hid hord4
    replace hB := bstep hB hb (Nat.le_refl _)
    replace Hr := Lib.hid (Hr.out.below hb)
    replace Hr2 := Lib.hid (Hr2.out.below hb)
    clear ho4 hr4 hb hord4
    go_wp2_with fail
    refine (a2Pick_any _ _ _ _ _ _ l o4 _ (by omega) Ho4.out.lt Hr.out Hr4.out).mono ?_
    rintro e w5 ⟨v5, rfl, ho5, hb⟩
    obtain ⟨a5, c5, rfl, hr5⟩ := ho5.sliceI
    rw [show (laidIn l o4).length = N by simp [laidIn, Ho4.out.len]] at hr5 ⊢
    replace hB := bstep hB hb (Nat.le_refl _)
    replace Hr := Lib.hid (Hr.out.below hb)
    replace Hr2 := Lib.hid (Hr2.out.below hb)
    have Hc5 := Lib.hid (by
      have h := countAbove_any (3 + s) be a5 N c5 (laidIn l o4) w5 hr5
      rw [Hcnt.out o4 Ho4.out] at h
      exact h)
    have hmin4 := Hmin.out o4 Ho4.out
    have hm4 : meas (3 + s) l be o4 ≤ 7 := meas_le (by rw [Ho4.out.len]; omega)
    clear ho5 hr5 hb Hr4
    generalize meas (3 + s) l be o4 = m4 at *
    go_wp2_with fail
    refine (Hc5.out).mono ?_
    rintro e w6 ⟨rfl, hb⟩
    replace hB := bstep hB hb (Nat.le_refl _)
    replace Hr := Lib.hid (Hr.out.below hb)
    replace Hr2 := Lib.hid (Hr2.out.below hb)
    clear hb Hc5
    have t1 : decide (M < 0) = false := by simp; omega
    have t2 : decide ((m4 : Int) < M) = false := by simp; omega
    have t3 : (M == 0) = false := by simp [h0]
    clear h0
    go_wp2_with fail
    refine (Hfl.out _ Hr.out).mono ?_
    rintro e x1 ⟨rfl, hb⟩
    replace hB := bstep hB hb (Nat.le_refl _)
    replace Hr := Lib.hid (Hr.out.below hb)
    clear hb
    go_wp2_with fail
    refine (Hcl.out _ Hr.out).mono ?_
    rintro e x2 ⟨rfl, hb⟩
    replace hB := bstep hB hb (Nat.le_refl _)
    replace Hr := Lib.hid (Hr.out.below hb)
    clear hb
    have hpl : (places l).length = N - 1 := by rw [places_len, HN.out]
    have Hpl := Lib.hid hpl
    have HA := Lib.hid (show allAbv (3 + s) l be = abovesTo (places l) (3 + s) be (N - 1) by unfold allAbv; rw [hpl])
    have Hpg := Lib.hid (fun j (hj : j < N - 1) => show (places l).getD j 0 = psum l (j + 1) by unfold places; exact placesTo_get (by rw [HN.out]; exact hj))
    have Hal := Lib.hid (fun j => abovesTo_len (places l) (3 + s) be j)
    have HB2 := Lib.hid hB
    clear hB hpl
    go_wp2
    go_loopw [22, 23, 24, 25, 26] (fun q1 q2 q3 v i wr => ∃ k : Nat, k ≤ N - 1 ∧ i = .int .i64 k ∧ q3 = .int .i64 (psum l k) ∧ ∃ (nn : Nat) (at_ : Int), nn ≤ 7 ∧ -1 ≤ at_ ∧ at_ ≤ 7 ∧ q1 = .int .i64 nn ∧ q2 = .int .i64 at_ ∧ Hid (nn = (abovesTo (places l) (3 + s) be k).length) ∧ Hid (at_ = fstA (abovesTo (places l) (3 + s) be k)) ∧ Hid (wr.ownsRow x2.heap.size 2 1 v k (ints (placesTo l k))) ∧ Hid (Below x2.heap.size x2 wr)) (fun _ _ _ _ i _ => N - (intOf i).toNat)
    case atStart => exact ⟨0, Nat.zero_le _, rfl, rfl, 0, -1, by omega, by omega, by omega, rfl, rfl, Lib.hid rfl, Lib.hid rfl, Lib.hid (owns_empty rfl (Nat.le_refl _)), Lib.hid ((Below.refl _ _).alloc (Nat.le_refl _) _)⟩
    case round =>
      obtain ⟨k, hk, rfl, rfl, nn, at_, hn7, ha0, ha7, rfl, rfl, Hnn, Hat, Hown, Hbl⟩ := hrel
      obtain ⟨a9, c9, hv9⟩ := owns_slice Hown.out
      subst hv9
      have hszx := Hbl.out.size
      by_cases hlt : k < N - 1
      · have hkN : (k : Int) + 1 < N := by omega
        have hrv : RV wr a1 N c1' (ints l) := Hr.out.below Hbl.out
        have hr9 := (owns_read Hown.out).1
        obtain ⟨b, o, rfl, hbl, hc⟩ := hrv.cell (by omega)
        have e1 := hc k (by omega)
        have b1 := Hbd.out k (by omega)
        have b2 := Hbd.out (k + 1) (by omega)
        have Hps := Lib.hid (show psum l (k + 1) = psum l k + l.getD k 0 from rfl)
        have Hpk := Lib.hid (Hpg.out k hlt)
        have Hr9 := Lib.hid hr9
        clear hrv hc hr9
        rw [Hps.out] at b2
        generalize hu : l.getD k 0 = u at *
        have Hu := Lib.hid hu
        clear hu
        obtain ⟨p1', Hp1⟩ : ∃ p1', Hid (p1' = psum l k + u) := ⟨_, rfl⟩
        generalize psum l k = p0' at *
        have hpb : 0 ≤ p0' + u ∧ p0' + u ≤ 1400 := by omega
        go_wp2_with fail
        go_loop [27, 28, 29] (fun g j d => ∃ q : Nat, q ≤ k ∧ j = .int .i64 q ∧ g = .bool (abvTo (places l) (3 + s) be k q)) (fun _ j _ => k - (intOf j).toNat)
        case atStart => exact ⟨0, Nat.zero_le _, rfl, by simp [abvTo]⟩
        case round =>
          obtain ⟨q, hq, rfl, rfl⟩ := hrel
          by_cases hqk : q < k
          · obtain ⟨b9, o9, rfl, hb9, hc9⟩ := Hr9.out.cell (by omega)
            have e9 := hc9 q hqk
            rw [placesTo_get hqk, ← Hpg.out q (by omega)] at e9
            have bq := Hbd.out (q + 1) (by omega)
            rw [← Hpg.out q (by omega)] at bq
            have Hs := Lib.hid (abvTo_step (places l) (3 + s) be k q)
            have Hpk2 := Lib.hid (show (places l).getD k 0 = p0' + u by rw [Hpk.out, Hps.out])
            clear hc9
            generalize hz : (places l).getD q 0 = z at *
            have Hz := Lib.hid hz
            clear hz
            cases hg : abvTo (places l) (3 + s) be k q
            · rw [hg, Bool.false_or, Hpk2.out] at Hs
              have Hs2 := Lib.hid (show abvTo (places l) (3 + s) be k (q + 1) = decide (max (p0' + u - z - (3 + s)) (-(p0' + u - z - (3 + s))) ≤ be) by
                rw [Hs.out]
                congr 1
                unfold far
                apply propext
                omega)
              clear Hs
              cases hd : decide (max (p0' + u - z - (3 + s)) (-(p0' + u - z - (3 + s))) ≤ be)
              all_goals
                go_wp2
                go_round
                case rel => exact ⟨q + 1, by omega, by go_num, by rw [Hs2.out, hd]⟩
                case measure => simp [intOf]; omega
            · rw [hg, Bool.true_or] at Hs
              go_wp2
              go_round
              case rel => exact ⟨q + 1, by omega, by go_num, by rw [Hs.out]⟩
              case measure => simp [intOf]; omega
          · have hqk2 : q = k := by omega
            subst hqk2
            have Hst := Lib.hid (abovesTo_step (places l) (3 + s) be q)
            have Hpt := Lib.hid (show ints (placesTo l (q + 1)) = ints (placesTo l q) ++ [.int .i64 (p0' + u)] by rw [placesTo_step, Hps.out]; simp)
            have hl1 := Hal.out (q + 1)
            have hab : abv (places l) (3 + s) be q = abvTo (places l) (3 + s) be q q := rfl
            have hown := Hown.out
            have hbl2 := Hbl.out
            clear Hown Hr9 e1
            cases hg : abvTo (places l) (3 + s) be q q
            · rw [hg] at hab
              have Hn1 := Lib.hid (show nn = (abovesTo (places l) (3 + s) be (q + 1)).length by rw [Hst.out, hab, Hnn.out]; simp)
              have Ha1 := Lib.hid (show at_ = fstA (abovesTo (places l) (3 + s) be (q + 1)) by rw [Hst.out, hab, Hat.out]; simp)
              clear hab hl1
              go_wp2_with (at_builtin; refine wpList_app1 rfl _ _ 22 rfl x2.heap.size 2 _ 8 Try.underlying22 info_i64 (by decide) rfl _ q _ rfl (hown.alloc _) wr.heap.size (.int .i64 (p0' + u)) rfl (cell_boxed rfl) rfl (by omega) (by simp; omega) ?_)
              intro v3 w3 hown3 hgrow
              have hb3 := below_app (hbl2.alloc (by omega) _) (hown.alloc _) hgrow (Nat.le_refl _) (by simp; omega)
              rw [← Hpt.out] at hown3
              have Hown3 := Lib.hid hown3
              have Hb3 := Lib.hid hb3
              clear hown hgrow hown3 hb3 hbl2
              go_wp2
              go_roundw
              case measure => simp [intOf]; omega
              case rel => exact ⟨q + 1, by omega, by go_num, by rw [Hps.out], nn, at_, hn7, ha0, ha7, rfl, rfl, Hn1, Ha1, Hown3, Hb3⟩
            · rw [hg] at hab
              have hn1 : nn + 1 = (abovesTo (places l) (3 + s) be (q + 1)).length := by rw [Hst.out, hab, Hnn.out]; simp
              have hn2 : nn + 1 ≤ 7 := by omega
              have Hn1 := Lib.hid hn1
              clear hn1
              by_cases hat0 : at_ < 0
              · have Ha1 := Lib.hid (show (q : Int) = fstA (abovesTo (places l) (3 + s) be (q + 1)) by
                  have h := Hat.out
                  cases hAq : abovesTo (places l) (3 + s) be q with
                  | nil => rw [Hst.out, hab, hAq]; simp [fstA]
                  | cons y L => rw [hAq] at h; simp [fstA] at h; omega)
                clear hab hl1
                go_wp2_with (at_builtin; refine wpList_app1 rfl _ _ 22 rfl x2.heap.size 2 _ 8 Try.underlying22 info_i64 (by decide) rfl _ q _ rfl (hown.alloc _) wr.heap.size (.int .i64 (p0' + u)) rfl (cell_boxed rfl) rfl (by omega) (by simp; omega) ?_)
                intro v3 w3 hown3 hgrow
                have hb3 := below_app (hbl2.alloc (by omega) _) (hown.alloc _) hgrow (Nat.le_refl _) (by simp; omega)
                rw [← Hpt.out] at hown3
                have Hown3 := Lib.hid hown3
                have Hb3 := Lib.hid hb3
                clear hown hgrow hown3 hb3 hbl2
                go_wp2
                go_roundw
                case measure => simp [intOf]; omega
                case rel => exact ⟨q + 1, by omega, by go_num, by rw [Hps.out], nn + 1, (q : Int), hn2, by omega, by omega, by go_num, rfl, Hn1, Ha1, Hown3, Hb3⟩
              · have Ha1 := Lib.hid (show at_ = fstA (abovesTo (places l) (3 + s) be (q + 1)) by
                  have h := Hat.out
                  cases hAq : abovesTo (places l) (3 + s) be q with
                  | nil => rw [hAq] at h; simp [fstA] at h; omega
                  | cons y L => rw [hAq] at h; rw [Hst.out, hab, hAq, h]; simp [fstA])
                clear hab hl1
                go_wp2_with (at_builtin; refine wpList_app1 rfl _ _ 22 rfl x2.heap.size 2 _ 8 Try.underlying22 info_i64 (by decide) rfl _ q _ rfl (hown.alloc _) wr.heap.size (.int .i64 (p0' + u)) rfl (cell_boxed rfl) rfl (by omega) (by simp; omega) ?_)
                intro v3 w3 hown3 hgrow
                have hb3 := below_app (hbl2.alloc (by omega) _) (hown.alloc _) hgrow (Nat.le_refl _) (by simp; omega)
                rw [← Hpt.out] at hown3
                have Hown3 := Lib.hid hown3
                have Hb3 := Lib.hid hb3
                clear hown hgrow hown3 hb3 hbl2
                go_wp2
                go_roundw
                case measure => simp [intOf]; omega
                case rel => exact ⟨q + 1, by omega, by go_num, by rw [Hps.out], nn + 1, at_, hn2, ha0, ha7, by go_num, rfl, Hn1, Ha1, Hown3, Hb3⟩
      · have hkN : k = N - 1 := by omega
        have hge : ¬ ((k : Int) + 1 < N) := by omega
        have e1 := Hnn.out
        have e2 := Hat.out
        rw [hkN, ← HA.out] at e1 e2
        clear hkN
        have hBf := bstep HB2.out Hbl.out (Nat.le_refl _)
        cases hA : allAbv (3 + s) l be with
        | nil =>
          rw [hA] at e1 e2
          simp [fstA] at e1 e2
          subst e1 e2
          simp only [firstL, List.length_nil]
          go_wp2
          go_ret
          exact ⟨rfl, hBf⟩
        | cons q L =>
          rw [hA] at e1 e2
          simp [fstA] at e1 e2
          subst e1 e2
          simp only [firstL, List.length_cons]
          have d1 : decide ((q : Int) < 0) = false := by first | (simp; done) | (simp; omega)
          have d2 : decide (0 ≤ (q : Int)) = true := by simp
          go_wp2
          go_ret
          exact ⟨rfl, hBf⟩

set_option maxRecDepth 100000 in
theorem lifted (os : Os) (started : os.Started) (H : Type) (enc : TypeId × Value → H) :
    ReturnsInHanded {} Try.checked os 5 .any (Rows.fnJoinsSpec.pre6 enc Try.prog Try.f5 Rows.fnJoinsRow.domain false) (Rows.fnJoinsSpec.post enc Try.prog Try.f5 false true false false) := by
  refine returnsInHanded_of_change (C := Try.checked) own started (by kernel_rfl) Try.func5
    (ChangeSpec.witness6 (enc := enc) (C := Try.checked) false ⟨#[], #[.slice none 0 0, .slice none 0 0], []⟩ 8 (by kernel_rfl) (by kernel_rfl) (by kernel_rfl) (by kernel_rfl)) ?_
  intro W base args ds gs before hval0 hW hcnd _
  have hval : ∀ (j : Nat) t v, Try.f5.params[j]? = some t → args[j]? = some v → Value.okWide Try.prog W .any base t v := hval0
  have hW' := hW
  obtain ⟨p, q, hA0, hV, rfl, hfz, hnd⟩ := hW
  have hA : DataW.TrodAll enc Try.prog W 0 (fun _ => true) true Try.f5.params.toList args.toList ds p := hA0
  rw [Try.params5] at hA hval
  obtain ⟨v0, vs0, d0, ds0, pP0, qQ0, hargs, rfl, rfl, k0, e0⟩ := trodAll_cons hA
  obtain ⟨v1, vs1, d1, ds1, pP1, qQ1, rfl, rfl, rfl, k1, e1⟩ := trodAll_cons e0
  obtain ⟨rfl, rfl, rfl⟩ := trodAll_nil e1
  obtain rfl : args = #[v0, v1] := by cases args; simp_all
  obtain ⟨rfl, rfl⟩ := trodVars_none hV
  have l0 := arg_lt k0
  have l1 := arg_lt k1
  obtain ⟨p0, n0, c0, x0, rfl, r0, b0⟩ := arg_bytes (hval 0 _ v0 rfl rfl) k0
  obtain ⟨p1, n1, c1, x1, rfl, r1, b1⟩ := arg_bytes (hval 1 _ v1 rfl rfl) k1
  clear hA0 hval0
  refine (walk W p0 n0 c0 x0 r0 b0 p1 n1 c1 x1 r1 b1).mono fun e W' ⟨he, bel⟩ => ?_
  subst he
  exact ⟨_, rfl, _, _, _, [], _, [], hW', trodAll_mk1 (shut_bool Try.underlying4 _), (trodAll_cons_mk (Below.trod laidOut (by kernel_rfl) (of_decide_eq_true (by kernel_rfl)) k0 bel l0) (trodAll_cons_mk (Below.trod laidOut (by kernel_rfl) (of_decide_eq_true (by kernel_rfl)) k1 bel l1) trodAll_mk0)), rfl, bel.frame _, fun h => by cases h⟩

theorem over : Rows.fnJoinsRow.holds Try.pinned (OpenSpec.ofChange Rows.fnJoinsSpec) :=
  OpenClaim.holds_of_wide 5 Try.f5 rfl rfl rfl rfl rfl rfl rfl ⟨rfl, rfl, rfl, rfl, rfl⟩ rfl rfl rfl rfl rfl (by kernel_rfl) Try.func5 (by kernel_rfl)
    (of_decide_eq_true (by kernel_rfl)) (by unfold Func.isWrapper; first | (rw [if_pos (by decide +kernel)]; kernel_rfl) | (rw [if_neg (by decide +kernel)]; exact ⟨rfl, rfl⟩))
    (fun os started H enc _ => lifted os started H enc)

/-- the statement -/
theorem proved : Rows.FnJoinsSaid := over
#print axioms proved
end Go.Proofs.Ytdbgicfbigjmmaa.fnJoins
