/-
  Proved here: the law FnShapes answers true at every input, and leaves its arguments as they were. No condition.
-/
import Derived.Test.YtkglcfeopicakaaFrame
import Derived.Test.YtkglcfeopicakaaShapeFn
namespace Go.Proofs.Ytkglcfeopicakaa.fnShapes
open Go.ChangeShapes Go.WideShapes Go.ChangeAt Go.RowKit
set_option linter.unusedVariables false

set_option maxHeartbeats 16000000 in
set_option maxRecDepth 100000 in
theorem walk (w : World) (p0 : Option Addr) (n0 c0 : Nat) (x0 : List Int) (r0 : RV w p0 n0 c0 (x0.map (.int .u8))) (b0 : ∀ x ∈ x0, 0 ≤ x ∧ x ≤ 255) (p1 : Option Addr) (n1 c1 : Nat) (x1 : List Int) (r1 : RV w p1 n1 c1 (x1.map (.int .u8))) (b1 : ∀ x ∈ x1, 0 ≤ x ∧ x ≤ 255) :
    Calls Try.prog 3 #[.slice p0 n0 c0, .slice p1 n1 c1] w fun e w' => e = .returned (.bool true) ∧ Below w.heap.size w w' := by
  by_cases hlong : ¬ (n0 ≤ 3000 ∧ n1 ≤ 3000)
  · go_enter Try.func3, Try.ntmps3
    go_wp2_with (go_at_call 6; refine (a2Long_yes _ _ _ _ _ _ _ hlong).mono ?_; rintro e w' ⟨rfl, rfl⟩)
    go_ret
    exact ⟨rfl, Below.refl _ _⟩
  obtain ⟨hl0, hl1⟩ := Decidable.not_not.1 hlong
  clear hlong
  have hB : Below w.heap.size w w := Below.refl _ _
  have Hb1 := Lib.hid b1
  go_enter Try.func3, Try.ntmps3
  go_wp2_with fail
  with_reducible refine (a2Long_no _ _ _ _ _ _ _ hl0 hl1).mono ?_
  rintro e wq ⟨rfl, rfl⟩
  go_wp2_with fail
  with_reducible refine (A2Shape_any _ _ _ _ _ r0 b0).mono ?_
  rintro e w1 ⟨v, l, rfl, hlen, hlx, ho, hb⟩
  obtain ⟨a1, c1', rfl, hr1⟩ := ho.sliceI
  have hvs : vShape l = true := vShape_iff.2 ⟨fun x hx => by have := hlx x hx; omega, by omega, by omega⟩
  have Hvs := Lib.hid hvs
  have Hr := Lib.hid hr1
  replace hB := bstep hB hb (Nat.le_refl _)
  clear hb ho hr1 hvs
  have Hlx := Lib.hid (fun k (hk : k < l.length) => hlx (l.getD k 0) (by simp [hk]))
  clear hlx
  generalize hN : l.length = N at *
  have HN := Lib.hid hN
  clear hN
  have Hr1 := Lib.hid (RV.below r1 hB)
  clear r0 b0 r1 b1
  go_wp2_with fail
  with_reducible refine (a2At_any _ _ _ _ _ _ _ (by omega) (by omega) Hr1.out Hb1.out).mono ?_
  rintro e wq ⟨⟨s, rfl, hs0, hs1⟩, rfl⟩
  go_wp2_with fail
  with_reducible refine (a2At_any _ _ _ _ _ _ _ (by omega) (by omega) Hr1.out Hb1.out).mono ?_
  rintro e wq ⟨⟨u, rfl, hu0, hu1⟩, rfl⟩
  obtain ⟨low, Hlow⟩ : ∃ low, Hid (low = 10 + s) := ⟨_, rfl⟩
  obtain ⟨high, Hhigh⟩ : ∃ high, Hid (high = 10 + s + u) := ⟨_, rfl⟩
  have hb4 : 1 ≤ low ∧ low ≤ 200 ∧ low ≤ high ∧ high ≤ 200 := by rw [Hlow.out, Hhigh.out]; omega
  have hap : apart low high = true := apart_iff.2 ⟨⟨by omega, by omega⟩, by omega, by omega⟩
  have Hap := Lib.hid hap
  have Hfx := Lib.hid (shapes_facts Hvs.out Hap.out)
  rw [HN.out] at Hfx
  obtain ⟨oc, tc, num, Pl, hpr, hon, hoc, htc, hto, htn, htl, hog, hop⟩ := Hfx.out
  have Hplan := Lib.hid (stakePlan_any a1 N c1' l low high w1 Hr.out)
  rw [hpr] at Hplan
  have Hnum := Lib.hid (fun W (h : RV W a1 N c1' (ints l)) => (show Calls Try.prog 10 #[.slice a1 N c1', .int .i64 low, .int .i64 high] W fun e w' => e = rt2 (num, tc) ∧ ∃ m, w' = W.drewN m by have h := oneNumber_any a1 N c1' l low high W h; rw [hon] at h; exact h))
  have Hst := Lib.hid (fun x (h : 1 ≤ x ∧ x ≤ 5000) => stakesRangeI_any x low high)
  have Htn := Lib.hid htn
  have Htl := Lib.hid htl
  have Hog := Lib.hid hog
  have Hop := Lib.hid hop
  clear hpr hon htn htl hog hop Hfx hap
  go_wp2_with fail
  rw [← Hhigh.out, ← Hlow.out]
  with_reducible refine Hplan.out.mono ?_
  rintro e w2 ⟨v2, rfl, ho2, hb⟩
  obtain ⟨a2, c2, rfl, hr2⟩ := ho2.sliceI
  replace hB := bstep hB hb (Nat.le_refl _)
  replace Hr := Lib.hid (Hr.out.below hb)
  have Hr2 := Lib.hid hr2
  clear hb Hplan ho2 hr2
  obtain ⟨NP, HNP⟩ : ∃ NP, Hid (NP = Pl.length) := ⟨_, rfl⟩
  rw [← HNP.out] at Hr2 ⊢
  have HNP' := Lib.hid (fun (h : oc = 0) => (show NP = N by obtain ⟨P, hP⟩ := Hop.out h; rw [HNP.out, hP.eq, List.length_map, hP.len, HN.out]))
  have hNPb : NP ≤ 9223372036854775807 := by have := Hr2.out.small; exact this
  go_wp2_with fail
  with_reducible refine (Hnum.out _ Hr.out).mono ?_
  rintro e w3 ⟨rfl, m3, rfl⟩
  replace hB := bdrewN hB m3
  replace Hr := Lib.hid (Hr.out.drewN m3)
  replace Hr2 := Lib.hid (Hr2.out.drewN m3)
  have HB0 := Lib.hid hB
  generalize w2.drewN m3 = w3 at *
  clear hB Hnum
  go_upto_region 8 with fail
  go_cut [73] (fun sq wc => sq = .bool false ∧ wc = w3)
  case first => as_aux_lemma =>
    rcases htc with rfl | rfl
    · obtain rfl := hto rfl
      go_wp2
      go_meet
      exact ⟨rfl, rfl⟩
    · rcases hoc with rfl | rfl
      · go_wp2
        go_meet
        exact ⟨rfl, rfl⟩
      · go_wp2
        go_meet
        exact ⟨rfl, rfl⟩
  obtain ⟨rfl, hwc⟩ := hcut
  rw [hwc]
  clear hwc
  go_wp2_with fail
  go_loopw [12, 13, 14, 15] (fun gd le mo i wr => ∃ (k : Nat) (A M : Int), k ≤ N ∧ i = .int .i64 k ∧ gd = .bool (gall l low high k) ∧ le = .int .i64 A ∧ mo = .int .i64 M ∧ (3 ≤ A ∧ A ≤ 10000) ∧ (-1 ≤ M ∧ M ≤ 60) ∧ Hid (gall l low high k = true → A = leastTo l high k ∧ M = mostTo l low k) ∧ Hid (Below w3.heap.size w3 wr)) (fun _ _ _ i _ => N - (intOf i).toNat)
  case atStart => exact ⟨0, 3, 60, Nat.zero_le _, rfl, rfl, rfl, rfl, by omega, by omega, Lib.hid (fun _ => ⟨rfl, rfl⟩), Lib.hid (Below.refl _ _)⟩
  case round =>
    obtain ⟨k, A, M, hk, rfl, rfl, rfl, rfl, hA, hM, HAM, Hbl⟩ := hrel
    generalize wr = wx at *
    by_cases hkN : k < N
    · as_aux_lemma =>
      obtain ⟨x, Hx⟩ : ∃ x, Hid (x = l.getD k 0) := ⟨_, rfl⟩
      have hx := Hlx.out k hkN
      rw [← Hx.out] at hx
      have hx5 : 1 ≤ x ∧ x ≤ 5000 := by omega
      have Hrx := Lib.hid (Hr.out.below Hbl.out)
      obtain ⟨bq, oq, rfl, hbq, hcq⟩ := Hrx.out.cell (by omega)
      have e1 := hcq k hkN
      rw [← Hx.out] at e1
      clear hcq
      have hkN' : (k : Int) < N := by omega
      by_cases hlm : leastOf x high ≤ mostOf x low
      · have hrf := rng_facts hx5 hb4.1 hb4.2.1 hb4.2.2.1 hb4.2.2.2 hlm
        have hrg : stakesRangeR x low high = (leastOf x high, mostOf x low, 0) := range_good hx5 Hap.out hlm
        have Hsr := Lib.hid (Hst.out x hx5 wx)
        rw [hrg] at Hsr
        have Hg1 := Lib.hid (show gall l low high (k + 1) = gall l low high k by rw [gall, ← Hx.out, decide_eq_true hlm, Bool.and_true])
        have Hl1 := Lib.hid (show leastTo l high (k + 1) = max (leastTo l high k) (leastOf x high) by rw [Hx.out]; rfl)
        have Hm1 := Lib.hid (show mostTo l low (k + 1) = min (mostTo l low k) (mostOf x low) by rw [Hx.out]; rfl)
        have Hspf := Lib.hid (fun (h : 3 ≤ leastOf x high ∧ leastOf x high ≤ 60) => spacing_ok (l := l) (a := leastOf x high) (i := k) Hvs.out h (by rw [HN.out]; exact hkN))
        generalize leastOf x high = a at *
        generalize mostOf x low = b at *
        have ha60 : 3 ≤ a ∧ a ≤ 60 := by omega
        have Hsp := Lib.hid (fun W h => spacingAt_any (some ⟨bq, oq, none⟩) N c1' l a k W h)
        rw [Hspf.out ha60, ← Hx.out] at Hsp
        have hlc := low_cross (a := x) (b := a) (by omega) (by omega)
        have hld := lowD_bd (a := x) (b := a) (by omega) (by omega)
        have hln := lowN_bd (a := x) (b := a) (by omega) (by omega)
        clear hrg Hspf
        have p1 : 0 ≤ a * high := Int.mul_nonneg (by omega) (by omega)
        have p2 : a * high ≤ 60 * 200 := Int.mul_le_mul ha60.2 hb4.2.2.2 (by omega) (by omega)
        have p3 : 0 ≤ b * low := Int.mul_nonneg (by omega) (by omega)
        have p4 : b * low ≤ 60 * 200 := Int.mul_le_mul hrf.2.1 hb4.2.1 (by omega) (by omega)
        have p5 : (a - 1) * high = a * high - high := by rw [Int.sub_mul, Int.one_mul]
        have p6 : (b + 1) * low = b * low + low := by rw [Int.add_mul, Int.one_mul]
        have q1 := IntWalk.i64_in (a * high) (by omega)
        have q2 := IntWalk.i64_in (b * low) (by omega)
        have q3 := IntWalk.i64_in ((a - 1) * high) (by omega)
        have q4 := IntWalk.i64_in ((b + 1) * low) (by omega)
        have t1 : decide (a < 3) = false := decide_eq_false (by omega)
        have t2 : decide (b < a) = false := decide_eq_false (by omega)
        have t3 : decide (60 < b) = false := decide_eq_false (by omega)
        have t4 : decide (a * high < x) = false := decide_eq_false (by omega)
        have t5 : decide (x < b * low) = false := decide_eq_false (by omega)
        have T7 := Lib.hid (fun (h : 3 < a) => (decide_eq_false (by have := hrf.2.2.2.2.1 h; omega) : decide (x ≤ (a - 1) * high) = false))
        have T9 := Lib.hid (fun (h : b < 60) => (decide_eq_false (by have := hrf.2.2.2.2.2 h; omega) : decide ((b + 1) * low ≤ x) = false))
        have hb60 : 3 ≤ b ∧ b ≤ 60 := by omega
        clear p5 p6 hrf
        go_upto_region 21 with ((go_at_call 11; (with_reducible refine Hsr.out.mono ?_); rintro e w4 ⟨rfl, m4, rfl⟩; have e2 : (wx.drewN m4).cell? ⟨bq, oq + k, none⟩ = some (.int .i64 x) := e1))
        go_cut [155] (fun sq wc => sq = .bool false ∧ wc = wx.drewN m4)
        case first => as_aux_lemma =>
          by_cases h3 : 3 < a
          · have t6 : decide (3 < a) = true := decide_eq_true h3
            have t7 := T7.out h3
            by_cases h60 : b < 60
            · have t8 : decide (b < 60) = true := decide_eq_true h60
              have t9 := T9.out h60
              clear h3 h60
              go_wp2
              go_meet
              exact ⟨rfl, rfl⟩
            · have t8 : decide (b < 60) = false := decide_eq_false h60
              clear h3 h60
              go_wp2
              go_meet
              exact ⟨rfl, rfl⟩
          · have t6 : decide (3 < a) = false := decide_eq_false h3
            by_cases h60 : b < 60
            · have t8 : decide (b < 60) = true := decide_eq_true h60
              have t9 := T9.out h60
              clear h3 h60
              go_wp2
              go_meet
              exact ⟨rfl, rfl⟩
            · have t8 : decide (b < 60) = false := decide_eq_false h60
              clear h3 h60
              go_wp2
              go_meet
              exact ⟨rfl, rfl⟩
        case rest => as_aux_lemma =>
          obtain ⟨rfl, rfl⟩ := hcut
          clear q1 q2 q3 q4 t1 t2 t3 t4 t5 p1 p2 p3 p4 T7 T9 e1
          have hk1 : -1 ≤ M ∧ M ≤ 60 ∧ 3 ≤ b ∧ b ≤ 60 := by omega
          generalize lowN x a = fn at *
          generalize lowD x a = fd at *
          have r1 : 0 ≤ fn * a := Int.mul_nonneg (by omega) (by omega)
          have r2 : fn * a ≤ 2500 * 60 := Int.mul_le_mul (by omega) ha60.2 (by omega) (by omega)
          have r3 := IntWalk.i64_in (fn * a) (by omega)
          have r4 := IntWalk.i64_in (x * fd) (by omega)
          have r5 : (fn * a != x * fd) = false := bne_eq_false_iff_eq.2 hlc
          have r6 : decide (fd < 1) = false := decide_eq_false (by omega)
          go_wp2_with fail
          with_reducible refine (Hsp.out _ (Hrx.out.drewN m4)).mono ?_
          rintro e w5 ⟨rfl, hb⟩
          have hb5 : Below w3.heap.size w3 w5 := bstep (bdrewN Hbl.out m4) hb (Nat.le_refl _)
          have e3 : (w5.alloc (.cells #[.int .i64 fn, .int .i64 fd] 34)).cell? ⟨bq, oq + k, none⟩ = some (.int .i64 x) := (((hb.alloc hb.size _).cell (p := ⟨bq, oq + k, none⟩) (by simpa using hbq)).trans e2)
          have HB5 := Lib.hid (hb5.alloc hb5.size (.cells #[.int .i64 fn, .int .i64 fd] 34))
          clear hb hb5 e2
          go_wp2_with fail
          go_quiet (fail)
          go_wp2
          go_roundw
          case rel =>
            exact ⟨k + 1, max A a, min M b, by omega, by go_num, by rw [Hg1.out], rfl, rfl, by omega, by omega, Lib.hid (fun h => by
              rw [Hg1.out] at h
              have h2 := HAM.out h
              rw [Hl1.out, Hm1.out, h2.1, h2.2]
              exact ⟨rfl, rfl⟩), Lib.hid (bdrewN HB5.out _)⟩
          case measure => simp [intOf]; omega
      · have hrg : stakesRangeR x low high = (0, 0, 3) := range_not hx5 Hap.out (by omega)
        have Hsr := Lib.hid (Hst.out x hx5 wx)
        rw [hrg] at Hsr
        have Hg1 := Lib.hid (show gall l low high (k + 1) = false by rw [gall, ← Hx.out, decide_eq_false hlm, Bool.and_false])
        clear hrg hlm
        go_wp2_with (go_at_call 11; (with_reducible refine Hsr.out.mono ?_); rintro e w4 ⟨rfl, m4, rfl⟩)
        go_roundw
        case rel => exact ⟨k + 1, A, M, by omega, by go_num, by rw [Hg1.out], rfl, rfl, hA, hM, Lib.hid (fun h => by rw [Hg1.out] at h; cases h), Lib.hid (bdrewN Hbl.out m4)⟩
        case measure => simp [intOf]; omega
    · as_aux_lemma =>
      have hkN : k = N := by omega
      subst hkN
      generalize hgb : gall l low high k = gb at *
      clear hgb
      go_upto_region 28 with fail
      go_cut [215] (fun sq wc => sq = .bool false ∧ wc = wx)
      case first => as_aux_lemma =>
        rcases htc with rfl | rfl
        · obtain rfl := hto rfl
          obtain ⟨rfl, h2⟩ := Htn.out rfl
          obtain rfl := Hog.out rfl
          obtain ⟨rfl, rfl⟩ := HAM.out rfl
          have t1 : decide (leastTo l high k ≤ mostTo l low k) = true := decide_eq_true h2
          clear h2
          go_wp2
          go_meet
          exact ⟨rfl, rfl⟩
        · have h2 := Htl.out (by omega)
          cases gb
          · have hne : oc = 3 := by
              rcases hoc with h | h
              · have := Hog.out h
                cases this
              · exact h
            subst hne
            go_wp2
            go_meet
            exact ⟨rfl, rfl⟩
          · obtain ⟨rfl, rfl⟩ := HAM.out rfl
            have t1 : decide (leastTo l high k ≤ mostTo l low k) = false := decide_eq_false (by omega)
            clear h2
            rcases hoc with rfl | rfl
            · go_wp2
              go_meet
              exact ⟨rfl, rfl⟩
            · go_wp2
              go_meet
              exact ⟨rfl, rfl⟩
      obtain ⟨rfl, hwc⟩ := hcut
      rw [hwc]
      clear hwc
      have HBx := Lib.hid (HB0.out.trans (Hbl.out.mono HB0.out.size))
      by_cases hoc0 : ¬ oc = 0
      · have t1 : (oc != 0) = true := by simp [hoc0]
        clear hoc0
        go_wp2
        go_ret
        exact ⟨rfl, HBx.out⟩
      have hoc0 := Decidable.not_not.1 hoc0
      have hNk := HNP'.out hoc0
      obtain ⟨P, hP⟩ := Hop.out hoc0
      rw [hNk, hP.eq] at Hr2
      have hNk := hNk.symm
      subst hNk
      subst hoc0
      have HgP := Lib.hid hP.good
      have HnP := Lib.hid hP.near
      have Hchb := Lib.hid hP.bd
      have HcR := Lib.hid hP.chgR
      have HcZ := Lib.hid hP.zero
      rw [HN.out] at HgP HnP Hchb HcR HcZ
      rw [hP.eq] at HcR
      have HPg := Lib.hid (fun q => (show (P.map (fun k : Nat => (k : Int))).getD q 0 = (gN P q : Int) by
        unfold gN
        simp only [List.getD_eq_getElem?_getD, List.getElem?_map]
        cases P[q]? <;> rfl))
      clear hP Hop Hog Htl Htn hto hoc htc HNP
      clear HAM Hst Hlx hA hM
      have Hrx := Lib.hid (Hr.out.below Hbl.out)
      have Hr2x := Lib.hid (Hr2.out.below Hbl.out)
      clear Hr Hr2 Hbl HB0
      go_wp2_with fail
      go_loopw [21, 22] (fun sm i wr => ∃ (q m : Nat), q ≤ k ∧ i = .int .i64 q ∧ sm = .int .i64 (chg P q) ∧ Hid (wr = wx.drewN m)) (fun _ i _ => k - (intOf i).toNat)
      case atStart => exact ⟨0, 0, Nat.zero_le _, rfl, rfl, rfl⟩
      case round =>
        obtain ⟨q, m, hq, rfl, rfl, Hw⟩ := hrel
        generalize wr = wy at *
        by_cases hqk : q < k
        · as_aux_lemma =>
          have hrv := Hrx.out.drewN m
          have hr2 := Hr2x.out.drewN m
          rw [← Hw.out] at hrv hr2
          obtain ⟨bq, oq, rfl, hbq, hcq⟩ := hrv.cell (by omega)
          obtain ⟨bp, op, rfl, hbp, hcp⟩ := hr2.cell (by omega)
          have e1 := hcq q hqk
          have e2 := hcp q hqk
          have hgp := HgP.out q hqk
          have hPq := HPg.out q
          rw [hPq] at e2
          have hgq := goodN_iff.1 hgp
          have hlc : ((gN P q : Nat) : Int) * low ≤ l.getD q 0 ∧ l.getD q 0 ≤ (gN P q : Nat) * high := by
            have h := hgq.2.2
            unfold goodB at h
            simp only [Bool.and_eq_true, decide_eq_true_eq] at h
            rw [Int.mul_comm _ low, Int.mul_comm _ high]
            exact h
          have hch := Hchb.out q (by omega)
          have p1 : 0 ≤ ((gN P q : Nat) : Int) * low := Int.mul_nonneg (by omega) (by omega)
          have p2 : ((gN P q : Nat) : Int) * low ≤ 60 * 200 := Int.mul_le_mul (by omega) hb4.2.1 (by omega) (by omega)
          have p3 : 0 ≤ ((gN P q : Nat) : Int) * high := Int.mul_nonneg (by omega) (by omega)
          have p4 : ((gN P q : Nat) : Int) * high ≤ 60 * 200 := Int.mul_le_mul (by omega) hb4.2.2.2 (by omega) (by omega)
          have w1' := IntWalk.i64_in (((gN P q : Nat) : Int) * low) (by omega)
          have w2' := IntWalk.i64_in (((gN P q : Nat) : Int) * high) (by omega)
          have t2 : decide (((gN P q : Nat) : Int) < 3) = false := decide_eq_false (by omega)
          have t3 : decide ((60 : Int) < (gN P q : Nat)) = false := decide_eq_false (by omega)
          have t4 : decide (l.getD q 0 < ((gN P q : Nat) : Int) * low) = false := decide_eq_false (by omega)
          have t5 : decide (((gN P q : Nat) : Int) * high < l.getD q 0) = false := decide_eq_false (by omega)
          have hqk' : (q : Int) < k := by omega
          by_cases hq0 : q = 0
          · subst hq0
            clear hcq hcp hgp hgq hlc hPq hrv hr2 p1 p2 p3 p4 hch
            rw [Nat.add_zero] at e1 e2
            generalize gN P 0 = pq at *
            generalize l.getD 0 0 = xq at *
            go_wp2_with fail
            go_quiet (fail)
            go_wp2
            go_roundw
            case rel => exact ⟨1, m + nq, by omega, by go_num, rfl, Lib.hid (by rw [Hw.out, World.drewN_drewN])⟩
            case measure => simp [intOf]; omega
          · obtain ⟨j, rfl⟩ : ∃ j, q = j + 1 := ⟨q - 1, by omega⟩
            have e3 := hcp j (by omega)
            rw [HPg.out j] at e3
            have hgj := goodN_iff.1 (HgP.out j (by omega))
            have hnear := HnP.out j hqk
            have Hcs := Lib.hid (show chg P (j + 1 + 1) = chg P (j + 1) + max ((gN P (j + 1) : Int) - gN P j) (gN P j - gN P (j + 1)) by
              rw [chg_step P (by omega)]
              simp only [Nat.add_sub_cancel]
              unfold apt; omega)
            have t6 : decide ((0 : Int) < ((j + 1 : Nat) : Int)) = true := decide_eq_true (by omega)
            have hj1 : ((j + 1 : Nat) : Int) - 1 = (j : Int) := by omega
            have hw3 : IntKind.i64.wrap (((j + 1 : Nat) : Int) - 1) = (j : Int) := by rw [hj1]; exact IntWalk.i64_in _ (by omega)
            have hw4 : IntKind.i64.wrap ((j : Int) + 1 - 1) = (j : Int) := by rw [show (j : Int) + 1 - 1 = j by omega]; exact IntWalk.i64_in _ (by omega)
            have hjk : (j : Int) < k := by omega
            have t7 : decide ((6 : Int) < max ((gN P (j + 1) : Int) - gN P j) (gN P j - gN P (j + 1))) = false := decide_eq_false (by unfold apt at hnear; omega)
            have hmx : 0 ≤ max ((gN P (j + 1) : Int) - gN P j) (gN P j - gN P (j + 1)) ∧ max ((gN P (j + 1) : Int) - gN P j) (gN P j - gN P (j + 1)) ≤ 6 := by unfold apt at hnear; omega
            clear hcq hcp hgp hlc hPq hrv hr2 p1 p2 p3 p4 hnear hq0
            generalize gN P (j + 1) = pq at *
            generalize gN P j = pj at *
            generalize l.getD (j + 1) 0 = xq at *
            have hw5 := IntWalk.i64_in ((pq : Int) - pj) (by omega)
            have hw6 := IntWalk.i64_in ((pj : Int) - pq) (by omega)
            generalize chg P (j + 1) = cq at *
            go_wp2_with fail
            go_quiet (fail)
            go_wp2_with fail
            have e2 : (wy.drewN nq).cell? ⟨bp, op + (j + 1), none⟩ = some (.int .i64 pq) := e2
            have e3 : (wy.drewN nq).cell? ⟨bp, op + j, none⟩ = some (.int .i64 pj) := e3
            obtain ⟨m2, Hw2⟩ : ∃ m2, Hid (wy.drewN nq = wx.drewN m2) := ⟨m + nq, by rw [Hw.out]; exact World.drewN_drewN _ _ _⟩
            generalize wy.drewN nq = wz at *
            go_quiet (fail)
            go_wp2
            go_roundw
            case rel => exact ⟨j + 1 + 1, m2 + nq, by omega, by go_num, by rw [Hcs.out], Lib.hid (by rw [Hw2.out, World.drewN_drewN])⟩
            case measure => simp [intOf]; omega
        · as_aux_lemma =>
          have hqk : q = k := by omega
          subst hqk
          have hr2 := Hr2x.out.drewN m
          rw [← Hw.out] at hr2
          have hBy : Below w.heap.size w wy := by rw [Hw.out]; exact bdrewN HBx.out m
          have HBy := Lib.hid hBy
          have Hcg := Lib.hid (changesOf_any a2 q c2 (P.map (fun k : Nat => (k : Int))) wy hr2)
          rw [HcR.out] at Hcg
          have t2 : ((chg P q == 0) == (tc == 0)) = true := by rw [beq_iff_eq, Bool.eq_iff_iff, beq_iff_eq, beq_iff_eq]; exact HcZ.out
          clear hBy hr2
          generalize chg P q = CH at *
          go_wp2_with (go_at_call 13; (with_reducible refine Hcg.out.mono ?_); rintro e w6 ⟨rfl, m6, rfl⟩)
          go_ret
          exact ⟨rfl, bdrewN HBy.out m6⟩

set_option maxRecDepth 100000 in
theorem lifted (os : Os) (started : os.Started) (H : Type) (enc : TypeId × Value → H) :
    ReturnsInHanded {} Try.checked os 3 .any (Rows.fnShapesSpec.pre6 enc Try.prog Try.f3 Rows.fnShapesRow.domain false) (Rows.fnShapesSpec.post enc Try.prog Try.f3 false true false false) := by
  refine returnsInHanded_of_change (C := Try.checked) own started (by kernel_rfl) Try.func3
    (ChangeSpec.witness6 (enc := enc) (C := Try.checked) false ⟨#[], #[.slice none 0 0, .slice none 0 0], []⟩ 8 (by kernel_rfl) (by kernel_rfl) (by kernel_rfl) (by kernel_rfl)) ?_
  intro W base args ds gs before hval0 hW hcnd _
  have hval : ∀ (j : Nat) t v, Try.f3.params[j]? = some t → args[j]? = some v → Value.okWide Try.prog W .any base t v := hval0
  have hW' := hW
  obtain ⟨p, q, hA0, hV, rfl, hfz, hnd⟩ := hW
  have hA : DataW.TrodAll enc Try.prog W 0 (fun _ => true) true Try.f3.params.toList args.toList ds p := hA0
  rw [Try.params3] at hA hval
  obtain ⟨v0, vs0, d0, ds0, pP0, qQ0, hargs, rfl, rfl, k0, e0⟩ := trodAll_cons hA
  obtain ⟨v1, vs1, d1, ds1, pP1, qQ1, rfl, rfl, rfl, k1, e1⟩ := trodAll_cons e0
  obtain ⟨rfl, rfl, rfl⟩ := trodAll_nil e1
  obtain rfl : args = #[v0, v1] := by cases args; simp_all
  obtain ⟨rfl, rfl⟩ := trodVars_none hV
  have l0 := arg_lt k0
  have l1 := arg_lt k1
  obtain ⟨p0, n0, c0, x0, rfl, r0, b0⟩ := arg_bytes (hval 0 _ v0 rfl rfl) k0
  obtain ⟨p1, n1, c1, x1, rfl, r1, b1⟩ := arg_bytes (hval 1 _ v1 rfl rfl) k1
  clear hA0 hval0
  refine (walk W p0 n0 c0 x0 r0 b0 p1 n1 c1 x1 r1 b1).mono fun e W' ⟨he, bel⟩ => ?_
  subst he
  exact ⟨_, rfl, _, _, _, [], _, [], hW', trodAll_mk1 (shut_bool Try.underlying4 _), (trodAll_cons_mk (Below.trod laidOut (by kernel_rfl) (of_decide_eq_true (by kernel_rfl)) k0 bel l0) (trodAll_cons_mk (Below.trod laidOut (by kernel_rfl) (of_decide_eq_true (by kernel_rfl)) k1 bel l1) trodAll_mk0)), rfl, bel.frame _, fun h => by cases h⟩

theorem over : Rows.fnShapesRow.holds Try.pinned (OpenSpec.ofChange Rows.fnShapesSpec) :=
  OpenClaim.holds_of_wide 3 Try.f3 rfl rfl rfl rfl rfl rfl rfl ⟨rfl, rfl, rfl, rfl, rfl⟩ rfl rfl rfl rfl rfl (by kernel_rfl) Try.func3 (by kernel_rfl)
    (of_decide_eq_true (by kernel_rfl)) (by unfold Func.isWrapper; first | (rw [if_pos (by decide +kernel)]; kernel_rfl) | (rw [if_neg (by decide +kernel)]; exact ⟨rfl, rfl⟩))
    (fun os started H enc _ => lifted os started H enc)

/-- the statement -/
theorem proved : Rows.FnShapesSaid := over
#print axioms proved
end Go.Proofs.Ytkglcfeopicakaa.fnShapes
