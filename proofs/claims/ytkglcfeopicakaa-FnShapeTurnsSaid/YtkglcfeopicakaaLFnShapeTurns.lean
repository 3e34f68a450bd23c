/-
  Proved here: the law FnShapeTurns answers true at every input, and leaves its arguments as they were. No condition.
-/
import Derived.Test.YtkglcfeopicakaaFrame
import Derived.Test.YtkglcfeopicakaaShapeFn2
namespace Go.Proofs.Ytkglcfeopicakaa.fnShapeTurns
open Go.ChangeShapes Go.WideShapes Go.ChangeAt Go.RowKit
set_option linter.unusedVariables false

set_option maxHeartbeats 16000000 in
set_option maxRecDepth 100000 in
theorem walk (w : World) (p0 : Option Addr) (n0 c0 : Nat) (x0 : List Int) (r0 : RV w p0 n0 c0 (x0.map (.int .u8))) (b0 : ∀ x ∈ x0, 0 ≤ x ∧ x ≤ 255) (p1 : Option Addr) (n1 c1 : Nat) (x1 : List Int) (r1 : RV w p1 n1 c1 (x1.map (.int .u8))) (b1 : ∀ x ∈ x1, 0 ≤ x ∧ x ≤ 255) :
    Calls Try.prog 4 #[.slice p0 n0 c0, .slice p1 n1 c1] w fun e w' => e = .returned (.bool true) ∧ Below w.heap.size w w' := by
  by_cases hlong : ¬ (n0 ≤ 3000 ∧ n1 ≤ 3000)
  · go_enter Try.func4, Try.ntmps4
    go_wp2_with (go_at_call 6; refine (a2Long_yes _ _ _ _ _ _ _ hlong).mono ?_; rintro e w' ⟨rfl, rfl⟩)
    go_ret
    exact ⟨rfl, Below.refl _ _⟩
  obtain ⟨hl0, hl1⟩ := Decidable.not_not.1 hlong
  clear hlong
  have hB : Below w.heap.size w w := Below.refl _ _
  have Hb1 := Lib.hid b1
  go_enter Try.func4, Try.ntmps4
  go_wp2_with fail
  with_reducible refine (a2Long_no _ _ _ _ _ _ _ hl0 hl1).mono ?_
  rintro e wq ⟨rfl, rfl⟩
  go_wp2_with fail
  with_reducible refine (A2Shape_any _ _ _ _ _ r0 b0).mono ?_
  rintro e w1 ⟨v, l, rfl, hlen, hlx, ho, hb⟩
  obtain ⟨a1, c1', rfl, hr1⟩ := ho.sliceI
  have hvs : vShape l = true := vShape_iff.2 ⟨fun x hx => by have := hlx x hx; omega, by omega, by omega⟩
  have Hvs := Lib.hid hvs
  have Hr := Lib.hid hr1
  replace hB := bstep hB hb (Nat.le_refl _)
  clear hb ho hr1 hvs
  have Hlx := Lib.hid (fun k (hk : k < l.length) => hlx (l.getD k 0) (by simp [hk]))
  clear hlx
  have Hwi := Lib.hid (widest_ok Hvs.out)
  have Hrv := Lib.hid (fun i (hi : i < l.length) => getD_rev (l := l) rfl hi)
  generalize hN : l.length = N at *
  have HN := Lib.hid hN
  clear hN
  have Hr1 := Lib.hid (RV.below r1 hB)
  clear r0 b0 r1 b1
  go_wp2_with fail
  with_reducible refine (a2At_any _ _ _ _ _ _ _ (by omega) (by omega) Hr1.out Hb1.out).mono ?_
  rintro e wq ⟨⟨s, rfl, hs0, hs1⟩, rfl⟩
  go_wp2_with fail
  with_reducible refine (a2At_any _ _ _ _ _ _ _ (by omega) (by omega) Hr1.out Hb1.out).mono ?_
  rintro e wq ⟨⟨u, rfl, hu0, hu1⟩, rfl⟩
  obtain ⟨low, Hlow⟩ : ∃ low, Hid (low = 10 + s) := ⟨_, rfl⟩
  obtain ⟨high, Hhigh⟩ : ∃ high, Hid (high = 10 + s + u) := ⟨_, rfl⟩
  have hb4 : 1 ≤ low ∧ low ≤ 200 ∧ low ≤ high ∧ high ≤ 200 := by rw [Hlow.out, Hhigh.out]; omega
  have Hap := Lib.hid (show apart low high = true from apart_iff.2 ⟨⟨by omega, by omega⟩, by omega, by omega⟩)
  go_wp2_with fail
  rw [← Hhigh.out, ← Hlow.out]
  have Htu := Lib.hid (turned_any a1 N c1' l w1 Hr.out)
  rw [show turnedR l = (l.reverse, 0) by simp [turnedR, Hvs.out]] at Htu
  with_reducible refine Htu.out.mono ?_
  rintro e w2 ⟨v2, rfl, ho2, hb⟩
  obtain ⟨a2, c2, rfl, hr2⟩ := ho2.sliceI
  simp only [List.length_reverse, HN.out] at hr2 ⊢
  replace hB := bstep hB hb (Nat.le_refl _)
  replace Hr := Lib.hid (Hr.out.below hb)
  have Hr2 := Lib.hid hr2
  clear hb ho2 hr2 Htu Hr1
  go_wp2_with fail
  have Htu := Lib.hid (turned_any a2 N c2 l.reverse w2 Hr2.out)
  rw [show turnedR l.reverse = (l, 0) by simp [turnedR, vShape_rev Hvs.out]] at Htu
  with_reducible refine Htu.out.mono ?_
  rintro e w3 ⟨v3, rfl, ho3, hb⟩
  obtain ⟨a3, c3, rfl, hr3⟩ := ho3.sliceI
  simp only [HN.out] at hr3 ⊢
  replace hB := bstep hB hb (Nat.le_refl _)
  replace Hr := Lib.hid (Hr.out.below hb)
  replace Hr2 := Lib.hid (Hr2.out.below hb)
  have Hr3 := Lib.hid hr3
  clear hb ho3 hr3 Htu
  obtain ⟨j, hj, hwd, hmost⟩ := Hwi.out
  have Hmost := Lib.hid hmost
  have Hwid := Lib.hid (widestLevel_any a1 N c1' l w3 Hr.out)
  rw [hwd] at Hwid
  obtain ⟨M, HM⟩ : ∃ M, Hid (M = l.getD j 0) := ⟨_, rfl⟩
  rw [← HM.out] at Hwid Hmost
  have Hsame := Lib.hid (a2Same_yes a3 a1 N c3 c1' l w3 Hr3.out Hr.out)
  have hMj := Hlx.out j hj
  rw [← HM.out] at hMj
  clear hwd hmost Hwi Hr3
  obtain ⟨bq, oq, hq1, hbq, hcq⟩ := Hr.out.cell (show N ≠ 0 by omega)
  subst hq1
  have e1 := hcq j hj
  rw [← HM.out] at e1
  clear hcq
  have t1 : decide ((j : Int) < 0) = false := decide_eq_false (by omega)
  have t2 : decide ((N : Int) ≤ j) = false := decide_eq_false (by omega)
  have hj' : (j : Int) < N := by omega
  go_wp2_with (first
    | (go_at_call 15; (with_reducible refine Hwid.out.mono ?_); rintro e w' ⟨rfl, rfl⟩)
    | (go_at_call 16; (with_reducible refine Hsame.out.mono ?_); rintro e w' ⟨rfl, ms, rfl⟩; have e1 : (w3.drewN ms).cell? ⟨bq, oq + j, none⟩ = some (.int .i64 M) := e1))
  clear e1 t1 t2 Hwid Hsame
  go_loopw [15] (fun i wr => ∃ k m : Nat, k ≤ N ∧ i = .int .i64 k ∧ Hid (wr = w3.drewN m)) (fun i _ => N - (intOf i).toNat)
  case atStart => exact ⟨0, ms, Nat.zero_le _, rfl, rfl⟩
  case round =>
    obtain ⟨k, m, hk, rfl, Hw⟩ := hrel
    generalize wr = wx at *
    have hrv := Hr.out.drewN m
    have hr2 := Hr2.out.drewN m
    rw [← Hw.out] at hrv hr2
    by_cases hkN : k < N
    · obtain ⟨b1, o1, hq1, hb1, hc1⟩ := hrv.cell (show N ≠ 0 by omega)
      obtain ⟨b2, o2, hq2, hb2, hc2⟩ := hr2.cell (show N ≠ 0 by omega)
      simp only [Option.some.injEq, Addr.mk.injEq, and_true] at hq1
      obtain ⟨rfl, rfl⟩ := hq1
      subst hq2
      have e1 := hc1 k hkN
      have e2 := hc2 k hkN
      rw [Hrv.out k hkN] at e2
      have e3 := hc1 (N - 1 - k) (by omega)
      have hmk := Hmost.out k hkN
      have hwi : ((N : Int) - 1 - k).toNat = N - 1 - k := by omega
      have hw1 : IntKind.i64.wrap ((N : Int) - 1) = (N : Int) - 1 := IntWalk.i64_in _ (by omega)
      have hw2 : IntKind.i64.wrap ((N : Int) - 1 - k) = ((N - 1 - k : Nat) : Int) := by rw [IntWalk.i64_in _ (by omega)]; omega
      have hix : ((N - 1 - k : Nat) : Int) < N := by omega
      have hkN' : (k : Int) < N := by omega
      have t1 : decide (M < l.getD k 0) = false := decide_eq_false (by omega)
      clear hc1 hc2 hrv hr2
      generalize hz : l.getD (N - 1 - k) 0 = z at *
      clear hz
      generalize N - 1 - k = kr at *
      by_cases hMk : l.getD k 0 = M
      · have t2 : (l.getD k 0 == M) = true := beq_iff_eq.2 hMk
        have t3 : decide ((k : Int) < j) = false := decide_eq_false (by have := hmk.2 hMk; omega)
        have t3' : decide (k < j) = false := decide_eq_false (by have := hmk.2 hMk; omega)
        rw [hMk] at e1
        clear hMk hmk t1 t2
        go_wp2_with fail
        go_quiet (fail)
        go_wp2
        go_roundw
        case rel => exact ⟨k + 1, m + nq, by omega, by go_num, Lib.hid (by rw [Hw.out, World.drewN_drewN])⟩
        case measure => simp [intOf]; omega
      · have t2 : (l.getD k 0 == M) = false := beq_eq_false_iff_ne.2 hMk
        generalize l.getD k 0 = x at *
        clear hMk hmk
        go_wp2_with fail
        go_quiet (fail)
        go_wp2
        go_roundw
        case rel => exact ⟨k + 1, m + nq, by omega, by go_num, Lib.hid (by rw [Hw.out, World.drewN_drewN])⟩
        case measure => simp [intOf]; omega
    · have hkN : k = N := by omega
      subst hkN
      have hBx : Below w.heap.size w wx := by rw [Hw.out]; exact bdrewN hB m
      have Hrx := Lib.hid hrv
      have Hr2x := Lib.hid hr2
      have HBx := Lib.hid hBx
      clear hB hBx hrv hr2 Hr Hr2 Hlx Hmost HM
      have Hp1 := Lib.hid (stakePlan_any (some ⟨bq, oq, none⟩) k c1' l low high wx Hrx.out)
      have Hlz := Lib.hid (fun q (hq : q < k) => vShape_at Hvs.out (k := q) (by rw [HN.out]; exact hq))
      have Hmr := Lib.hid (minC_rev (l := l) (low := low) (high := high) (by rw [HN.out]; omega))
      by_cases hbig : minC l low high < bigC
      · have hbig2 : minC l.reverse low high < bigC := by rw [Hmr.out (.inl hbig)]; exact hbig
        obtain ⟨P, hp1, hp2, hp3⟩ := plan_change Hvs.out Hap.out hbig
        obtain ⟨R, hr1, hr2, hr3⟩ := plan_change (vShape_rev Hvs.out) Hap.out hbig2
        rw [Hmr.out (.inl hbig)] at hr3
        rw [List.length_reverse] at hr2
        rw [HN.out] at hp2 hr2
        rw [hp1] at Hp1
        generalize minC l low high = X at *
        have Hp3 := Lib.hid hp3
        have Hr3 := Lib.hid hr3
        clear hbig hbig2 Hmr hp1 hp3 hr3
        go_wp2_with fail
        with_reducible refine Hp1.out.mono ?_
        rintro e w4 ⟨v4, rfl, ho4, hb⟩
        obtain ⟨a4, c4, rfl, hr4⟩ := ho4.sliceI
        simp only [List.length_map, hp2] at hr4 ⊢
        have HBy := Lib.hid (bstep HBx.out hb (Nat.le_refl _))
        have Hry := Lib.hid (Hrx.out.below hb)
        have Hr2y := Lib.hid (Hr2x.out.below hb)
        have Hr4 := Lib.hid hr4
        clear ho4 hb hr4 Hp1 Hrx Hr2x HBx
        have Hp2 := Lib.hid (stakePlan_any a2 k c2 l.reverse low high w4 Hr2y.out)
        rw [hr1] at Hp2
        go_wp2_with fail
        with_reducible refine Hp2.out.mono ?_
        rintro e w5 ⟨v5, rfl, ho5, hb⟩
        obtain ⟨a5, c5, rfl, hr5⟩ := ho5.sliceI
        simp only [List.length_map, hr2] at hr5 ⊢
        replace HBy := Lib.hid (bstep HBy.out hb (Nat.le_refl _))
        replace Hry := Lib.hid (Hry.out.below hb)
        replace Hr4 := Lib.hid (Hr4.out.below hb)
        have Hr5 := Lib.hid hr5
        clear ho5 hb hr5 Hp2 Hr2y hr1
        have Hc4 := Lib.hid (specChangesOf_any a4 k c4 (P.map (fun k : Nat => (k : Int))) w5 Hr4.out)
        rw [Hp3.out] at Hc4
        go_wp2_with fail
        with_reducible refine Hc4.out.mono ?_
        rintro e w6 ⟨rfl, m6, rfl⟩
        have Hc5 := Lib.hid (specChangesOf_any a5 k c5 (R.map (fun k : Nat => (k : Int))) (w5.drewN m6) (Hr5.out.drewN m6))
        rw [Hr3.out] at Hc5
        go_wp2_with fail
        with_reducible refine Hc5.out.mono ?_
        rintro e w7 ⟨rfl, m7, rfl⟩
        have HBz := Lib.hid (bdrewN (bdrewN HBy.out m6) m7)
        have Hrz := Lib.hid ((Hry.out.drewN m6).drewN m7)
        generalize (w5.drewN m6).drewN m7 = wz at *
        clear Hc4 Hc5 Hr4 Hr5 Hry HBy Hp3 Hr3
        have Hlb := Lib.hid (levelsBetween_any (some ⟨bq, oq, none⟩) k c1' l wz Hrz.out)
        by_cases h6 : 6 < k
        · rw [show betweenR l = ([], 5) by simp [betweenR, Hvs.out, HN.out, h6]] at Hlb
          have t9 : decide ((12 : Int) < 2 * (k : Int) - 1) = true := decide_eq_true (by omega)
          go_wp2_with (go_at_call 18; (with_reducible refine Hlb.out.mono ?_); rintro e w8 ⟨v8, rfl, ho8, hb8⟩; have HB8 := Lib.hid (bstep HBz.out hb8 (Nat.le_refl _)); clear ho8 hb8)
          go_ret
          exact ⟨rfl, HB8.out⟩
        · rw [show betweenR l = (betw l k, 0) by simp [betweenR, Hvs.out, HN.out, h6]] at Hlb
          have t9 : decide ((12 : Int) < 2 * (k : Int) - 1) = false := decide_eq_false (by omega)
          have hbl : (betw l k).length = 2 * k - 1 := betw_length l k
          obtain ⟨be1, be2⟩ := betw_at l k
          have Hbe1 := Lib.hid be1
          have Hbe2 := Lib.hid be2
          obtain ⟨BW, HBW⟩ : ∃ BW, Hid (BW = betw l k) := ⟨_, rfl⟩
          rw [← HBW.out] at Hlb Hbe1 Hbe2 hbl
          obtain ⟨K2, HK2⟩ : ∃ K2 : Nat, Hid (K2 = 2 * k - 1) := ⟨_, rfl⟩
          rw [← HK2.out] at hbl
          have hK2 : K2 ≤ 11 ∧ (K2 : Int) = 2 * (k : Int) - 1 := by have := HK2.out; omega
          have t10 : ((K2 : Int) != 2 * (k : Int) - 1) = false := bne_eq_false_iff_eq.2 hK2.2
          clear be1 be2
          go_wp2_with fail
          with_reducible refine Hlb.out.mono ?_
          rintro e w8 ⟨v8, rfl, ho8, hb8⟩
          obtain ⟨a8, c8, rfl, hr8⟩ := ho8.sliceI
          simp only [hbl] at hr8 ⊢
          have HB8 := Lib.hid (bstep HBz.out hb8 (Nat.le_refl _))
          have Hr8 := Lib.hid hr8
          have Hrl := Lib.hid (Hrz.out.below hb8)
          clear ho8 hb8 hr8 Hlb
          go_wp2_with fail
          go_loopw [26] (fun i wr => ∃ q m : Nat, q ≤ K2 ∧ i = .int .i64 q ∧ Hid (wr = w8.drewN m)) (fun i _ => K2 - (intOf i).toNat)
          case atStart => exact ⟨0, 0, Nat.zero_le _, rfl, rfl⟩
          case round =>
            obtain ⟨q, m, hq, rfl, Hw⟩ := hrel
            generalize wr = wv at *
            by_cases hqK : q < K2
            · have hrv := Hrl.out.drewN m
              have hr8 := Hr8.out.drewN m
              rw [← Hw.out] at hrv hr8
              obtain ⟨b1, o1, hq1, hb1, hc1⟩ := hrv.cell (show k ≠ 0 by omega)
              obtain ⟨b8, o8, hq8, hb8, hc8⟩ := hr8.cell (show K2 ≠ 0 by omega)
              simp only [Option.some.injEq, Addr.mk.injEq, and_true] at hq1
              obtain ⟨rfl, rfl⟩ := hq1
              subst hq8
              have e8 := hc8 q hqK
              have hqK' : (q : Int) < K2 := by omega
              have m1 : (q : Int).tmod 2 = (q : Int) % 2 := Int.tmod_eq_emod_of_nonneg (by omega)
              have m2 : (q : Int).tdiv 2 = (q : Int) / 2 := Int.tdiv_eq_ediv_of_nonneg (by omega)
              by_cases hpar : q % 2 = 0
              · obtain ⟨h, rfl⟩ : ∃ h, q = 2 * h := ⟨q / 2, by omega⟩
                have hhk : h < k := by have := HK2.out; omega
                rw [Hbe1.out h hhk] at e8
                have e1 := hc1 h hhk
                rw [show ((2 * h : Nat) : Int) % 2 = 0 by omega] at m1
                rw [show ((2 * h : Nat) : Int) / 2 = (h : Int) by omega] at m2
                have m3 : IntKind.i64.wrap (((2 * h : Nat) : Int).tdiv 2) = (h : Int) := by rw [m2]; exact IntWalk.i64_in _ (by omega)
                have m4 : IntKind.i64.wrap (((2 * h : Nat) : Int).tmod 2) = 0 := by rw [m1]; rfl
                have hhk' : (h : Int) < k := by omega
                clear hc1 hc8 hrv hr8 hpar
                generalize l.getD h 0 = x at *
                generalize hQ : 2 * h = Q at *
                go_wp2_with fail
                go_quiet (fail)
                go_wp2
                go_roundw
                case rel => exact ⟨Q + 1, m + nq, by omega, by go_num, Lib.hid (by rw [Hw.out, World.drewN_drewN])⟩
                case measure => simp [intOf]; omega
              · obtain ⟨h, rfl⟩ : ∃ h, q = 2 * h + 1 := ⟨q / 2, by omega⟩
                have hhk : h + 1 < k := by have := HK2.out; omega
                rw [Hbe2.out h hhk] at e8
                have e1 := hc1 h (by omega)
                have e2 := hc1 (h + 1) hhk
                have x1 := Hlz.out h (by omega)
                have x2 := Hlz.out (h + 1) hhk
                rw [show ((2 * h + 1 : Nat) : Int) % 2 = 1 by omega] at m1
                rw [show ((2 * h + 1 : Nat) : Int) / 2 = (h : Int) by omega] at m2
                have m3 : IntKind.i64.wrap (((2 * h + 1 : Nat) : Int).tdiv 2) = (h : Int) := by rw [m2]; exact IntWalk.i64_in _ (by omega)
                have m4 : IntKind.i64.wrap (((2 * h + 1 : Nat) : Int).tmod 2) = 1 := by rw [m1]; rfl
                have m5 : IntKind.i64.wrap ((h : Int) + 1) = (h : Int) + 1 := IntWalk.i64_in _ (by omega)
                have m6 : ((h : Int) + 1).toNat = h + 1 := by omega
                have m7 : (0 : Int) ≤ (h : Int) + 1 := by omega
                have hhk' : (h : Int) < k := by omega
                have hhk2 : (h : Int) + 1 < k := by omega
                clear hc1 hc8 hrv hr8 hpar
                generalize l.getD (h + 1) 0 = y at *
                generalize l.getD h 0 = x at *
                have m8 := IntWalk.i64_in (x + y) (by omega)
                have m9 : IntKind.i64.wrap ((x + y).tdiv 2) = (x + y) / 2 := by rw [Int.tdiv_eq_ediv_of_nonneg (by omega)]; exact IntWalk.i64_in _ (by omega)
                have m10 : (x + y).tdiv 2 = (x + y) / 2 := Int.tdiv_eq_ediv_of_nonneg (by omega)
                generalize hQ : 2 * h + 1 = Q at *
                go_wp2_with fail
                go_quiet (fail)
                go_wp2
                go_roundw
                case rel => exact ⟨Q + 1, m + nq, by omega, by go_num, Lib.hid (by rw [Hw.out, World.drewN_drewN])⟩
                case measure => simp [intOf]; omega
            · have hBv : Below w.heap.size w wv := by rw [Hw.out]; exact bdrewN HB8.out m
              go_wp2
              go_ret
              exact ⟨rfl, hBv⟩
      · have hbig2 : ¬ minC l.reverse low high < bigC := fun h => hbig (by rw [← Hmr.out (.inr h)]; exact h)
        rw [plan_none Hvs.out Hap.out hbig] at Hp1
        have hr1 := plan_none (vShape_rev Hvs.out) Hap.out hbig2
        clear hbig hbig2 Hmr
        have hch : changesR [] = (0, 0) := by rfl
        go_wp2_with fail
        with_reducible refine Hp1.out.mono ?_
        rintro e w4 ⟨v4, rfl, ho4, hb⟩
        obtain ⟨a4, c4, rfl, hr4⟩ := ho4.sliceI
        simp only [List.length_nil] at hr4 ⊢
        have HBy := Lib.hid (bstep HBx.out hb (Nat.le_refl _))
        have Hry := Lib.hid (Hrx.out.below hb)
        have Hr2y := Lib.hid (Hr2x.out.below hb)
        have Hr4 := Lib.hid hr4
        clear ho4 hb hr4 Hp1 Hrx Hr2x HBx
        have Hp2 := Lib.hid (stakePlan_any a2 k c2 l.reverse low high w4 Hr2y.out)
        rw [hr1] at Hp2
        go_wp2_with fail
        with_reducible refine Hp2.out.mono ?_
        rintro e w5 ⟨v5, rfl, ho5, hb⟩
        obtain ⟨a5, c5, rfl, hr5⟩ := ho5.sliceI
        simp only [List.length_nil] at hr5 ⊢
        replace HBy := Lib.hid (bstep HBy.out hb (Nat.le_refl _))
        replace Hry := Lib.hid (Hry.out.below hb)
        replace Hr4 := Lib.hid (Hr4.out.below hb)
        have Hr5 := Lib.hid hr5
        clear ho5 hb hr5 Hp2 Hr2y hr1
        have Hc4 := Lib.hid (specChangesOf_any a4 0 c4 [] w5 Hr4.out)
        rw [hch] at Hc4
        go_wp2_with fail
        with_reducible refine Hc4.out.mono ?_
        rintro e w6 ⟨rfl, m6, rfl⟩
        have Hc5 := Lib.hid (specChangesOf_any a5 0 c5 [] (w5.drewN m6) (Hr5.out.drewN m6))
        rw [hch] at Hc5
        go_wp2_with fail
        with_reducible refine Hc5.out.mono ?_
        rintro e w7 ⟨rfl, m7, rfl⟩
        have HBz := Lib.hid (bdrewN (bdrewN HBy.out m6) m7)
        have Hrz := Lib.hid ((Hry.out.drewN m6).drewN m7)
        generalize (w5.drewN m6).drewN m7 = wz at *
        clear Hc4 Hc5 Hr4 Hr5 Hry HBy hch
        have Hlb := Lib.hid (levelsBetween_any (some ⟨bq, oq, none⟩) k c1' l wz Hrz.out)
        by_cases h6 : 6 < k
        · rw [show betweenR l = ([], 5) by simp [betweenR, Hvs.out, HN.out, h6]] at Hlb
          have t9 : decide ((12 : Int) < 2 * (k : Int) - 1) = true := decide_eq_true (by omega)
          go_wp2_with (go_at_call 18; (with_reducible refine Hlb.out.mono ?_); rintro e w8 ⟨v8, rfl, ho8, hb8⟩; have HB8 := Lib.hid (bstep HBz.out hb8 (Nat.le_refl _)); clear ho8 hb8)
          go_ret
          exact ⟨rfl, HB8.out⟩
        · rw [show betweenR l = (betw l k, 0) by simp [betweenR, Hvs.out, HN.out, h6]] at Hlb
          have t9 : decide ((12 : Int) < 2 * (k : Int) - 1) = false := decide_eq_false (by omega)
          have hbl : (betw l k).length = 2 * k - 1 := betw_length l k
          obtain ⟨be1, be2⟩ := betw_at l k
          have Hbe1 := Lib.hid be1
          have Hbe2 := Lib.hid be2
          obtain ⟨BW, HBW⟩ : ∃ BW, Hid (BW = betw l k) := ⟨_, rfl⟩
          rw [← HBW.out] at Hlb Hbe1 Hbe2 hbl
          obtain ⟨K2, HK2⟩ : ∃ K2 : Nat, Hid (K2 = 2 * k - 1) := ⟨_, rfl⟩
          rw [← HK2.out] at hbl
          have hK2 : K2 ≤ 11 ∧ (K2 : Int) = 2 * (k : Int) - 1 := by have := HK2.out; omega
          have t10 : ((K2 : Int) != 2 * (k : Int) - 1) = false := bne_eq_false_iff_eq.2 hK2.2
          clear be1 be2
          go_wp2_with fail
          with_reducible refine Hlb.out.mono ?_
          rintro e w8 ⟨v8, rfl, ho8, hb8⟩
          obtain ⟨a8, c8, rfl, hr8⟩ := ho8.sliceI
          simp only [hbl] at hr8 ⊢
          have HB8 := Lib.hid (bstep HBz.out hb8 (Nat.le_refl _))
          have Hr8 := Lib.hid hr8
          have Hrl := Lib.hid (Hrz.out.below hb8)
          clear ho8 hb8 hr8 Hlb
          go_wp2_with fail
          go_loopw [26] (fun i wr => ∃ q m : Nat, q ≤ K2 ∧ i = .int .i64 q ∧ Hid (wr = w8.drewN m)) (fun i _ => K2 - (intOf i).toNat)
          case atStart => exact ⟨0, 0, Nat.zero_le _, rfl, rfl⟩
          case round =>
            obtain ⟨q, m, hq, rfl, Hw⟩ := hrel
            generalize wr = wv at *
            by_cases hqK : q < K2
            · have hrv := Hrl.out.drewN m
              have hr8 := Hr8.out.drewN m
              rw [← Hw.out] at hrv hr8
              obtain ⟨b1, o1, hq1, hb1, hc1⟩ := hrv.cell (show k ≠ 0 by omega)
              obtain ⟨b8, o8, hq8, hb8, hc8⟩ := hr8.cell (show K2 ≠ 0 by omega)
              simp only [Option.some.injEq, Addr.mk.injEq, and_true] at hq1
              obtain ⟨rfl, rfl⟩ := hq1
              subst hq8
              have e8 := hc8 q hqK
              have hqK' : (q : Int) < K2 := by omega
              have m1 : (q : Int).tmod 2 = (q : Int) % 2 := Int.tmod_eq_emod_of_nonneg (by omega)
              have m2 : (q : Int).tdiv 2 = (q : Int) / 2 := Int.tdiv_eq_ediv_of_nonneg (by omega)
              by_cases hpar : q % 2 = 0
              · obtain ⟨h, rfl⟩ : ∃ h, q = 2 * h := ⟨q / 2, by omega⟩
                have hhk : h < k := by have := HK2.out; omega
                rw [Hbe1.out h hhk] at e8
                have e1 := hc1 h hhk
                rw [show ((2 * h : Nat) : Int) % 2 = 0 by omega] at m1
                rw [show ((2 * h : Nat) : Int) / 2 = (h : Int) by omega] at m2
                have m3 : IntKind.i64.wrap (((2 * h : Nat) : Int).tdiv 2) = (h : Int) := by rw [m2]; exact IntWalk.i64_in _ (by omega)
                have m4 : IntKind.i64.wrap (((2 * h : Nat) : Int).tmod 2) = 0 := by rw [m1]; rfl
                have hhk' : (h : Int) < k := by omega
                clear hc1 hc8 hrv hr8 hpar
                generalize l.getD h 0 = x at *
                generalize hQ : 2 * h = Q at *
                go_wp2_with fail
                go_quiet (fail)
                go_wp2
                go_roundw
                case rel => exact ⟨Q + 1, m + nq, by omega, by go_num, Lib.hid (by rw [Hw.out, World.drewN_drewN])⟩
                case measure => simp [intOf]; omega
              · obtain ⟨h, rfl⟩ : ∃ h, q = 2 * h + 1 := ⟨q / 2, by omega⟩
                have hhk : h + 1 < k := by have := HK2.out; omega
                rw [Hbe2.out h hhk] at e8
                have e1 := hc1 h (by omega)
                have e2 := hc1 (h + 1) hhk
                have x1 := Hlz.out h (by omega)
                have x2 := Hlz.out (h + 1) hhk
                rw [show ((2 * h + 1 : Nat) : Int) % 2 = 1 by omega] at m1
                rw [show ((2 * h + 1 : Nat) : Int) / 2 = (h : Int) by omega] at m2
                have m3 : IntKind.i64.wrap (((2 * h + 1 : Nat) : Int).tdiv 2) = (h : Int) := by rw [m2]; exact IntWalk.i64_in _ (by omega)
                have m4 : IntKind.i64.wrap (((2 * h + 1 : Nat) : Int).tmod 2) = 1 := by rw [m1]; rfl
                have m5 : IntKind.i64.wrap ((h : Int) + 1) = (h : Int) + 1 := IntWalk.i64_in _ (by omega)
                have m6 : ((h : Int) + 1).toNat = h + 1 := by omega
                have m7 : (0 : Int) ≤ (h : Int) + 1 := by omega
                have hhk' : (h : Int) < k := by omega
                have hhk2 : (h : Int) + 1 < k := by omega
                clear hc1 hc8 hrv hr8 hpar
                generalize l.getD (h + 1) 0 = y at *
                generalize l.getD h 0 = x at *
                have m8 := IntWalk.i64_in (x + y) (by omega)
                have m9 : IntKind.i64.wrap ((x + y).tdiv 2) = (x + y) / 2 := by rw [Int.tdiv_eq_ediv_of_nonneg (by omega)]; exact IntWalk.i64_in _ (by omega)
                have m10 : (x + y).tdiv 2 = (x + y) / 2 := Int.tdiv_eq_ediv_of_nonneg (by omega)
                generalize hQ : 2 * h + 1 = Q at *
                go_wp2_with fail
                go_quiet (fail)
                go_wp2
                go_roundw
                case rel => exact ⟨Q + 1, m + nq, by omega, by go_num, Lib.hid (by rw [Hw.out, World.drewN_drewN])⟩
                case measure => simp [intOf]; omega
            · have hBv : Below w.heap.size w wv := by rw [Hw.out]; exact bdrewN HB8.out m
              go_wp2
              go_ret
              exact ⟨rfl, hBv⟩

set_option maxRecDepth 100000 in
theorem lifted (os : Os) (started : os.Started) (H : Type) (enc : TypeId × Value → H) :
    ReturnsInHanded {} Try.checked os 4 .any (Rows.fnShapeTurnsSpec.pre6 enc Try.prog Try.f4 Rows.fnShapeTurnsRow.domain false) (Rows.fnShapeTurnsSpec.post enc Try.prog Try.f4 false true false false) := by
  refine returnsInHanded_of_change (C := Try.checked) own started (by kernel_rfl) Try.func4
    (ChangeSpec.witness6 (enc := enc) (C := Try.checked) false ⟨#[], #[.slice none 0 0, .slice none 0 0], []⟩ 8 (by kernel_rfl) (by kernel_rfl) (by kernel_rfl) (by kernel_rfl)) ?_
  intro W base args ds gs before hval0 hW hcnd _
  have hval : ∀ (j : Nat) t v, Try.f4.params[j]? = some t → args[j]? = some v → Value.okWide Try.prog W .any base t v := hval0
  have hW' := hW
  obtain ⟨p, q, hA0, hV, rfl, hfz, hnd⟩ := hW
  have hA : DataW.TrodAll enc Try.prog W 0 (fun _ => true) true Try.f4.params.toList args.toList ds p := hA0
  rw [Try.params4] at hA hval
  obtain ⟨v0, vs0, d0, ds0, pP0, qQ0, hargs, rfl, rfl, k0, e0⟩ := trodAll_cons hA
  obtain ⟨v1, vs1, d1, ds1, pP1, qQ1, rfl, rfl, rfl, k1, e1⟩ := trodAll_cons e0
  obtain ⟨rfl, rfl, rfl⟩ := trodAll_nil e1
  obtain rfl : args = #[v0, v1] := by cases args; simp_all
  obtain ⟨rfl, rfl⟩ := trodVars_none hV
  have l0 := arg_lt k0
  have l1 := arg_lt k1
  obtain ⟨p0, n0, c0, x0, rfl, r0, b0⟩ := arg_bytes (hval 0 _ v0 rfl rfl) k0
  obtain ⟨p1, n1, c1, x1, rfl, r1, b1⟩ := arg_bytes (hval 1 _ v1 rfl rfl) k1
  clear hA0 hval0
  refine (walk W p0 n0 c0 x0 r0 b0 p1 n1 c1 x1 r1 b1).mono fun e W' ⟨he, bel⟩ => ?_
  subst he
  exact ⟨_, rfl, _, _, _, [], _, [], hW', trodAll_mk1 (shut_bool Try.underlying4 _), (trodAll_cons_mk (Below.trod laidOut (by kernel_rfl) (of_decide_eq_true (by kernel_rfl)) k0 bel l0) (trodAll_cons_mk (Below.trod laidOut (by kernel_rfl) (of_decide_eq_true (by kernel_rfl)) k1 bel l1) trodAll_mk0)), rfl, bel.frame _, fun h => by cases h⟩

theorem over : Rows.fnShapeTurnsRow.holds Try.pinned (OpenSpec.ofChange Rows.fnShapeTurnsSpec) :=
  OpenClaim.holds_of_wide 4 Try.f4 rfl rfl rfl rfl rfl rfl rfl ⟨rfl, rfl, rfl, rfl, rfl⟩ rfl rfl rfl rfl rfl (by kernel_rfl) Try.func4 (by kernel_rfl)
    (of_decide_eq_true (by kernel_rfl)) (by unfold Func.isWrapper; first | (rw [if_pos (by decide +kernel)]; kernel_rfl) | (rw [if_neg (by decide +kernel)]; exact ⟨rfl, rfl⟩))
    (fun os started H enc _ => lifted os started H enc)

/-- the statement -/
theorem proved : Rows.FnShapeTurnsSaid := over
#print axioms proved
end Go.Proofs.Ytkglcfeopicakaa.fnShapeTurns
