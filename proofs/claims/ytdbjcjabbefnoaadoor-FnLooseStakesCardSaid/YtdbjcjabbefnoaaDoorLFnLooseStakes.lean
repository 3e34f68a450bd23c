/-
  Proved here: the law FnLooseStakes answers true at every input, and leaves its arguments as they were. No condition.
-/
import Derived.Test.YtdbjcjabbefnoaaDoorFrame
import Derived.Test.YtdbjcjabbefnoaaDoorTie
import Derived.Test.YtdbjcjabbefnoaaDoorCards
import Derived.Lay
import Derived.SevenTiedAt
import Derived.LaidMore
import Derived.Stop.Joined
import Derived.Test.YtdbjcjabbefnoaaDoorWeaveFn
namespace Go.Proofs.YtdbjcjabbefnoaaDoor.fnLooseStakes
open Go.ChangeShapes Go.WideShapes Go.ChangeAt Go.RowKit
set_option linter.unusedVariables false

set_option maxHeartbeats 16000000 in
set_option maxRecDepth 100000 in
theorem walk (w : World) (p0 : Option Addr) (n0 c0 : Nat) (x0 : List Int) (r0 : RV w p0 n0 c0 (x0.map (.int .u8))) (b0 : ∀ x ∈ x0, 0 ≤ x ∧ x ≤ 255) (p1 : Option Addr) (n1 c1 : Nat) (x1 : List Int) (r1 : RV w p1 n1 c1 (x1.map (.int .u8))) (b1 : ∀ x ∈ x1, 0 ≤ x ∧ x ≤ 255) :
    Calls Tryd.prog 3 #[.slice p0 n0 c0, .slice p1 n1 c1] w fun e w' => e = .returned (.bool true) ∧ Below w.heap.size w w' := by
  by_cases hlong : ¬ (n0 ≤ 3000 ∧ n1 ≤ 3000)
  · go_enter Tryd.func3, Tryd.ntmps3
    go_wp2_with (go_at_call 5; refine (a2Long_yes _ _ _ _ _ _ _ hlong).mono ?_; rintro e w' ⟨rfl, rfl⟩)
    go_ret
    exact ⟨rfl, Below.refl _ _⟩
  obtain ⟨hl0, hl1⟩ := Decidable.not_not.1 hlong
  clear hlong
  have hB : Below w.heap.size w w := Below.refl _ _
  have Hb1 := Lib.hid b1
  go_enter Tryd.func3, Tryd.ntmps3
  go_wp2_with fail
  with_reducible refine (a2Long_no _ _ _ _ _ _ _ hl0 hl1).mono ?_
  rintro e wq ⟨rfl, rfl⟩
  go_wp2_with fail
  with_reducible refine (A2Stroke_any _ _ _ _ _ r0 b0).mono ?_
  rintro e w1 ⟨S, rfl, hs1, hs2, htw, hb⟩
  replace hB := bstep hB hb (Nat.le_refl _)
  clear hb
  have Hr1 := Lib.hid (RV.below r1 hB)
  clear r0 b0 r1 b1
  go_wp2_with fail
  with_reducible refine (a2At_any _ _ _ _ _ _ _ (by omega) (by omega) Hr1.out Hb1.out).mono ?_
  rintro e wq ⟨⟨s, rfl, hs0, hs1'⟩, rfl⟩
  go_wp2_with fail
  with_reducible refine (a2At_any _ _ _ _ _ _ _ (by omega) (by omega) Hr1.out Hb1.out).mono ?_
  rintro e wq ⟨⟨u, rfl, hu0, hu1⟩, rfl⟩
  obtain ⟨m, hm⟩ : ∃ m : Nat, 3 + s = (m : Int) := ⟨(3 + s).toNat, by omega⟩
  obtain ⟨fl, hfl⟩ : ∃ fl : Int, 1 + u = fl := ⟨_, rfl⟩
  have Hm := Lib.hid hm
  have Hfl := Lib.hid hfl
  have hm3 : 3 ≤ m ∧ m ≤ 18 := by omega
  have hf4 : 1 ≤ fl ∧ fl ≤ 4 := by omega
  obtain ⟨n, hn⟩ : ∃ n : Nat, n + 2 = m := ⟨m - 2, by omega⟩
  obtain ⟨l, Hl⟩ : ∃ l, Hid (l = S.data.toList) := ⟨_, rfl⟩
  have Hll := Lib.hid (show l.length = S.size by rw [Hl.out, size_list])
  have hvs : vS l = true := vS_iff.2 ⟨by rw [Hll.out]; omega, by rw [Hll.out]; omega, by rw [Hl.out]; exact htw⟩
  have Htw := Lib.hid (show two 70 66 l = true by rw [Hl.out]; exact htw)
  have hfi : inB fl 1 12 = true := inB_iff.2 ⟨by omega, by omega⟩
  obtain ⟨Lo, HLo⟩ : ∃ Lo, Hid (Lo = looseTo l m m) := ⟨_, rfl⟩
  obtain ⟨Q, HQ⟩ : ∃ Q, Hid (Q = soundTo l fl n) := ⟨_, rfl⟩
  have hml : S.size ≤ maxLen := by unfold maxLen; omega
  have HLs := Lib.hid (fun W => show Calls Tryd.prog 8 #[.string S, .int .i64 m] W (RetL W 2 (Lo, 0)) by
    have h := LooseStakes_any S m W hml
    rw [← Hl.out, looseR_code, if_pos (codeW_at hvs (by omega) (by omega)), Int.toNat_natCast, ← HLo.out] at h
    exact h)
  have HSt := Lib.hid (fun W => LongestStack_any S m W (by rw [← Hl.out]; exact hvs) (by omega) (by omega))
  have HSo := Lib.hid (fun W => show Calls Tryd.prog 10 #[.string S, .int .i64 fl, .int .i64 m] W (RetL W 2 (Q, 0)) by
    have h := SoundStakes_any S fl m W hml
    rw [← Hl.out, soundR_code, if_pos (show floatW l m fl = 0 by unfold floatW; rw [if_pos (codeW_at hvs (by omega) (by omega)), if_pos hfi]), show ((m : Int) - 2).toNat = n by omega, ← HQ.out] at h
    exact h)
  obtain ⟨B, HB4⟩ : ∃ B : Nat → Bool, Hid (∀ k, B k = soundW l (k + 3) fl) := ⟨_, fun _ => rfl⟩
  have HIs := Lib.hid (fun (k : Nat) (hk : k < n) W => show Calls Tryd.prog 13 #[.string S, .int .i64 (k + 3 : Nat), .int .i64 fl] W fun e w' => e = .returned (.tuple #[.bool (B k), .int .i64 0]) ∧ Below W.heap.size W w' by
    have h := specIsSound_any S (k + 3) fl W (by rw [← Hl.out]; exact hvs) (by omega) (by omega) hfi
    rw [← Hl.out, ← HB4.out k] at h
    exact h)
  rw [← Hl.out, ← HLo.out] at HSt
  go_wp2_with fail
  with_reducible refine (HLs.out _).mono ?_
  rintro e w2 ⟨v2, rfl, ho2, hb⟩
  obtain ⟨a2, c2, rfl, hr2⟩ := ho2.sliceI
  replace hB := bstep hB hb (Nat.le_refl _)
  have Hr2 := Lib.hid hr2
  clear hb ho2 hr2
  obtain ⟨N, hN⟩ : ∃ N, Lo.length = N := ⟨_, rfl⟩
  rw [hN] at Hr2 HSt ⊢
  go_wp2_with fail
  with_reducible refine (HSt.out _).mono ?_
  rintro e w3 ⟨x, c, rfl, hcA, hcB, hb⟩
  replace hB := bstep hB hb (Nat.le_refl _)
  replace Hr2 := Lib.hid (Hr2.out.below hb)
  clear hb
  go_wp2_with fail
  with_reducible refine (HSo.out _).mono ?_
  rintro e w4 ⟨v4, rfl, ho4, hb⟩
  obtain ⟨a4, c4, rfl, hr4⟩ := ho4.sliceI
  replace hB := bstep hB hb (Nat.le_refl _)
  replace Hr2 := Lib.hid (Hr2.out.below hb)
  have Hr4 := Lib.hid hr4
  have HB := Lib.hid hB
  clear hb ho4 hr4 hB HLs HSt HSo
  obtain ⟨NQ, hNQ⟩ : ∃ NQ, Q.length = NQ := ⟨_, rfl⟩
  rw [hNQ] at Hr4 ⊢
  have hNQ2 : NQ ≤ 18 := by rw [← hNQ, HQ.out]; have := soundTo_len l fl n; omega
  have hN2 : N ≤ 18 := by rw [← hN, HLo.out]; have := looseTo_len l m m; omega
  have Hin := Lib.hid (fun k (hk : k < N) => show 0 ≤ Lo.getD k 0 ∧ Lo.getD k 0 < m by rw [HLo.out] at hN ⊢; exact loose_in (by rw [hN]; exact hk))
  have Hup := Lib.hid (fun k (hk : k + 1 < N) => show Lo.getD k 0 < Lo.getD (k + 1) 0 by rw [HLo.out] at hN ⊢; exact pair_get (looseTo_pair l m m) (by rw [hN]; exact hk))
  have Hin4 := Lib.hid (fun k (hk : k < NQ) => show 3 ≤ Q.getD k 0 ∧ Q.getD k 0 ≤ m by rw [HQ.out] at hNQ ⊢; have := sound_in (l := l) (fl := fl) (m := n) (k := k) (by rw [hNQ]; exact hk); omega)
  have Hup4 := Lib.hid (fun k (hk : k + 1 < NQ) => show Q.getD k 0 < Q.getD (k + 1) 0 by rw [HQ.out] at hNQ ⊢; exact pair_get (soundTo_pair l fl n) (by rw [hNQ]; exact hk))
  have Hhas := Lib.hid (fun k (hk : k < m) => show decide ((k : Int) ∈ Lo) = looseK l m k by rw [HLo.out]; exact loose_has hk)
  have Hhas4 := Lib.hid (fun k (hk : k < n) => show decide (((k + 3 : Nat) : Int) ∈ Q) = B k by rw [HQ.out, HB4.out]; exact sound_has hk)
  clear hN hNQ hvs hfi hml htw hm hfl
  go_upto_region 9 with fail
  go_cut [93] (fun sq wc => sq = .bool false ∧ ∃ q, Hid (wc = w4.drewN q))
  case first => as_aux_lemma =>
    by_cases hL : N = 0
    · obtain ⟨rfl, hx1, hx2⟩ := hcA hL
      have y1 : decide (x < 1) = false := decide_eq_false (by omega)
      have y2 : decide ((S.size : Int) < x) = false := decide_eq_false (by omega)
      clear hcA hcB
      subst hL
      go_wp2_with (go_at_call 11; (with_reducible refine (a2Rises_yes _ _ _ _ _ _ Hr2.out Hin.out Hup.out).mono ?_); rintro e w5 ⟨rfl, q, hq⟩)
      go_meet
      exact ⟨rfl, q, Lib.hid rfl⟩
    · obtain rfl := hcB hL
      have y1 : ((N : Int) == 0) = false := by simp; omega
      have y2 : (N == 0) = false := by simp [hL]
      clear hcA hcB hL
      go_wp2_with (go_at_call 11; (with_reducible refine (a2Rises_yes _ _ _ _ _ _ Hr2.out Hin.out Hup.out).mono ?_); rintro e w5 ⟨rfl, q, hq⟩)
      go_meet
      exact ⟨rfl, q, Lib.hid rfl⟩
  obtain ⟨rfl, q0, Hwc⟩ := hcut
  replace HB := Lib.hid (show Below w.heap.size w wc by rw [Hwc.out]; exact bdrewN HB.out q0)
  replace Hr2 := Lib.hid (show RV wc a2 N c2 (ints Lo) by rw [Hwc.out]; exact Hr2.out.drewN q0)
  replace Hr4 := Lib.hid (show RV wc a4 NQ c4 (ints Q) by rw [Hwc.out]; exact Hr4.out.drewN q0)
  obtain ⟨wz, hwz⟩ : ∃ x : World, x = wc := ⟨_, rfl⟩
  subst hwz
  clear hcA hcB Hin Hup Hwc
  go_wp2_with fail
  go_loopw [14] (fun i wr => ∃ k q : Nat, k ≤ m ∧ i = .int .i64 k ∧ Hid (wr = wz.drewN q)) (fun i _ => m - (intOf i).toNat)
  case atStart => exact ⟨0, 0, Nat.zero_le _, rfl, Lib.hid rfl⟩
  case round =>
    obtain ⟨k, q, hk, rfl, Hwr⟩ := hrel
    generalize wr = wx at *
    have Hr2x := Lib.hid (show RV wx a2 N c2 (ints Lo) by rw [Hwr.out]; exact Hr2.out.drewN q)
    by_cases hkm : k < m
    · as_aux_lemma =>
      have hd : decide ((k : Int) < m) = true := by simp; omega
      have hd' : decide (k < m) = true := by simp; omega
      have Hend := Lib.hid (sameW_end (l := l) (st := (m : Int)) Htw.out (by rw [Hll.out]; omega) (by omega) k)
      have Hone := Lib.hid (sameW_one l (m : Int) k)
      obtain ⟨Z, hZ⟩ : ∃ Z, S.size = Z := ⟨_, rfl⟩
      have hz1 : 1 ≤ Z := by omega
      have hz7 : Z ≤ 7 := by omega
      go_wp2_with fail
      go_loopw [15, 16] (fun b i wr => ∃ r q : Nat, 1 ≤ r ∧ r ≤ Z ∧ i = .int .i64 r ∧ b = .bool (sameW l m k r) ∧ Hid (wr = wx.drewN q)) (fun _ i _ => Z - (intOf i).toNat)
      case atStart => exact ⟨1, 0, by omega, by omega, rfl, by rw [Hone.out], Lib.hid rfl⟩
      case round =>
        obtain ⟨r, q2, hr1, hr2, rfl, rfl, Hwr2⟩ := hrel
        generalize wr = wy at *
        by_cases hrZ : r < Z
        · have e0 : decide ((r : Int) < Z) = true := by simp; omega
          have e0' : decide (r < Z) = true := by simp; omega
          have Hst := Lib.hid (show sameW l m k (r + 1) = (sameW l m k r && (bat l (plW l m k r) == bat l (k % l.length))) from rfl)
          cases hsm : sameW l m k r
          · rw [hsm, Bool.false_and] at Hst
            go_wp2_with fail
            go_quiet (fail)
            go_wp2
            go_roundw
            case rel => exact ⟨r + 1, q2 + nq, by omega, by omega, by go_num, by rw [Hst.out], Lib.hid (by rw [Hwr2.out, World.drewN_drewN])⟩
            case measure => simp [intOf]; omega
          · rw [hsm, Bool.true_and] at Hst
            have hp0 : 0 ≤ (r : Int) * (m : Int) := Int.mul_nonneg (by omega) (by omega)
            have hp1 : (r : Int) * (m : Int) ≤ 7 * 18 := Int.mul_le_mul (by omega) (by omega) (by omega) (by omega)
            obtain ⟨p, hp⟩ : ∃ p, (r : Int) * (m : Int) = p := ⟨_, rfl⟩
            have q0' : IntKind.i64.wrap ((r : Int) * (m : Int)) = p := by rw [hp]; exact IntWalk.i64_in p (by omega)
            rw [hp] at hp0 hp1
            have q1' := IntWalk.i64_in (p + (k : Int)) (by omega)
            obtain ⟨j1, hj1⟩ : ∃ j : Nat, ((k : Int) + p) % Z = (j : Int) := Int.eq_ofNat_of_zero_le (Int.emod_nonneg _ (by omega))
            have hj1l : j1 < Z := by have := Int.emod_lt_of_pos ((k : Int) + p) (show (0 : Int) < Z by omega); omega
            obtain ⟨j2, hj2⟩ : ∃ j, j = k % Z := ⟨_, rfl⟩
            have hj2l : j2 < Z := by rw [hj2]; exact Nat.mod_lt _ (by omega)
            have t1 : (p + (k : Int)).tmod Z = (j1 : Int) := by rw [Int.tmod_eq_emod_of_nonneg (by omega), Int.add_comm, hj1]
            have t1' : (p + (k : Int)) % Z = (j1 : Int) := by rw [Int.add_comm, hj1]
            have t2 : (k : Int).tmod Z = (j2 : Int) := by rw [Int.tmod_eq_emod_of_nonneg (by omega), hj2]; simp
            have t2' : (k : Int) % Z = (j2 : Int) := by rw [hj2]; simp
            have hpl : plW l m k r = j1 := by unfold plW; rw [hp, Hll.out, hZ, hj1]; simp
            have hkl : k % l.length = j2 := by rw [Hll.out, hZ, hj2]
            have hj1s : j1 < S.size := by omega
            have hj2s : j2 < S.size := by omega
            have e1 : (S[j1]'hj1s).toNat = bat l j1 := by rw [Hl.out]; exact bat_get hj1s
            have e2 : (S[j2]'hj2s).toNat = bat l j2 := by rw [Hl.out]; exact bat_get hj2s
            rw [hpl, hkl, ← e1, ← e2] at Hst
            obtain ⟨x1, hx1⟩ : ∃ x : Nat, (S[j1]'hj1s).toNat = x := ⟨_, rfl⟩
            obtain ⟨x2, hx2⟩ : ∃ x : Nat, (S[j2]'hj2s).toNat = x := ⟨_, rfl⟩
            rw [hx1, hx2] at Hst
            have hzi : (Z : Int) ≠ 0 := by omega
            have hzn : Z ≠ 0 := by omega
            have hj1i : (j1 : Int) < Z := by omega
            have hj2i : (j2 : Int) < Z := by omega
            clear hp hj1 hj2 hpl hkl e1 e2
            by_cases hxx : x1 = x2
            · have HS2 := Lib.hid (show sameW l m k (r + 1) = true by rw [Hst.out, hxx]; simp)
              subst hxx
              go_wp2_with fail
              go_quiet (fail)
              go_wp2
              go_roundw
              case rel => exact ⟨r + 1, q2 + nq, by omega, by omega, by go_num, by rw [HS2.out], Lib.hid (by rw [Hwr2.out, World.drewN_drewN])⟩
              case measure => simp [intOf]; omega
            · have HS2 := Lib.hid (show sameW l m k (r + 1) = false by rw [Hst.out]; simp [hxx])
              have d2 : ((x1 : Int) == (x2 : Int)) = false := by simp; omega
              have d2' : (x1 == x2) = false := by simp [hxx]
              clear hxx
              go_wp2_with fail
              go_quiet (fail)
              go_wp2
              go_roundw
              case rel => exact ⟨r + 1, q2 + nq, by omega, by omega, by go_num, by rw [HS2.out], Lib.hid (by rw [Hwr2.out, World.drewN_drewN])⟩
              case measure => simp [intOf]; omega
        · have hrz : r = Z := by omega
          have e0 : decide ((r : Int) < Z) = false := by simp; omega
          have e0' : decide (r < Z) = false := by simp; omega
          have hsm : sameW l m k r = looseK l m k := by rw [hrz, ← hZ, ← Hll.out]; exact Hend.out
          have Hr2y := Lib.hid (show RV wy a2 N c2 (ints Lo) by rw [Hwr2.out]; exact Hr2x.out.drewN q2)
          have Hac := Lib.hid (a2Has_any a2 N c2 Lo k wy Hr2y.out)
          rw [Hhas.out k hkm] at Hac
          rw [hsm]
          generalize looseK l m k = lb at *
          clear hsm hrz
          go_wp2_with (go_at_call 12; (with_reducible refine Hac.out.mono ?_); rintro e w5 ⟨rfl, rfl⟩)
          go_roundw
          case rel => exact ⟨k + 1, q + q2, by omega, by go_num, Lib.hid (by rw [Hwr2.out, Hwr.out, World.drewN_drewN])⟩
          case measure => simp [intOf]; omega
    · as_aux_lemma =>
      have hkm' : k = m := by omega
      have hd : decide ((k : Int) < m) = false := by simp; omega
      have hd' : decide (k < m) = false := by simp; omega
      have Hr4x := Lib.hid (show RV wx a4 NQ c4 (ints Q) by rw [Hwr.out]; exact Hr4.out.drewN q)
      have HBx := Lib.hid (show Below w.heap.size w wx by rw [Hwr.out]; exact bdrewN HB.out q)
      clear hkm' Hr2x Hr2 Hr4 HB Hwr Hhas
      go_wp2_with fail
      go_loopw [17, 18] (fun la i wr => ∃ (j : Nat) (z : Int) (q : Nat), j ≤ NQ ∧ i = .int .i64 j ∧ la = .int .i64 z ∧ Hid (j < NQ → z < Q.getD j 0) ∧ Hid (wr = wx.drewN q)) (fun _ i _ => NQ - (intOf i).toNat)
      case atStart => exact ⟨0, 2, 0, Nat.zero_le _, rfl, rfl, Lib.hid (fun h => by have := Hin4.out 0 h; omega), Lib.hid rfl⟩
      case round =>
        obtain ⟨j, z, q2, hj, rfl, rfl, Hz, Hwr2⟩ := hrel
        generalize wr = wy at *
        have Hr4y := Lib.hid (show RV wy a4 NQ c4 (ints Q) by rw [Hwr2.out]; exact Hr4x.out.drewN q2)
        by_cases hjN : j < NQ
        · have e0 : decide ((j : Int) < NQ) = true := by simp; omega
          have e0' : decide (j < NQ) = true := by simp; omega
          obtain ⟨b, o, rfl, hbl, hc⟩ := Hr4y.out.cell (by omega)
          have e1 := hc j hjN
          have hy := Hin4.out j hjN
          have hzy := Hz.out hjN
          have hnx := Hup4.out j
          obtain ⟨y, Hy⟩ : ∃ y, Hid (y = Q.getD j 0) := ⟨_, rfl⟩
          rw [← Hy.out] at e1 hy hzy hnx
          have Hnx := Lib.hid hnx
          have y1 : decide (y ≤ z) = false := decide_eq_false (by omega)
          have y2 : decide ((m : Int) < y) = false := decide_eq_false (by omega)
          clear hc hnx
          go_wp2_with fail
          go_roundw
          case rel => exact ⟨j + 1, y, q2, by omega, by go_num, rfl, Lib.hid (fun h => Hnx.out h), Hwr2⟩
          case measure => simp [intOf]; omega
        · have hjN' : j = NQ := by omega
          have e0 : decide ((j : Int) < NQ) = false := by simp; omega
          have e0' : decide (j < NQ) = false := by simp; omega
          have HBy := Lib.hid (show Below w.heap.size w wy by rw [Hwr2.out]; exact bdrewN HBx.out q2)
          clear hjN' Hr4x HBx Hwr2 Hz Hin4 Hup4
          go_wp2_with fail
          go_loopw [19] (fun i wr => ∃ k : Nat, k ≤ n ∧ i = .int .i64 (k + 3 : Nat) ∧ Hid (Below wy.heap.size wy wr)) (fun i _ => n + 3 - (intOf i).toNat)
          case atStart => exact ⟨0, Nat.zero_le _, rfl, Lib.hid (Below.refl _ _)⟩
          case round =>
            obtain ⟨k, hk, rfl, Hbl⟩ := hrel
            generalize wr = wv at *
            by_cases hkn : k < n
            · obtain ⟨g, hg⟩ : ∃ g : Nat, k + 3 = g := ⟨_, rfl⟩
              have His2 := Lib.hid (HIs.out k hkn)
              have hh4 := Hhas4.out k hkn
              rw [hg] at His2 hh4 ⊢
              generalize hbb : B k = bb at *
              clear hbb
              have d0 : decide ((g : Int) ≤ (m : Int)) = true := by simp; omega
              have d1 : decide (g ≤ m) = true := by simp; omega
              have hg18 : g ≤ 18 := by omega
              go_wp2_with fail
              with_reducible refine (His2.out _).mono ?_
              rintro e w6 ⟨rfl, hb6⟩
              have Hbl6 := Lib.hid (bstep Hbl.out hb6 (Nat.le_refl _))
              have Hac := Lib.hid (a2Has_any a4 NQ c4 Q g w6 (Hr4y.out.below Hbl6.out))
              rw [hh4] at Hac
              clear hb6 hh4
              go_wp2_with (go_at_call 12; (with_reducible refine Hac.out.mono ?_); rintro e w7 ⟨rfl, rfl⟩)
              go_roundw
              case rel => exact ⟨k + 1, by omega, by first | (go_num; done) | (congr 1; omega), Hbl6⟩
              case measure => simp [intOf]; omega
            · have d0 : decide (((k + 3 : Nat) : Int) ≤ (m : Int)) = false := by simp; omega
              have d1 : decide (k + 3 ≤ m) = false := by simp; omega
              go_wp2_with fail
              go_ret
              exact ⟨rfl, bstep HBy.out Hbl.out (Nat.le_refl _)⟩

set_option maxRecDepth 100000 in
theorem lifted (os : Os) (started : os.Started) (H : Type) (enc : TypeId × Value → H) :
    ReturnsInHanded {} Tryd.checked os 3 .any (fun w args => (Rows.fnLooseStakesSpec.pre enc Tryd.prog Tryd.f3 [] false w args ∧ laidMetH Tryd.prog Rows.fnLooseStakesRow.laid w) ∧ sizedMet enc Tryd.prog Tryd.f3 (OpenSpec.ofChange Rows.fnLooseStakesSpec) false w args) (Rows.fnLooseStakesSpec.post enc Tryd.prog Tryd.f3 false true false false) := by
  refine returnsInHanded_of_change_and (C := Tryd.checked) (X := fun w _ => laidMetH Tryd.prog Rows.fnLooseStakesRow.laid w) (fun _ _ _ hh h => h.of_heap hh) own started (by kernel_rfl) Tryd.func3
    (ChangeSpec.witness_shaped (enc := enc) (C := Tryd.checked) (os := os) (X := fun w _ => laidMetH Tryd.prog Rows.fnLooseStakesRow.laid w) false (World.laidAll Tryd.prog os Rows.fnLooseStakesRow.laid) #[.slice none 0 0, .slice none 0 0] 8 (World.laidAll_os _ _ _)
      (World.shaped_of_ZipB (by kernel_rfl) (by kernel_rfl)) (by kernel_rfl) (by kernel_rfl) (by kernel_rfl)
      (by rw [MakeChecks.laidMetH_plain _ _ _ (by kernel_rfl)]; exact laidMet_laidAll _ (by kernel_rfl) (by kernel_rfl))) ?_
  intro W base args ds gs before hval0 hW _ _ hL _
  have hval : ∀ (j : Nat) t v, Tryd.f3.params[j]? = some t → args[j]? = some v → Value.okWide Tryd.prog W .any base t v := hval0
  have hW' := hW
  obtain ⟨p, q, hA0, hV, rfl, hfz, hnd⟩ := hW
  have hA : DataW.TrodAll enc Tryd.prog W 0 (fun _ => true) true Tryd.f3.params.toList args.toList ds p := hA0
  rw [Tryd.params3] at hA hval
  obtain ⟨v0, vs0, d0, ds0, pP0, qQ0, hargs, rfl, rfl, k0, e0⟩ := trodAll_cons hA
  obtain ⟨v1, vs1, d1, ds1, pP1, qQ1, rfl, rfl, rfl, k1, e1⟩ := trodAll_cons e0
  obtain ⟨rfl, rfl, rfl⟩ := trodAll_nil e1
  obtain rfl : args = #[v0, v1] := by cases args; simp_all
  obtain ⟨rfl, rfl⟩ := trodVars_none hV
  have l0 := arg_lt k0
  have l1 := arg_lt k1
  obtain ⟨p0, n0, c0, x0, rfl, r0, b0⟩ := arg_bytes (hval 0 _ v0 rfl rfl) k0
  obtain ⟨p1, n1, c1, x1, rfl, r1, b1⟩ := arg_bytes (hval 1 _ v1 rfl rfl) k1
  clear hA0 hval0
  refine (walk W p0 n0 c0 x0 r0 b0 p1 n1 c1 x1 r1 b1).mono fun e W' ⟨he, bel⟩ => ?_
  subst he
  exact ⟨_, rfl, _, _, _, [], _, [], hW', trodAll_mk1 (shut_bool Tryd.underlying4 _), (trodAll_cons_mk (Below.trod laidOut (by kernel_rfl) (of_decide_eq_true (by kernel_rfl)) k0 bel l0) (trodAll_cons_mk (Below.trod laidOut (by kernel_rfl) (of_decide_eq_true (by kernel_rfl)) k1 bel l1) trodAll_mk0)), rfl, bel.frame _, fun h => by cases h⟩

theorem over : Rows.fnLooseStakesRow.holds Tryd.pinned (OpenSpec.ofChange Rows.fnLooseStakesSpec) :=
  OpenClaim.holds_of_wide 3 Tryd.f3 rfl rfl rfl rfl rfl rfl rfl ⟨rfl, rfl, rfl, rfl, rfl⟩ rfl rfl rfl rfl rfl (by kernel_rfl) Tryd.func3 (by kernel_rfl)
    (of_decide_eq_true (by kernel_rfl)) (by unfold Func.isWrapper; first | (rw [if_pos (by decide +kernel)]; kernel_rfl) | (rw [if_neg (by decide +kernel)]; exact ⟨rfl, rfl⟩))
    (fun os started H enc _ => lifted os started H enc)

set_option maxRecDepth 100000 in
/-- the statement -/
theorem proved : Rows.FnLooseStakesCardSaid :=
  Claim7.holds_tied_plain_at .later [] [.data, .pinned] true (true, "c1a6f091aa61e7db9d0f659661e7d6c9241281098af5c2a057da1e944caa10bd") false over (fun _ h => by cases h) (by kernel_rfl) (fun _ h => by cases h) fnLooseStakes_row_tie rfl ⟨rfl, rfl⟩ (by kernel_rfl) rfl
    (fun f fn hf hfn => by
      obtain rfl : f = 3 := Option.some.inj ((show Tryd.prog.funcNamed Rows.fnLooseStakesRow.func = some 3 by kernel_rfl).symm.trans hf) |>.symm
      obtain rfl : fn = Tryd.f3 := (Option.some.inj (Tryd.func3.symm.trans hfn)).symm
      exact ⟨by kernel_rfl, fun j t ht => by
        rw [Tryd.params3] at ht
        have hm : t ∈ [22, 22] := by simpa using Array.mem_of_getElem? ht
        have hall : ([22, 22].all fun u => !Tryd.prog.wantsStandIn u) = true := by kernel_rfl
        exact (show Tryd.prog.wantsStandIn t = false by simpa using List.all_eq_true.1 hall t hm)⟩)
    (by kernel_rfl)
#print axioms proved
end Go.Proofs.YtdbjcjabbefnoaaDoor.fnLooseStakes
