/-
  Proved here: the law FnBendWords answers true at every input, and leaves its arguments as they were. No condition.
-/
import Derived.Test.YtcpacfedmppaeaaDoorFrame
import Derived.Test.YtcpacfedmppaeaaDoorTie
import Derived.Test.YtcpacfedmppaeaaDoorCards
import Derived.Lay
import Derived.SevenTiedAt
import Derived.LaidMore
import Derived.Stop.Joined
import Derived.Test.YtcpacfedmppaeaaDoorBendFn3
namespace Go.Proofs.YtcpacfedmppaeaaDoor.fnBendWords
open Go.ChangeShapes Go.WideShapes Go.ChangeAt Go.RowKit
set_option linter.unusedVariables false

set_option maxHeartbeats 16000000 in
set_option maxRecDepth 100000 in
theorem walk (w : World) (p0 : Option Addr) (n0 c0 : Nat) (x0 : List Int) (r0 : RV w p0 n0 c0 (x0.map (.int .u8))) (b0 : ∀ x ∈ x0, 0 ≤ x ∧ x ≤ 255) :
    Calls Tryd.prog 4 #[.slice p0 n0 c0] w fun e w' => e = .returned (.bool true) ∧ Below w.heap.size w w' := by
  by_cases hbig : (4096 : Int) < n0
  · go_enter Tryd.func4, Tryd.ntmps4
    go_wp2_with (go_at_call 5; refine (f6big_any _ _ _ _ r0.small).mono ?_; rw [decide_eq_true hbig]; rintro e w' ⟨rfl, rfl⟩)
    go_ret
    exact ⟨rfl, Below.refl _ _⟩
  have hB : Below w.heap.size w w := Below.refl _ _
  have Hr0 := Lib.hid r0
  have Hb0 := Lib.hid b0
  have hsm := r0.small
  clear r0 b0
  go_enter Tryd.func4, Tryd.ntmps4
  go_wp2_with fail
  with_reducible refine (f6big_any _ _ _ _ hsm).mono ?_
  rw [decide_eq_false (show ¬ (4096 : Int) < n0 by omega)]
  rintro e wq ⟨rfl, rfl⟩
  go_wp2_with fail
  with_reducible refine (DrawSameBorder_any _ _ _ _ _ Hr0.out Hb0.out).mono ?_
  rintro e w1 ⟨S, T, rfl, hS, hT, hb⟩
  replace hB := bstep hB hb (Nat.le_refl _)
  clear hb
  have hSm : S.size ≤ maxLen := by unfold maxLen; omega
  have hTm : T.size ≤ maxLen := by unfold maxLen; omega
  obtain ⟨sb, sc, HS⟩ : ∃ sb sc, Hid (sameWR S.data.toList T.data.toList = (sb, sc)) := ⟨_, _, rfl⟩
  have Htu := Lib.hid (show sc = 0 → turnsTo S.data.toList T.data.toList S.data.toList.length = sb from fun h => by
    have h2 := turnsTo_all (a := S.data.toList) (b := T.data.toList) (by rw [HS.out]; exact h)
    rw [HS.out] at h2
    exact h2)
  have H1 := Lib.hid (fun W => show Calls Tryd.prog 25 #[.string S, .string T] W fun e w' => e = rtb (sb, sc) ∧ Below W.heap.size W w' by have h := sameBorder_any S T W hSm hTm; rw [HS.out] at h; exact h)
  have H2 := Lib.hid (fun W => show Calls Tryd.prog 26 #[.string S, .string T] W fun e w' => e = rtb (sb, sc) ∧ ∃ q, w' = W.drewN q by have h := specSameBorder_any S T W hSm hTm; rw [HS.out] at h; exact h)
  clear HS hsm
  go_wp2_with fail
  with_reducible refine (H1.out _).mono ?_
  rintro e w2 ⟨rfl, hb⟩
  replace hB := bstep hB hb (Nat.le_refl _)
  clear hb
  go_wp2_with fail
  with_reducible refine (H2.out _).mono ?_
  rintro e wq ⟨rfl, q1, rfl⟩
  replace hB := bdrewN hB q1
  (try simp only [World.drewN_drewN] at hB)
  go_wp2_with fail
  with_reducible refine (DrawLockedWords_any _ _ _ _ _ (Hr0.out.below hB) Hb0.out).mono ?_
  rintro e w3 ⟨nl, st, rfl, hnl, hb⟩
  replace hB := bstep hB hb (Nat.le_refl _)
  clear hb
  have hnb : -9223372036854775808 ≤ nl ∧ nl ≤ 9223372036854775807 := by omega
  have Hla := Lib.hid (fun i hi => locked_at (n := nl) (st := st) (i := i) hi)
  have Hll := Lib.hid (lockR2_len nl st)
  obtain ⟨W8, wc8, HW⟩ : ∃ W8 wc8, Hid (lockR2 nl st = (W8, wc8)) := ⟨_, _, rfl⟩
  have F1 := Lib.hid (fun W => show Calls Tryd.prog 28 #[.int .i64 nl, .int .i64 st] W (RetS W 9 (W8, wc8)) by have h := lockedWords_any nl st W hnb; rw [HW.out] at h; exact h)
  have F2 := Lib.hid (fun W => show Calls Tryd.prog 29 #[.int .i64 nl, .int .i64 st] W (RetS W 9 (W8, wc8)) by have h := specLockedWords_any nl st W hnb; rw [HW.out] at h; exact h)
  rw [HW.out] at Hla Hll
  clear HW
  go_wp2_with fail
  with_reducible refine (F1.out _).mono ?_
  rintro e w4 ⟨v11, rfl, ho, hb⟩
  obtain ⟨a11, c11, rfl, hr⟩ := ho.sliceS
  replace hB := bstep hB hb (Nat.le_refl _)
  have K11 := Lib.hid hr
  clear hb ho hr
  go_wp2_with fail
  with_reducible refine (F2.out _).mono ?_
  rintro e w5 ⟨v12, rfl, ho, hb⟩
  obtain ⟨a12, c12, rfl, hr⟩ := ho.sliceS
  replace hB := bstep hB hb (Nat.le_refl _)
  replace K11 := Lib.hid (K11.out.below hb)
  have K12 := Lib.hid hr
  clear hb ho hr
  go_wp2_with fail
  with_reducible refine (DrawRodForBorder_any _ _ _ _ _ (Hr0.out.below hB) Hb0.out).mono ?_
  rintro e w6 ⟨R, ar, mn, rfl, hR, hb⟩
  replace hB := bstep hB hb (Nat.le_refl _)
  replace K11 := Lib.hid (K11.out.below hb)
  replace K12 := Lib.hid (K12.out.below hb)
  clear hb
  have hRm : R.size ≤ maxLen := by unfold maxLen; omega
  obtain ⟨rn, rc, HR⟩ : ∃ rn rc, Hid (rodR R.data.toList ar mn = (rn, rc)) := ⟨_, _, rfl⟩
  have Hro := Lib.hid (show rc = 0 → (0 ≤ rn ∧ rn ≤ 500000) ∧ (100 ≤ ar ∧ ar ≤ 5000) ∧ (3 ≤ mn ∧ mn ≤ 40) ∧ R.size ≤ 8 ∧ ar * ((R.size : Int) + 1) ≤ rn * mn from fun h => by
    have h2 := rod_ok (l := R.data.toList) (ar := ar) (st := mn) (by rw [HR.out]; exact h)
    rw [HR.out, size_list] at h2
    exact h2)
  have G1 := Lib.hid (fun W => show Calls Tryd.prog 31 #[.string R, .int .i64 ar, .int .i64 mn] W fun e w' => e = rt2 (rn, rc) ∧ Below W.heap.size W w' by have h := rodForBorder_any R ar mn W hRm; rw [HR.out] at h; exact h)
  have G2 := Lib.hid (fun W => show Calls Tryd.prog 32 #[.string R, .int .i64 ar, .int .i64 mn] W fun e w' => e = rt2 (rn, rc) ∧ ∃ q, w' = W.drewN q by have h := specRodForBorder_any R ar mn W hRm; rw [HR.out] at h; exact h)
  clear HR
  go_wp2_with fail
  with_reducible refine (G1.out _).mono ?_
  rintro e w7 ⟨rfl, hb⟩
  replace hB := bstep hB hb (Nat.le_refl _)
  replace K11 := Lib.hid (K11.out.below hb)
  replace K12 := Lib.hid (K12.out.below hb)
  clear hb
  go_wp2_with fail
  with_reducible refine (G2.out _).mono ?_
  rintro e wq ⟨rfl, q2, rfl⟩
  replace hB := bdrewN hB q2
  replace K11 := Lib.hid (K11.out.drewN q2)
  replace K12 := Lib.hid (K12.out.drewN q2)
  (try simp only [World.drewN_drewN] at hB)
  (try simp only [World.drewN_drewN] at K11)
  (try simp only [World.drewN_drewN] at K12)
  go_wp2_with fail
  with_reducible refine (DrawFirstWord_any _ _ _ _ _ (Hr0.out.below hB) Hb0.out).mono ?_
  rintro e w8 ⟨U, rfl, hU, hb⟩
  replace hB := bstep hB hb (Nat.le_refl _)
  replace K11 := Lib.hid (K11.out.below hb)
  replace K12 := Lib.hid (K12.out.below hb)
  clear hb
  have hUm : U.size ≤ maxLen := by unfold maxLen; omega
  obtain ⟨F, fc, HF⟩ : ∃ F fc, Hid (firstWR U.data.toList = (F, fc)) := ⟨_, _, rfl⟩
  have Hfi := Lib.hid (show fc = 0 → F.size ≤ maxLen ∧ sameWR U.data.toList F.data.toList = (true, 0) from fun h => by
    have h2 := HF.out
    unfold firstWR at h2
    split at h2
    · next hv =>
      have h3 : F = str (firstW U.data.toList) := (Prod.mk.inj h2).1.symm
      subst h3
      rw [← size_list, str_list]
      have h4 := (vB_iff.1 hv).2.1
      have h5 : (firstW U.data.toList).length = U.data.toList.length := firstTo_len _ _
      exact ⟨by unfold maxLen; omega, firstW_own hv⟩
    · have := (Prod.mk.inj h2).2; omega)
  have F3 := Lib.hid (fun W => show Calls Tryd.prog 23 #[.string U] W fun e w' => e = rtS (F, fc) ∧ Below W.heap.size W w' by have h := firstWordE_any U W hUm; rw [HF.out] at h; exact h)
  have F4 := Lib.hid (fun W => show Calls Tryd.prog 34 #[.string U] W fun e w' => e = rtS (F, fc) ∧ ∃ q, w' = W.drewN q by have h := specFirstWord_any U W hUm; rw [HF.out] at h; exact h)
  clear HF
  go_wp2_with fail
  with_reducible refine (F3.out _).mono ?_
  rintro e w9 ⟨rfl, hb⟩
  replace hB := bstep hB hb (Nat.le_refl _)
  replace K11 := Lib.hid (K11.out.below hb)
  replace K12 := Lib.hid (K12.out.below hb)
  clear hb
  go_wp2_with fail
  with_reducible refine (F4.out _).mono ?_
  rintro e wq ⟨rfl, q3, rfl⟩
  replace hB := bdrewN hB q3
  replace K11 := Lib.hid (K11.out.drewN q3)
  replace K12 := Lib.hid (K12.out.drewN q3)
  (try simp only [World.drewN_drewN] at hB)
  (try simp only [World.drewN_drewN] at K11)
  (try simp only [World.drewN_drewN] at K12)
  have hms : strs W8 = (W8.map str).map .string := by simp [strs]
  have hWn : W8.length ≤ 256 := Hll.out
  go_wp2_with fail
  with_reducible refine (f6texts_yes _ _ _ _ _ (W8.map str) _ (hms ▸ K11.out) (hms ▸ K12.out)).mono ?_
  rintro e wq ⟨rfl, q4, rfl⟩
  replace hB := bdrewN hB q4
  replace K11 := Lib.hid (K11.out.drewN q4)
  replace K12 := Lib.hid (K12.out.drewN q4)
  (try simp only [World.drewN_drewN] at hB)
  (try simp only [World.drewN_drewN] at K11)
  (try simp only [World.drewN_drewN] at K12)
  clear K11 hms H1 H2 F1 F2 F3 F4 G1 G2 Hr0 Hb0 Hll
  simp only [← World.drewN_drewN] at hB K12 ⊢
  have HB := Lib.hid hB
  generalize (w9.drewN q3).drewN q4 = w0 at *
  clear hB
  by_cases hfc : fc = 0
  · as_aux_lemma =>
      have z1 : (fc == 0) = true := by simp [hfc]
      obtain ⟨h1, h2⟩ := Hfi.out hfc
      have Hsb := Lib.hid (fun W => show Calls Tryd.prog 25 #[.string U, .string F] W fun e w' => e = rtb (true, 0) ∧ Below W.heap.size W w' by have h := sameBorder_any U F W hUm h1; rw [h2] at h; exact h)
      clear hfc h2 Hfi
      go_wp2_with fail
      with_reducible refine (Hsb.out _).mono ?_
      rintro e w10 ⟨rfl, hb⟩
      replace HB := Lib.hid (bstep HB.out hb (Nat.le_refl _))
      replace K12 := Lib.hid (K12.out.below hb)
      clear hb Hsb h1
      generalize w10 = w0 at *
      generalize hN : W8.length = N at *
      have HN := Lib.hid hN
      clear hN
      go_wp2_with fail
      go_loopw [29] (fun i wr => ∃ k : Nat, k ≤ N ∧ i = .int .i64 k ∧ Hid (Below w0.heap.size w0 wr)) (fun i _ => N - (intOf i).toNat)
      case atStart => exact ⟨0, Nat.zero_le _, rfl, Lib.hid (Below.refl _ _)⟩
      case round =>
        obtain ⟨k, hk, rfl, Hbl⟩ := hrel
        generalize wr = wx at *
        by_cases hkN : k < N
        · have hrv := K12.out.below Hbl.out
          obtain ⟨bq, oq, hq, hbq, hcq⟩ := hrv.cellv (show N ≠ 0 by omega)
          have hkl : k < W8.length := by rw [HN.out]; exact hkN
          obtain ⟨h8, hdr⟩ := Hla.out k hkN
          have e1 := hcq k _ (strs_get hkl)
          obtain ⟨x, Hx⟩ : ∃ x, Hid (x = W8.getD k []) := ⟨_, rfl⟩
          rw [← Hx.out] at hdr e1 h8
          have hxs : (str x).size ≤ maxLen := by
            have : (str x).size = x.length := by rw [← size_list, str_list]
            rw [this]; unfold maxLen; omega
          have Hdr := Lib.hid (fun W => show Calls Tryd.prog 9 #[.string (str x), .int .i64 st] W fun e w' => e = rt2 (1, 0) ∧ Below W.heap.size W w' by
            have h := drawnOutE_any (str x) st W hxs
            rw [str_list, hdr] at h
            exact h)
          have hkN' : (k : Int) < N := by omega
          subst hq
          clear hcq hrv hdr
          go_wp2_with fail
          with_reducible refine (Hdr.out _).mono ?_
          rintro e w14 ⟨rfl, hb⟩
          have Hb14 := Lib.hid (bstep Hbl.out hb (Nat.le_refl _))
          clear hb e1
          go_wp2
          go_roundw
          case rel => exact ⟨k + 1, by omega, by go_num, Hb14⟩
          case measure => simp [intOf]; omega
        · have hkN : k = N := by omega
          subst hkN
          have HBx := Lib.hid (HB.out.trans (Hbl.out.mono HB.out.size))
          clear Hbl HB Hla K12
          go_upto_region 27 with fail
          go_cut [188] (fun sq wc => sq = .bool false ∧ wc = wx)
          case first => as_aux_lemma =>
            by_cases hrc : rc = 0
            · have z1 : (rc == 0) = true := by simp [hrc]
              obtain ⟨h1, h2, h3, h4, h5⟩ := Hro.out hrc
              have p1 : 0 ≤ rn * mn := Int.mul_nonneg (by omega) (by omega)
              have p2 : rn * mn ≤ 500000 * 40 := Int.mul_le_mul h1.2 h3.2 (by omega) (by omega)
              have p3 : 0 ≤ ar * ((R.size : Int) + 1) := Int.mul_nonneg (by omega) (by omega)
              have q1 := IntWalk.i64_in (rn * mn) (by omega)
              have q2 := IntWalk.i64_in (ar * ((R.size : Int) + 1)) (by omega)
              have t1 : decide (rn * mn < ar * ((R.size : Int) + 1)) = false := decide_eq_false (by omega)
              clear hrc
              go_wp2
              go_meet
              exact ⟨by first | rfl | (congr 1), rfl⟩
            · have z1 : (rc == 0) = false := by simp [hrc]
              clear hrc
              go_wp2
              go_meet
              exact ⟨rfl, rfl⟩
          obtain ⟨rfl, hwc⟩ := hcut
          rw [hwc]
          clear hwc Hro
          by_cases hsc : ¬ sc = 0
          · have z1 : (sc != 0) = true := by simp [hsc]
            clear hsc
            go_wp2
            go_ret
            exact ⟨rfl, HBx.out⟩
          · have hsc := Decidable.not_not.1 hsc
            have htu := Htu.out hsc
            have Htu2 := Lib.hid (show turnsTo S.data.toList T.data.toList S.size = sb by rw [← size_list]; exact htu)
            subst hsc
            clear htu Htu
            go_wp2_with fail
            go_loopw [32, 33] (fun tn i wr => ∃ q m : Nat, q ≤ S.size ∧ i = .int .i64 q ∧ tn = .bool (turnsTo S.data.toList T.data.toList q) ∧ Hid (wr = wx.drewN m)) (fun _ i _ => S.size - (intOf i).toNat)
            case atStart => exact ⟨0, 0, Nat.zero_le _, rfl, rfl, rfl⟩
            case round =>
              obtain ⟨q, m, hq, rfl, htn, Hw⟩ := hrel
              subst htn
              generalize wr = wy at *
              by_cases hqM : q < S.size
              · have Hst := Lib.hid (turnsTo_step S.data.toList T.data.toList q)
                have Hext := Lib.hid (turn_ext S.data.toList S rfl q hq)
                have hqS : (q : Int) ≤ S.size := by omega
                have hqS' : (q : Int) < S.size := by omega
                obtain ⟨X, hX⟩ : ∃ X, S.extract q S.size = X := ⟨_, rfl⟩
                obtain ⟨Y, hY⟩ : ∃ Y, S.extract 0 q = Y := ⟨_, rfl⟩
                have hXs : X.size ≤ 9 := by rw [← hX]; simp; omega
                have hYs : Y.size ≤ 9 := by rw [← hY]; simp; omega
                have Hxy := Lib.hid (show X ++ Y = str (turnW S.data.toList q) by rw [← hX, ← hY]; exact Hext.out)
                have Heq := Lib.hid (show ((X ++ Y).toList == T.toList) = (turnW S.data.toList q == T.data.toList) by rw [Hxy.out, str_toList, ByteArray.toList_eq])
                clear Hext
                generalize (turnW S.data.toList q == T.data.toList) = E at *
                cases htq : turnsTo S.data.toList T.data.toList q
                · rw [htq, Bool.false_or] at Hst
                  have t1 : ((X ++ Y).toList == T.toList) = E := Heq.out
                  cases E
                  · go_wp2_with fail
                    go_quiet (fail)
                    go_wp2
                    go_roundw
                    case rel => exact ⟨q + 1, m + nq, by omega, by go_num, by rw [Hst.out], Lib.hid (by rw [Hw.out, World.drewN_drewN])⟩
                    case measure => simp [intOf]; omega
                  · go_wp2_with fail
                    go_quiet (fail)
                    go_wp2
                    go_roundw
                    case rel => exact ⟨q + 1, m + nq, by omega, by go_num, by rw [Hst.out], Lib.hid (by rw [Hw.out, World.drewN_drewN])⟩
                    case measure => simp [intOf]; omega
                · rw [htq, Bool.true_or] at Hst
                  go_wp2_with fail
                  go_quiet (fail)
                  go_wp2
                  go_roundw
                  case rel => exact ⟨q + 1, m + nq, by omega, by go_num, by rw [Hst.out], Lib.hid (by rw [Hw.out, World.drewN_drewN])⟩
                  case measure => simp [intOf]; omega
              · have hqe : q = S.size := by omega
                rw [hqe, Htu2.out]
                subst hqe
                have HBy := Lib.hid (show Below w.heap.size w wy by rw [Hw.out]; exact bdrewN HBx.out m)
                go_wp2
                go_ret
                exact ⟨by first | rfl | (cases sb <;> rfl), HBy.out⟩
  · as_aux_lemma =>
      have z1 : (fc == 0) = false := by simp [hfc]
      clear hfc Hfi
      generalize hN : W8.length = N at *
      have HN := Lib.hid hN
      clear hN
      go_wp2_with fail
      go_loopw [29] (fun i wr => ∃ k : Nat, k ≤ N ∧ i = .int .i64 k ∧ Hid (Below w0.heap.size w0 wr)) (fun i _ => N - (intOf i).toNat)
      case atStart => exact ⟨0, Nat.zero_le _, rfl, Lib.hid (Below.refl _ _)⟩
      case round =>
        obtain ⟨k, hk, rfl, Hbl⟩ := hrel
        generalize wr = wx at *
        by_cases hkN : k < N
        · have hrv := K12.out.below Hbl.out
          obtain ⟨bq, oq, hq, hbq, hcq⟩ := hrv.cellv (show N ≠ 0 by omega)
          have hkl : k < W8.length := by rw [HN.out]; exact hkN
          obtain ⟨h8, hdr⟩ := Hla.out k hkN
          have e1 := hcq k _ (strs_get hkl)
          obtain ⟨x, Hx⟩ : ∃ x, Hid (x = W8.getD k []) := ⟨_, rfl⟩
          rw [← Hx.out] at hdr e1 h8
          have hxs : (str x).size ≤ maxLen := by
            have : (str x).size = x.length := by rw [← size_list, str_list]
            rw [this]; unfold maxLen; omega
          have Hdr := Lib.hid (fun W => show Calls Tryd.prog 9 #[.string (str x), .int .i64 st] W fun e w' => e = rt2 (1, 0) ∧ Below W.heap.size W w' by
            have h := drawnOutE_any (str x) st W hxs
            rw [str_list, hdr] at h
            exact h)
          have hkN' : (k : Int) < N := by omega
          subst hq
          clear hcq hrv hdr
          go_wp2_with fail
          with_reducible refine (Hdr.out _).mono ?_
          rintro e w14 ⟨rfl, hb⟩
          have Hb14 := Lib.hid (bstep Hbl.out hb (Nat.le_refl _))
          clear hb e1
          go_wp2
          go_roundw
          case rel => exact ⟨k + 1, by omega, by go_num, Hb14⟩
          case measure => simp [intOf]; omega
        · have hkN : k = N := by omega
          subst hkN
          have HBx := Lib.hid (HB.out.trans (Hbl.out.mono HB.out.size))
          clear Hbl HB Hla K12
          go_upto_region 27 with fail
          go_cut [188] (fun sq wc => sq = .bool false ∧ wc = wx)
          case first => as_aux_lemma =>
            by_cases hrc : rc = 0
            · have z1 : (rc == 0) = true := by simp [hrc]
              obtain ⟨h1, h2, h3, h4, h5⟩ := Hro.out hrc
              have p1 : 0 ≤ rn * mn := Int.mul_nonneg (by omega) (by omega)
              have p2 : rn * mn ≤ 500000 * 40 := Int.mul_le_mul h1.2 h3.2 (by omega) (by omega)
              have p3 : 0 ≤ ar * ((R.size : Int) + 1) := Int.mul_nonneg (by omega) (by omega)
              have q1 := IntWalk.i64_in (rn * mn) (by omega)
              have q2 := IntWalk.i64_in (ar * ((R.size : Int) + 1)) (by omega)
              have t1 : decide (rn * mn < ar * ((R.size : Int) + 1)) = false := decide_eq_false (by omega)
              clear hrc
              go_wp2
              go_meet
              exact ⟨by first | rfl | (congr 1), rfl⟩
            · have z1 : (rc == 0) = false := by simp [hrc]
              clear hrc
              go_wp2
              go_meet
              exact ⟨rfl, rfl⟩
          obtain ⟨rfl, hwc⟩ := hcut
          rw [hwc]
          clear hwc Hro
          by_cases hsc : ¬ sc = 0
          · have z1 : (sc != 0) = true := by simp [hsc]
            clear hsc
            go_wp2
            go_ret
            exact ⟨rfl, HBx.out⟩
          · have hsc := Decidable.not_not.1 hsc
            have htu := Htu.out hsc
            have Htu2 := Lib.hid (show turnsTo S.data.toList T.data.toList S.size = sb by rw [← size_list]; exact htu)
            subst hsc
            clear htu Htu
            go_wp2_with fail
            go_loopw [32, 33] (fun tn i wr => ∃ q m : Nat, q ≤ S.size ∧ i = .int .i64 q ∧ tn = .bool (turnsTo S.data.toList T.data.toList q) ∧ Hid (wr = wx.drewN m)) (fun _ i _ => S.size - (intOf i).toNat)
            case atStart => exact ⟨0, 0, Nat.zero_le _, rfl, rfl, rfl⟩
            case round =>
              obtain ⟨q, m, hq, rfl, htn, Hw⟩ := hrel
              subst htn
              generalize wr = wy at *
              by_cases hqM : q < S.size
              · have Hst := Lib.hid (turnsTo_step S.data.toList T.data.toList q)
                have Hext := Lib.hid (turn_ext S.data.toList S rfl q hq)
                have hqS : (q : Int) ≤ S.size := by omega
                have hqS' : (q : Int) < S.size := by omega
                obtain ⟨X, hX⟩ : ∃ X, S.extract q S.size = X := ⟨_, rfl⟩
                obtain ⟨Y, hY⟩ : ∃ Y, S.extract 0 q = Y := ⟨_, rfl⟩
                have hXs : X.size ≤ 9 := by rw [← hX]; simp; omega
                have hYs : Y.size ≤ 9 := by rw [← hY]; simp; omega
                have Hxy := Lib.hid (show X ++ Y = str (turnW S.data.toList q) by rw [← hX, ← hY]; exact Hext.out)
                have Heq := Lib.hid (show ((X ++ Y).toList == T.toList) = (turnW S.data.toList q == T.data.toList) by rw [Hxy.out, str_toList, ByteArray.toList_eq])
                clear Hext
                generalize (turnW S.data.toList q == T.data.toList) = E at *
                cases htq : turnsTo S.data.toList T.data.toList q
                · rw [htq, Bool.false_or] at Hst
                  have t1 : ((X ++ Y).toList == T.toList) = E := Heq.out
                  cases E
                  · go_wp2_with fail
                    go_quiet (fail)
                    go_wp2
                    go_roundw
                    case rel => exact ⟨q + 1, m + nq, by omega, by go_num, by rw [Hst.out], Lib.hid (by rw [Hw.out, World.drewN_drewN])⟩
                    case measure => simp [intOf]; omega
                  · go_wp2_with fail
                    go_quiet (fail)
                    go_wp2
                    go_roundw
                    case rel => exact ⟨q + 1, m + nq, by omega, by go_num, by rw [Hst.out], Lib.hid (by rw [Hw.out, World.drewN_drewN])⟩
                    case measure => simp [intOf]; omega
                · rw [htq, Bool.true_or] at Hst
                  go_wp2_with fail
                  go_quiet (fail)
                  go_wp2
                  go_roundw
                  case rel => exact ⟨q + 1, m + nq, by omega, by go_num, by rw [Hst.out], Lib.hid (by rw [Hw.out, World.drewN_drewN])⟩
                  case measure => simp [intOf]; omega
              · have hqe : q = S.size := by omega
                rw [hqe, Htu2.out]
                subst hqe
                have HBy := Lib.hid (show Below w.heap.size w wy by rw [Hw.out]; exact bdrewN HBx.out m)
                go_wp2
                go_ret
                exact ⟨by first | rfl | (cases sb <;> rfl), HBy.out⟩

set_option maxRecDepth 100000 in
theorem lifted (os : Os) (started : os.Started) (H : Type) (enc : TypeId × Value → H) :
    ReturnsInHanded {} Tryd.checked os 4 .any (fun w args => (Rows.fnBendWordsSpec.pre enc Tryd.prog Tryd.f4 [] false w args ∧ laidMetH Tryd.prog Rows.fnBendWordsRow.laid w) ∧ sizedMet enc Tryd.prog Tryd.f4 (OpenSpec.ofChange Rows.fnBendWordsSpec) false w args) (Rows.fnBendWordsSpec.post enc Tryd.prog Tryd.f4 false true false false) := by
  refine returnsInHanded_of_change_and (C := Tryd.checked) (X := fun w _ => laidMetH Tryd.prog Rows.fnBendWordsRow.laid w) (fun _ _ _ hh h => h.of_heap hh) own started (by kernel_rfl) Tryd.func4
    (ChangeSpec.witness_shaped (enc := enc) (C := Tryd.checked) (os := os) (X := fun w _ => laidMetH Tryd.prog Rows.fnBendWordsRow.laid w) false (World.laidAll Tryd.prog os Rows.fnBendWordsRow.laid) #[.slice none 0 0] 8 (World.laidAll_os _ _ _)
      (World.shaped_of_ZipB (by kernel_rfl) (by kernel_rfl)) (by kernel_rfl) (by kernel_rfl) (by kernel_rfl)
      (by rw [MakeChecks.laidMetH_plain _ _ _ (by kernel_rfl)]; exact laidMet_laidAll _ (by kernel_rfl) (by kernel_rfl))) ?_
  intro W base args ds gs before hval0 hW _ _ hL _
  have hval : ∀ (j : Nat) t v, Tryd.f4.params[j]? = some t → args[j]? = some v → Value.okWide Tryd.prog W .any base t v := hval0
  have hW' := hW
  obtain ⟨p, q, hA0, hV, rfl, hfz, hnd⟩ := hW
  have hA : DataW.TrodAll enc Tryd.prog W 0 (fun _ => true) true Tryd.f4.params.toList args.toList ds p := hA0
  rw [Tryd.params4] at hA hval
  obtain ⟨v0, vs0, d0, ds0, pP0, qQ0, hargs, rfl, rfl, k0, e0⟩ := trodAll_cons hA
  obtain ⟨rfl, rfl, rfl⟩ := trodAll_nil e0
  obtain rfl : args = #[v0] := by cases args; simp_all
  obtain ⟨rfl, rfl⟩ := trodVars_none hV
  have l0 := arg_lt k0
  obtain ⟨p0, n0, c0, x0, rfl, r0, b0⟩ := arg_bytes (hval 0 _ v0 rfl rfl) k0
  clear hA0 hval0
  refine (walk W p0 n0 c0 x0 r0 b0).mono fun e W' ⟨he, bel⟩ => ?_
  subst he
  exact ⟨_, rfl, _, _, _, [], _, [], hW', trodAll_mk1 (shut_bool Tryd.underlying4 _), (trodAll_cons_mk (Below.trod laidOut (by kernel_rfl) (of_decide_eq_true (by kernel_rfl)) k0 bel l0) trodAll_mk0), rfl, bel.frame _, fun h => by cases h⟩

theorem over : Rows.fnBendWordsRow.holds Tryd.pinned (OpenSpec.ofChange Rows.fnBendWordsSpec) :=
  OpenClaim.holds_of_wide 4 Tryd.f4 rfl rfl rfl rfl rfl rfl rfl ⟨rfl, rfl, rfl, rfl, rfl⟩ rfl rfl rfl rfl rfl (by kernel_rfl) Tryd.func4 (by kernel_rfl)
    (of_decide_eq_true (by kernel_rfl)) (by unfold Func.isWrapper; first | (rw [if_pos (by decide +kernel)]; kernel_rfl) | (rw [if_neg (by decide +kernel)]; exact ⟨rfl, rfl⟩))
    (fun os started H enc _ => lifted os started H enc)

set_option maxRecDepth 100000 in
/-- the statement -/
theorem proved : Rows.FnBendWordsCardSaid :=
  Claim7.holds_tied_plain_at .later [] [.data, .pinned] true (true, "1d651998bfae1ed96b0d6c1ba5d28faca8426f5e22d80e0502ecd37a990ab52e") false over (fun _ h => by cases h) (by kernel_rfl) (fun _ h => by cases h) fnBendWords_row_tie rfl ⟨rfl, rfl⟩ (by kernel_rfl) rfl
    (fun f fn hf hfn => by
      obtain rfl : f = 4 := Option.some.inj ((show Tryd.prog.funcNamed Rows.fnBendWordsRow.func = some 4 by kernel_rfl).symm.trans hf) |>.symm
      obtain rfl : fn = Tryd.f4 := (Option.some.inj (Tryd.func4.symm.trans hfn)).symm
      exact ⟨by kernel_rfl, fun j t ht => by
        rw [Tryd.params4] at ht
        have hm : t ∈ [22] := by simpa using Array.mem_of_getElem? ht
        have hall : ([22].all fun u => !Tryd.prog.wantsStandIn u) = true := by kernel_rfl
        exact (show Tryd.prog.wantsStandIn t = false by simpa using List.all_eq_true.1 hall t hm)⟩)
    (by kernel_rfl)
#print axioms proved
end Go.Proofs.YtcpacfedmppaeaaDoor.fnBendWords
