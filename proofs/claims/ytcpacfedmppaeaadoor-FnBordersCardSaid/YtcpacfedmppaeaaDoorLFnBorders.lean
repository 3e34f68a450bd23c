/-
  Proved here: the law FnBorders answers true at every input, and leaves its arguments as they were. No condition.
-/
import Derived.Test.YtcpacfedmppaeaaDoorFrame
import Derived.Test.YtcpacfedmppaeaaDoorTie
import Derived.Test.YtcpacfedmppaeaaDoorCards
import Derived.Lay
import Derived.SevenTiedAt
import Derived.LaidMore
import Derived.Stop.Joined
import Derived.Test.YtcpacfedmppaeaaDoorBendFn
namespace Go.Proofs.YtcpacfedmppaeaaDoor.fnBorders
open Go.ChangeShapes Go.WideShapes Go.ChangeAt Go.RowKit
set_option linter.unusedVariables false

set_option maxHeartbeats 16000000 in
set_option maxRecDepth 100000 in
theorem walk (w : World) (p0 : Option Addr) (n0 c0 : Nat) (x0 : List Int) (r0 : RV w p0 n0 c0 (x0.map (.int .u8))) (b0 : ∀ x ∈ x0, 0 ≤ x ∧ x ≤ 255) :
    Calls Tryd.prog 3 #[.slice p0 n0 c0] w fun e w' => e = .returned (.bool true) ∧ Below w.heap.size w w' := by
  by_cases hbig : (4096 : Int) < n0
  · go_enter Tryd.func3, Tryd.ntmps3
    go_wp2_with (go_at_call 5; refine (f6big_any _ _ _ _ r0.small).mono ?_; rw [decide_eq_true hbig]; rintro e w' ⟨rfl, rfl⟩)
    go_ret
    exact ⟨rfl, Below.refl _ _⟩
  have hB : Below w.heap.size w w := Below.refl _ _
  have Hr0 := Lib.hid r0
  have Hb0 := Lib.hid b0
  have hsm := r0.small
  clear r0 b0
  go_enter Tryd.func3, Tryd.ntmps3
  go_wp2_with fail
  with_reducible refine (f6big_any _ _ _ _ hsm).mono ?_
  rw [decide_eq_false (show ¬ (4096 : Int) < n0 by omega)]
  rintro e wq ⟨rfl, rfl⟩
  go_wp2_with fail
  with_reducible refine (DrawIsLocked_any _ _ _ _ _ Hr0.out Hb0.out).mono ?_
  rintro e w1 ⟨S, st, rfl, hS, hst, hb⟩
  replace hB := bstep hB hb (Nat.le_refl _)
  clear hb
  have hSm : S.size ≤ maxLen := by unfold maxLen; omega
  obtain ⟨lk, lc, HL⟩ : ∃ lk lc, Hid (lockR S.data.toList st = (lk, lc)) := ⟨_, _, rfl⟩
  obtain ⟨dn, dc, HD⟩ : ∃ dn dc, Hid (drawnR S.data.toList st = (dn, dc)) := ⟨_, _, rfl⟩
  obtain ⟨vb, HV⟩ : ∃ vb, Hid (vB S.data.toList = vb) := ⟨_, rfl⟩
  have H1 := Lib.hid (fun W => show Calls Tryd.prog 7 #[.string S, .int .i64 st] W fun e w' => e = rtb (lk, lc) ∧ Below W.heap.size W w' by have h := isLocked_any S st W hSm; rw [HL.out] at h; exact h)
  have H2 := Lib.hid (fun W => show Calls Tryd.prog 8 #[.string S, .int .i64 st] W fun e w' => e = rtb (lk, lc) ∧ ∃ q, w' = W.drewN q by have h := specIsLocked_any S st W hSm; rw [HL.out] at h; exact h)
  have H3 := Lib.hid (fun W => show Calls Tryd.prog 9 #[.string S, .int .i64 st] W fun e w' => e = rt2 (dn, dc) ∧ Below W.heap.size W w' by have h := drawnOutE_any S st W hSm; rw [HD.out] at h; exact h)
  have H4 := Lib.hid (fun W => show Calls Tryd.prog 10 #[.string S, .int .i64 st] W fun e w' => e = rt2 (dn, dc) ∧ Below W.heap.size W w' by have h := specDrawnOut_any S st W hSm; rw [HD.out] at h; exact h)
  have H5 := Lib.hid (fun W => show Calls Tryd.prog 21 #[.string S] W fun e w' => e = .returned (.bool vb) ∧ Below W.heap.size W w' by have h := validBends_any S W hSm; rw [HV.out] at h; exact h)
  have H6 := Lib.hid (fun W => show Calls Tryd.prog 22 #[.string S] W fun e w' => e = .returned (.bool vb) ∧ ∃ q, w' = W.drewN q by have h := specValidBends_any S W hSm; rw [HV.out] at h; exact h)
  have H7 := Lib.hid (fun W k => coversOfE_any S st k W hSm)
  have Hlo := Lib.hid (show lc = 0 → codeS S.data.toList st = 0 ∧ lk = decide (0 < (behindW S.data.toList : Int)) ∧ 3 ≤ st ∧ st ≤ 40 ∧ ∀ k, 0 ≤ k → k < st → coversR S.data.toList st k = (coversW S.data.toList st k, 0) from fun h => by
    have h2 := lock_ok (l := S.data.toList) (st := st) (by rw [HL.out]; exact h)
    rw [HL.out] at h2
    exact h2)
  have Hdo := Lib.hid (show dc = 0 → 1 ≤ dn ∧ dn ≤ st ∧ (lk = false → dn = st) from fun h => by
    have h2 := drawn_ok (l := S.data.toList) (st := st) (by rw [HD.out]; exact h)
    rw [HD.out, HL.out] at h2
    exact h2.2)
  clear HL HD HV hsm
  go_wp2_with fail
  with_reducible refine (H1.out _).mono ?_
  rintro e w2 ⟨rfl, hb⟩
  replace hB := bstep hB hb (Nat.le_refl _)
  clear hb
  go_wp2_with fail
  with_reducible refine (H2.out _).mono ?_
  rintro e wq ⟨rfl, q1, rfl⟩
  replace hB := bdrewN hB q1
  (try simp only [World.drewN_drewN] at hB)
  go_wp2_with fail
  with_reducible refine (H3.out _).mono ?_
  rintro e w3 ⟨rfl, hb⟩
  replace hB := bstep hB hb (Nat.le_refl _)
  clear hb
  go_wp2_with fail
  with_reducible refine (H4.out _).mono ?_
  rintro e w4 ⟨rfl, hb⟩
  replace hB := bstep hB hb (Nat.le_refl _)
  clear hb
  go_wp2_with fail
  with_reducible refine (DrawCoversOf_any _ _ _ _ _ (Hr0.out.below hB) Hb0.out).mono ?_
  rintro e w5 ⟨T, s2, k2, rfl, hT, hs2, hb⟩
  replace hB := bstep hB hb (Nat.le_refl _)
  clear hb
  have hTm : T.size ≤ maxLen := by unfold maxLen; omega
  obtain ⟨C, cc, HC⟩ : ∃ C cc, Hid (coversR T.data.toList s2 k2 = (C, cc)) := ⟨_, _, rfl⟩
  obtain ⟨en, ec, HE⟩ : ∃ en ec, Hid (endR T.data.toList s2 k2 = (en, ec)) := ⟨_, _, rfl⟩
  have G1 := Lib.hid (fun W => show Calls Tryd.prog 12 #[.string T, .int .i64 s2, .int .i64 k2] W (RetL W 2 (C, cc)) by have h := coversOfE_any T s2 k2 W hTm; rw [HC.out] at h; exact h)
  have G2 := Lib.hid (fun W => show Calls Tryd.prog 13 #[.string T, .int .i64 s2, .int .i64 k2] W (RetL W 2 (C, cc)) by have h := specCoversOf_any T s2 k2 W hTm; rw [HC.out] at h; exact h)
  have G3 := Lib.hid (fun W => show Calls Tryd.prog 14 #[.string T, .int .i64 s2, .int .i64 k2] W fun e w' => e = rt2 (en, ec) ∧ Below W.heap.size W w' by have h := endOfBend_any T s2 k2 W hTm; rw [HE.out] at h; exact h)
  have G4 := Lib.hid (fun W => show Calls Tryd.prog 15 #[.string T, .int .i64 s2, .int .i64 k2] W fun e w' => e = rt2 (en, ec) ∧ ∃ q, w' = W.drewN q by have h := specEndOfBend_any T s2 k2 W hTm; rw [HE.out] at h; exact h)
  clear HC HE
  go_wp2_with fail
  with_reducible refine (G1.out _).mono ?_
  rintro e w6 ⟨v6, rfl, ho, hb⟩
  obtain ⟨a6, c6, rfl, hr⟩ := ho.sliceI
  replace hB := bstep hB hb (Nat.le_refl _)
  have K6 := Lib.hid hr
  clear hb ho hr
  go_wp2_with fail
  with_reducible refine (G2.out _).mono ?_
  rintro e w7 ⟨v7, rfl, ho, hb⟩
  obtain ⟨a7, c7, rfl, hr⟩ := ho.sliceI
  replace hB := bstep hB hb (Nat.le_refl _)
  replace K6 := Lib.hid (K6.out.below hb)
  have K7 := Lib.hid hr
  clear hb ho hr
  go_wp2_with fail
  with_reducible refine (G3.out _).mono ?_
  rintro e w8 ⟨rfl, hb⟩
  replace hB := bstep hB hb (Nat.le_refl _)
  replace K6 := Lib.hid (K6.out.below hb)
  replace K7 := Lib.hid (K7.out.below hb)
  clear hb
  go_wp2_with fail
  with_reducible refine (G4.out _).mono ?_
  rintro e wq ⟨rfl, q2, rfl⟩
  replace hB := bdrewN hB q2
  replace K6 := Lib.hid (K6.out.drewN q2)
  replace K7 := Lib.hid (K7.out.drewN q2)
  (try simp only [World.drewN_drewN] at hB)
  (try simp only [World.drewN_drewN] at K6)
  (try simp only [World.drewN_drewN] at K7)
  go_wp2_with fail
  with_reducible refine (DrawListWords_any _ _ _ _ _ (Hr0.out.below hB) Hb0.out).mono ?_
  rintro e w9 ⟨nl, rfl, hb⟩
  replace hB := bstep hB hb (Nat.le_refl _)
  replace K6 := Lib.hid (K6.out.below hb)
  replace K7 := Lib.hid (K7.out.below hb)
  clear hb
  have Hla := Lib.hid (fun i hi => listR_at (n := nl) (i := i) hi)
  have Hll := Lib.hid (listR_len nl)
  obtain ⟨W8, wc8, HW⟩ : ∃ W8 wc8, Hid (listR nl = (W8, wc8)) := ⟨_, _, rfl⟩
  have F1 := Lib.hid (fun W => show Calls Tryd.prog 17 #[.int .i64 nl] W (RetS W 9 (W8, wc8)) by have h := listWordsE_any nl W; rw [HW.out] at h; exact h)
  have F2 := Lib.hid (fun W => show Calls Tryd.prog 18 #[.int .i64 nl] W (RetS W 9 (W8, wc8)) by have h := specListWords_any nl W; rw [HW.out] at h; exact h)
  rw [HW.out] at Hla Hll
  clear HW
  go_wp2_with fail
  with_reducible refine (F1.out _).mono ?_
  rintro e w11 ⟨v11, rfl, ho, hb⟩
  obtain ⟨a11, c11, rfl, hr⟩ := ho.sliceS
  replace hB := bstep hB hb (Nat.le_refl _)
  replace K6 := Lib.hid (K6.out.below hb)
  replace K7 := Lib.hid (K7.out.below hb)
  have K11 := Lib.hid hr
  clear hb ho hr
  go_wp2_with fail
  with_reducible refine (F2.out _).mono ?_
  rintro e w12 ⟨v12, rfl, ho, hb⟩
  obtain ⟨a12, c12, rfl, hr⟩ := ho.sliceS
  replace hB := bstep hB hb (Nat.le_refl _)
  replace K6 := Lib.hid (K6.out.below hb)
  replace K7 := Lib.hid (K7.out.below hb)
  replace K11 := Lib.hid (K11.out.below hb)
  have K12 := Lib.hid hr
  clear hb ho hr
  have hWn : W8.length ≤ 256 := Hll.out
  clear G1 G2 G3 G4 F1 F2 H1 H2 H3 H4 Hr0 Hb0 Hll
  go_wp2_with fail
  with_reducible refine (f6ints_yes _ _ _ _ _ C _ K6.out K7.out).mono ?_
  rintro e wq ⟨rfl, q3, rfl⟩
  replace hB := bdrewN hB q3
  replace K6 := Lib.hid (K6.out.drewN q3)
  replace K7 := Lib.hid (K7.out.drewN q3)
  replace K11 := Lib.hid (K11.out.drewN q3)
  replace K12 := Lib.hid (K12.out.drewN q3)
  (try simp only [World.drewN_drewN] at hB)
  (try simp only [World.drewN_drewN] at K6)
  (try simp only [World.drewN_drewN] at K7)
  (try simp only [World.drewN_drewN] at K11)
  (try simp only [World.drewN_drewN] at K12)
  have hms : strs W8 = (W8.map str).map .string := by simp [strs]
  go_wp2_with fail
  with_reducible refine (f6texts_yes _ _ _ _ _ (W8.map str) _ (hms ▸ K11.out) (hms ▸ K12.out)).mono ?_
  rintro e wq ⟨rfl, q4, rfl⟩
  replace hB := bdrewN hB q4
  replace K6 := Lib.hid (K6.out.drewN q4)
  replace K7 := Lib.hid (K7.out.drewN q4)
  replace K11 := Lib.hid (K11.out.drewN q4)
  replace K12 := Lib.hid (K12.out.drewN q4)
  (try simp only [World.drewN_drewN] at hB)
  (try simp only [World.drewN_drewN] at K6)
  (try simp only [World.drewN_drewN] at K7)
  (try simp only [World.drewN_drewN] at K11)
  (try simp only [World.drewN_drewN] at K12)
  go_wp2_with fail
  with_reducible refine (H5.out _).mono ?_
  rintro e w13 ⟨rfl, hb⟩
  replace hB := bstep hB hb (Nat.le_refl _)
  replace K6 := Lib.hid (K6.out.below hb)
  replace K7 := Lib.hid (K7.out.below hb)
  replace K11 := Lib.hid (K11.out.below hb)
  replace K12 := Lib.hid (K12.out.below hb)
  clear hb
  go_wp2_with fail
  with_reducible refine (H6.out _).mono ?_
  rintro e wq ⟨rfl, q5, rfl⟩
  replace hB := bdrewN hB q5
  replace K6 := Lib.hid (K6.out.drewN q5)
  replace K7 := Lib.hid (K7.out.drewN q5)
  replace K11 := Lib.hid (K11.out.drewN q5)
  replace K12 := Lib.hid (K12.out.drewN q5)
  (try simp only [World.drewN_drewN] at hB)
  (try simp only [World.drewN_drewN] at K6)
  (try simp only [World.drewN_drewN] at K7)
  (try simp only [World.drewN_drewN] at K11)
  (try simp only [World.drewN_drewN] at K12)
  clear K6 K7 K11 H5 H6 hms
  have HB := Lib.hid hB
  generalize w13.drewN q5 = w0 at *
  clear hB
  generalize hN : W8.length = N at *
  have HN := Lib.hid hN
  clear hN
  go_wp2_with fail
  go_loopw [29] (fun i wr => ∃ k : Nat, k ≤ N ∧ i = .int .i64 k ∧ Hid (Below w0.heap.size w0 wr)) (fun i _ => N - (intOf i).toNat)
  case atStart => exact ⟨0, Nat.zero_le _, rfl, Lib.hid (Below.refl _ _)⟩
  case round =>
    obtain ⟨k, hk, rfl, Hbl⟩ := hrel
    generalize wr = wx at *
    by_cases hkN : k < N
    · have hrv := K12.out.below Hbl.out
      obtain ⟨bq, oq, hq, hbq, hcq⟩ := hrv.cellv (show N ≠ 0 by omega)
      have hkl : k < W8.length := by rw [HN.out]; exact hkN
      obtain ⟨hv, hf, hless⟩ := Hla.out k hkN
      have e1 := hcq k _ (strs_get hkl)
      have h8 := (vB_iff.1 hv).2.1
      obtain ⟨x, Hx⟩ : ∃ x, Hid (x = W8.getD k []) := ⟨_, rfl⟩
      rw [← Hx.out] at hv hf e1 h8
      have hxs : (str x).size ≤ maxLen := by
        have : (str x).size = x.length := by rw [← size_list, str_list]
        rw [this]; unfold maxLen; omega
      have Hfw := Lib.hid (fun W => show Calls Tryd.prog 23 #[.string (str x)] W fun e w' => e = rtS (str x, 0) ∧ Below W.heap.size W w' by
        have h := firstWordE_any (str x) W hxs
        rw [str_list, first_ok hv hf] at h
        exact h)
      have hkN' : (k : Int) < N := by omega
      by_cases hk0 : k = 0
      · subst hk0
        rw [Nat.add_zero] at e1
        subst hq
        have Hfr := Lib.hid (hrv)
        clear hcq hless hrv
        go_wp2_with fail
        with_reducible refine (Hfw.out _).mono ?_
        rintro e w14 ⟨rfl, hb⟩
        have e2 := (hb.cell (p := ⟨bq, oq, none⟩) hbq).trans e1
        have Hb14 := Lib.hid (bstep Hbl.out hb (Nat.le_refl _))
        clear hb e1
        go_wp2_with fail
        go_quiet (fail)
        go_wp2
        go_roundw
        case rel => exact ⟨1, by omega, by go_num, Lib.hid (bdrewN Hb14.out _)⟩
        case measure => simp [intOf]; omega
      · obtain ⟨j, rfl⟩ : ∃ j, k = j + 1 := ⟨k - 1, by omega⟩
        have e3 := hcq j _ (strs_get (show j < W8.length by omega))
        have hl3 := hless j rfl
        obtain ⟨y, Hy⟩ : ∃ y, Hid (y = W8.getD j []) := ⟨_, rfl⟩
        rw [← Hx.out, ← Hy.out] at hl3
        rw [← Hy.out] at e3
        have t1 : Op.bytesLess (str y).toList (str x).toList = true := by rw [str_toList, str_toList]; exact hl3
        subst hq
        have hj1 : ((j + 1 : Nat) : Int) - 1 = (j : Int) := by omega
        have hw3 : IntKind.i64.wrap (((j + 1 : Nat) : Int) - 1) = (j : Int) := by rw [hj1]; exact IntWalk.i64_in _ (by omega)
        have hw4 : IntKind.i64.wrap ((j : Int) + 1 - 1) = (j : Int) := by rw [show (j : Int) + 1 - 1 = j by omega]; exact IntWalk.i64_in _ (by omega)
        have t6 : decide ((0 : Int) < ((j + 1 : Nat) : Int)) = true := decide_eq_true (by omega)
        have hjN : (j : Int) < N := by omega
        clear hcq hless hrv hl3 hk0 hj1
        go_wp2_with fail
        with_reducible refine (Hfw.out _).mono ?_
        rintro e w14 ⟨rfl, hb⟩
        have e2 := (hb.cell (p := ⟨bq, oq + (j + 1), none⟩) hbq).trans e1
        have e4 := (hb.cell (p := ⟨bq, oq + j, none⟩) hbq).trans e3
        have Hb14 := Lib.hid (bstep Hbl.out hb (Nat.le_refl _))
        clear hb e1 e3
        go_wp2_with fail
        go_quiet (fail)
        go_wp2
        go_roundw
        case rel => exact ⟨j + 1 + 1, by omega, by go_num, Lib.hid (bdrewN Hb14.out _)⟩
        case measure => simp [intOf]; omega
    · have hkN : k = N := by omega
      subst hkN
      have HBx := Lib.hid (HB.out.trans (Hbl.out.mono HB.out.size))
      clear Hbl HB Hla K12
      go_upto_region 24 with fail
      go_cut [229] (fun sq wc => sq = .bool false ∧ wc = wx)
      case first =>
        by_cases hdc : dc = 0
        · have z1 : (dc == 0) = true := by simp [hdc]
          obtain ⟨d1, d2, d3⟩ := Hdo.out hdc
          have t1 : decide (dn < 1) = false := decide_eq_false (by omega)
          have t2 : decide (st < dn) = false := decide_eq_false (by omega)
          clear hdc
          cases lk
          · have t3 : (dn != st) = false := bne_eq_false_iff_eq.2 (d3 rfl)
            clear d1 d2 d3
            go_wp2
            go_meet
            exact ⟨rfl, rfl⟩
          · clear d1 d2 d3
            go_wp2
            go_meet
            exact ⟨rfl, rfl⟩
        · have z1 : (dc == 0) = false := by simp [hdc]
          clear hdc
          go_wp2
          go_meet
          exact ⟨rfl, rfl⟩
      obtain ⟨rfl, hwc⟩ := hcut
      rw [hwc]
      clear hwc Hdo
      by_cases hlc : ¬ lc = 0
      · have z1 : (lc != 0) = true := by simp [hlc]
        clear hlc
        go_wp2
        go_ret
        exact ⟨rfl, HBx.out⟩
      · have hlc := Decidable.not_not.1 hlc
        obtain ⟨_, h2, h3, h4, h5⟩ := Hlo.out hlc
        have Hcov := Lib.hid h5
        have Hpos := Lib.hid (fun k => covers_pos S.data.toList st k)
        rw [← h2] at Hpos
        subst hlc
        obtain ⟨M, rfl⟩ : ∃ M : Nat, st = (M : Int) := ⟨st.toNat, by omega⟩
        clear h2 h5 Hlo
        go_wp2_with fail
        go_loopw [32, 33] (fun al i wr => ∃ q : Nat, q ≤ M ∧ i = .int .i64 q ∧ al = .bool (decide (q = 0) || lk) ∧ Hid (Below wx.heap.size wx wr)) (fun _ i _ => M - (intOf i).toNat)
        case atStart => exact ⟨0, Nat.zero_le _, rfl, rfl, Lib.hid (Below.refl _ _)⟩
        case round =>
          obtain ⟨q, hq, rfl, hal, Hb2⟩ := hrel
          subst hal
          generalize wr = wy at *
          by_cases hqM : q < M
          · have Hc := Lib.hid (fun W => show Calls Tryd.prog 12 #[.string S, .int .i64 M, .int .i64 q] W (RetL W 2 (coversW S.data.toList M q, 0)) by
              have h := H7.out W q
              rw [Hcov.out q (by omega) (by omega)] at h
              exact h)
            have hps := Hpos.out q
            generalize coversW S.data.toList M q = cw at *
            have hqM' : (q : Int) < M := by omega
            have Hal : Hid ((decide (q + 1 = 0) || lk) = lk) := Lib.hid (by simp)
            go_wp2_with fail
            with_reducible refine (Hc.out _).mono ?_
            rintro e w15 ⟨v15, rfl, ho, hb⟩
            obtain ⟨a15, c15, rfl, hr⟩ := ho.sliceI
            have Hb15 := Lib.hid (bstep Hb2.out hb (Nat.le_refl _))
            clear ho hr hb
            generalize cw.length = cn at *
            have hps2 : decide (0 < cn) = lk := by rw [← hps]; simp
            by_cases hq0 : q = 0
            · subst hq0
              go_wp2
              go_roundw
              case rel => exact ⟨1, by omega, by go_num, by first | (rw [hps2]; simp; done) | (simp; done), Hb15⟩
              case measure => simp [intOf]; omega
            · have hz : decide (q = 0) = false := by simp [hq0]
              rw [hz, Bool.false_or]
              cases lk
              · go_wp2
                go_roundw
                case rel => exact ⟨q + 1, by omega, by go_num, by simp, Hb15⟩
                case measure => simp [intOf]; omega
              · go_wp2
                go_roundw
                case rel => exact ⟨q + 1, by omega, by go_num, by first | (rw [hps2]; simp; done) | (simp; done), Hb15⟩
                case measure => simp [intOf]; omega
          · have hz : decide (q = 0) = false := by simp; omega
            rw [hz, Bool.false_or]
            go_wp2
            go_ret
            exact ⟨by first | rfl | (cases lk <;> rfl), HBx.out.trans (Hb2.out.mono HBx.out.size)⟩

set_option maxRecDepth 100000 in
theorem lifted (os : Os) (started : os.Started) (H : Type) (enc : TypeId × Value → H) :
    ReturnsInHanded {} Tryd.checked os 3 .any (fun w args => (Rows.fnBordersSpec.pre enc Tryd.prog Tryd.f3 [] false w args ∧ laidMetH Tryd.prog Rows.fnBordersRow.laid w) ∧ sizedMet enc Tryd.prog Tryd.f3 (OpenSpec.ofChange Rows.fnBordersSpec) false w args) (Rows.fnBordersSpec.post enc Tryd.prog Tryd.f3 false true false false) := by
  refine returnsInHanded_of_change_and (C := Tryd.checked) (X := fun w _ => laidMetH Tryd.prog Rows.fnBordersRow.laid w) (fun _ _ _ hh h => h.of_heap hh) own started (by kernel_rfl) Tryd.func3
    (ChangeSpec.witness_shaped (enc := enc) (C := Tryd.checked) (os := os) (X := fun w _ => laidMetH Tryd.prog Rows.fnBordersRow.laid w) false (World.laidAll Tryd.prog os Rows.fnBordersRow.laid) #[.slice none 0 0] 8 (World.laidAll_os _ _ _)
      (World.shaped_of_ZipB (by kernel_rfl) (by kernel_rfl)) (by kernel_rfl) (by kernel_rfl) (by kernel_rfl)
      (by rw [MakeChecks.laidMetH_plain _ _ _ (by kernel_rfl)]; exact laidMet_laidAll _ (by kernel_rfl) (by kernel_rfl))) ?_
  intro W base args ds gs before hval0 hW _ _ hL _
  have hval : ∀ (j : Nat) t v, Tryd.f3.params[j]? = some t → args[j]? = some v → Value.okWide Tryd.prog W .any base t v := hval0
  have hW' := hW
  obtain ⟨p, q, hA0, hV, rfl, hfz, hnd⟩ := hW
  have hA : DataW.TrodAll enc Tryd.prog W 0 (fun _ => true) true Tryd.f3.params.toList args.toList ds p := hA0
  rw [Tryd.params3] at hA hval
  obtain ⟨v0, vs0, d0, ds0, pP0, qQ0, hargs, rfl, rfl, k0, e0⟩ := trodAll_cons hA
  obtain ⟨rfl, rfl, rfl⟩ := trodAll_nil e0
  obtain rfl : args = #[v0] := by cases args; simp_all
  obtain ⟨rfl, rfl⟩ := trodVars_none hV
  have l0 := arg_lt k0
  obtain ⟨p0, n0, c0, x0, rfl, r0, b0⟩ := arg_bytes (hval 0 _ v0 rfl rfl) k0
  clear hA0 hval0
  refine (walk W p0 n0 c0 x0 r0 b0).mono fun e W' ⟨he, bel⟩ => ?_
  subst he
  exact ⟨_, rfl, _, _, _, [], _, [], hW', trodAll_mk1 (shut_bool Tryd.underlying4 _), (trodAll_cons_mk (Below.trod laidOut (by kernel_rfl) (of_decide_eq_true (by kernel_rfl)) k0 bel l0) trodAll_mk0), rfl, bel.frame _, fun h => by cases h⟩

theorem over : Rows.fnBordersRow.holds Tryd.pinned (OpenSpec.ofChange Rows.fnBordersSpec) :=
  OpenClaim.holds_of_wide 3 Tryd.f3 rfl rfl rfl rfl rfl rfl rfl ⟨rfl, rfl, rfl, rfl, rfl⟩ rfl rfl rfl rfl rfl (by kernel_rfl) Tryd.func3 (by kernel_rfl)
    (of_decide_eq_true (by kernel_rfl)) (by unfold Func.isWrapper; first | (rw [if_pos (by decide +kernel)]; kernel_rfl) | (rw [if_neg (by decide +kernel)]; exact ⟨rfl, rfl⟩))
    (fun os started H enc _ => lifted os started H enc)

set_option maxRecDepth 100000 in
/-- the statement -/
theorem proved : Rows.FnBordersCardSaid :=
  Claim7.holds_tied_plain_at .later [] [.data, .pinned] true (true, "1d651998bfae1ed96b0d6c1ba5d28faca8426f5e22d80e0502ecd37a990ab52e") false over (fun _ h => by cases h) (by kernel_rfl) (fun _ h => by cases h) fnBorders_row_tie rfl ⟨rfl, rfl⟩ (by kernel_rfl) rfl
    (fun f fn hf hfn => by
      obtain rfl : f = 3 := Option.some.inj ((show Tryd.prog.funcNamed Rows.fnBordersRow.func = some 3 by kernel_rfl).symm.trans hf) |>.symm
      obtain rfl : fn = Tryd.f3 := (Option.some.inj (Tryd.func3.symm.trans hfn)).symm
      exact ⟨by kernel_rfl, fun j t ht => by
        rw [Tryd.params3] at ht
        have hm : t ∈ [22] := by simpa using Array.mem_of_getElem? ht
        have hall : ([22].all fun u => !Tryd.prog.wantsStandIn u) = true := by kernel_rfl
        exact (show Tryd.prog.wantsStandIn t = false by simpa using List.all_eq_true.1 hall t hm)⟩)
    (by kernel_rfl)
#print axioms proved
end Go.Proofs.YtcpacfedmppaeaaDoor.fnBorders
