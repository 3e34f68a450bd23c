/-
  Proved here: the law FnBases answers true at every input, and leaves its arguments as they were. No condition.
-/
import Derived.Test.YtimomjkeknlcgaaDoorFrame
import Derived.Test.YtimomjkeknlcgaaDoorTie
import Derived.Test.YtimomjkeknlcgaaDoorCards
import Derived.Lay
import Derived.SevenTiedAt
import Derived.LaidMore
import Derived.Stop.Joined
import Derived.Test.YtimomjkeknlcgaaDoorBaseFn
import Derived.Test.YtimomjkeknlcgaaDoorBaseDraw3
import Derived.Test.YtimomjkeknlcgaaDoorBaseTxt3
import Derived.Test.YtimomjkeknlcgaaDoorF6
namespace Go.Proofs.YtimomjkeknlcgaaDoor.fnBases
open Go.ChangeShapes Go.WideShapes Go.ChangeAt Go.RowKit
set_option linter.unusedVariables false

set_option maxHeartbeats 16000000 in
set_option maxRecDepth 100000 in
theorem walk (w : World) (p0 : Option Addr) (n0 c0 : Nat) (x0 : List Int) (r0 : RV w p0 n0 c0 (x0.map (.int .u8))) (b0 : ∀ x ∈ x0, 0 ≤ x ∧ x ≤ 255)
    (htab : Lib.TabIs Tryd.prog w "internal/strconv.uint64pow10" .u64 Lib.pow10Tab) : Calls Tryd.prog 4 #[.slice p0 n0 c0] w fun e w' => e = .returned (.bool true) ∧ Below w.heap.size w w' := by
  --TAB
  by_cases hbig : (4096 : Int) < n0
  · go_enter Tryd.func4, Tryd.ntmps4
    go_wp2_with (go_at_call 8; refine (f6big_any _ _ _ _ r0.small).mono ?_; rw [decide_eq_true hbig]; rintro e w' ⟨rfl, rfl⟩)
    go_ret
    exact ⟨rfl, Below.refl _ _⟩
  have hB : Below w.heap.size w w := Below.refl _ _
  have Hr0 := Lib.hid r0
  have Hb0 := Lib.hid b0
  have hsm := r0.small
  have Htab := Lib.hid htab
  clear r0 b0 htab
  go_enter Tryd.func4, Tryd.ntmps4
  go_wp2_with fail
  refine (f6big_any _ _ _ _ hsm).mono ?_
  rw [decide_eq_false (show ¬ (4096 : Int) < n0 by omega)]
  rintro e wq ⟨rfl, rfl⟩
  go_wp2_with fail
  with_reducible refine (DrawRingsOf_any _ _ _ _ _ Hr0.out Hb0.out).mono ?_
  rintro e w1 ⟨tb, sb, rb, kb, rfl, hb⟩
  replace hB := bstep hB hb (Nat.le_refl _)
  clear hb
  obtain ⟨lr, cd, HR⟩ : ∃ lr cd, Hid (ringsR tb sb rb kb = (lr, cd)) := ⟨_, _, rfl⟩
  obtain ⟨wv, wc, HW⟩ : ∃ wv wc, Hid (weaverR tb sb rb kb = (wv, wc)) := ⟨_, _, rfl⟩
  have Hri := Lib.hid (fun W => show Calls Tryd.prog 10 #[.agg #[.int .i64 tb, .int .i64 sb, .int .i64 rb, .int .i64 kb]] W (RetL W 2 (lr, cd)) by have h := RingsOf_any tb sb rb kb W; rw [HR.out] at h; exact h)
  have Hrs := Lib.hid (fun W => show Calls Tryd.prog 11 #[.agg #[.int .i64 tb, .int .i64 sb, .int .i64 rb, .int .i64 kb]] W (RetL W 2 (lr, cd)) by have h := specRingsOf_any tb sb rb kb W; rw [HR.out] at h; exact h)
  have Hwi := Lib.hid (fun W => show Calls Tryd.prog 12 #[.agg #[.int .i64 tb, .int .i64 sb, .int .i64 rb, .int .i64 kb]] W fun e w' => e = ret2 (wv, wc) ∧ Below W.heap.size W w' by have h := WeaverFor_any tb sb rb kb W; rw [HW.out] at h; exact h)
  have Hws := Lib.hid (fun W => show Calls Tryd.prog 13 #[.agg #[.int .i64 tb, .int .i64 sb, .int .i64 rb, .int .i64 kb]] W fun e w' => e = ret2 (wv, wc) ∧ Below W.heap.size W w' by have h := specWeaverFor_any tb sb rb kb W; rw [HW.out] at h; exact h)
  go_wp2_with fail
  with_reducible refine (Hri.out _).mono ?_
  rintro e w2 ⟨v_rl, rfl, ho_rl, hb⟩
  obtain ⟨a_rl, c_rl, rfl, hrv_rl⟩ := ho_rl.sliceI
  clear ho_rl
  have hn_b : Blk (w1.alloc (.cells #[.int .i64 tb, .int .i64 sb, .int .i64 rb, .int .i64 kb] 25)) w1.heap.size [.int .i64 tb, .int .i64 sb, .int .i64 rb, .int .i64 kb] 25 := Blk.box _ _ _ rfl
  replace hB := hB.alloc hB.size (.cells #[.int .i64 tb, .int .i64 sb, .int .i64 rb, .int .i64 kb] 25)
  have hb_b := hn_b
  clear hn_b
  replace hb_b := hb_b.below hb
  replace hB := bstep hB hb (Nat.le_refl _)
  clear hb
  have c_b0 := hb_b.cell 0 _ rfl
  have c_b1 := hb_b.cell 1 _ rfl
  have c_b2 := hb_b.cell 2 _ rfl
  have c_b3 := hb_b.cell 3 _ rfl
  go_wp2_with fail
  with_reducible refine (Hrs.out _).mono ?_
  rintro e w3 ⟨v_ml, rfl, ho_ml, hb⟩
  obtain ⟨a_ml, c_ml, rfl, hrv_ml⟩ := ho_ml.sliceI
  clear ho_ml
  replace hb_b := hb_b.below hb
  replace hrv_rl := hrv_rl.below hb
  replace hB := bstep hB hb (Nat.le_refl _)
  clear hb
  clear c_b0 c_b1 c_b2 c_b3
  have c_b0 := hb_b.cell 0 _ rfl
  have c_b1 := hb_b.cell 1 _ rfl
  have c_b2 := hb_b.cell 2 _ rfl
  have c_b3 := hb_b.cell 3 _ rfl
  go_wp2_with fail
  with_reducible refine (Hwi.out _).mono ?_
  rintro e w4 ⟨rfl, hb⟩
  replace hb_b := hb_b.below hb
  replace hrv_rl := hrv_rl.below hb
  replace hrv_ml := hrv_ml.below hb
  replace hB := bstep hB hb (Nat.le_refl _)
  clear hb
  clear c_b0 c_b1 c_b2 c_b3
  have c_b0 := hb_b.cell 0 _ rfl
  have c_b1 := hb_b.cell 1 _ rfl
  have c_b2 := hb_b.cell 2 _ rfl
  have c_b3 := hb_b.cell 3 _ rfl
  go_wp2_with fail
  with_reducible refine (Hws.out _).mono ?_
  rintro e w5 ⟨rfl, hb⟩
  replace hb_b := hb_b.below hb
  replace hrv_rl := hrv_rl.below hb
  replace hrv_ml := hrv_ml.below hb
  replace hB := bstep hB hb (Nat.le_refl _)
  clear hb
  clear c_b0 c_b1 c_b2 c_b3
  go_wp2_with fail
  with_reducible refine (DrawBaseFor_any _ _ _ _ _ (Hr0.out.below hB) Hb0.out).mono ?_
  rintro e w6 ⟨st, rfl, hb⟩
  replace hb_b := hb_b.below hb
  replace hrv_rl := hrv_rl.below hb
  replace hrv_ml := hrv_ml.below hb
  replace hB := bstep hB hb (Nat.le_refl _)
  clear hb
  obtain ⟨bx, by', bf, bc, HF⟩ : ∃ bx by' bf bc, Hid (baseForR st = (bx, by', bf, bc)) := ⟨_, _, _, _, rfl⟩
  have Hfi := Lib.hid (fun W => show Calls Tryd.prog 15 #[.int .i64 st] W fun e w' => e = ret4 (bx, by', bf, bc) ∧ W = w' by have h := BaseFor_any st W; rw [HF.out] at h; exact h)
  have Hfs := Lib.hid (fun W => show Calls Tryd.prog 16 #[.int .i64 st] W fun e w' => e = ret4 (bx, by', bf, bc) ∧ W = w' by have h := specBaseFor_any st W; rw [HF.out] at h; exact h)
  go_wp2_with fail
  with_reducible refine (Hfi.out _).mono ?_
  rintro e wsame ⟨rfl, rfl⟩
  go_wp2_with fail
  with_reducible refine (Hfs.out _).mono ?_
  rintro e wsame ⟨rfl, rfl⟩
  go_wp2_with fail
  with_reducible refine (DrawStakesFrom_any _ _ _ _ _ (Hr0.out.below hB) Hb0.out).mono ?_
  rintro e w7 ⟨ta, sa, ra, ka, ea, fa, rfl, hb⟩
  replace hb_b := hb_b.below hb
  replace hrv_rl := hrv_rl.below hb
  replace hrv_ml := hrv_ml.below hb
  replace hB := bstep hB hb (Nat.le_refl _)
  clear hb
  obtain ⟨mv, mc, HM⟩ : ∃ mv mc, Hid (stakesFromR ta sa ra ka ea fa = (mv, mc)) := ⟨_, _, rfl⟩
  have Hmi := Lib.hid (fun W => show Calls Tryd.prog 18 #[.agg #[.int .i64 ta, .int .i64 sa, .int .i64 ra, .int .i64 ka], .int .i64 ea, .int .i64 fa] W fun e w' => e = ret2 (mv, mc) ∧ Below W.heap.size W w' by have h := StakesFrom_any ta sa ra ka ea fa W; rw [HM.out] at h; exact h)
  have Hms := Lib.hid (fun W => show Calls Tryd.prog 19 #[.agg #[.int .i64 ta, .int .i64 sa, .int .i64 ra, .int .i64 ka], .int .i64 ea, .int .i64 fa] W fun e w' => e = ret2 (mv, mc) ∧ Below W.heap.size W w' by have h := specStakesFrom_any ta sa ra ka ea fa W; rw [HM.out] at h; exact h)
  go_wp2_with fail
  with_reducible refine (Hmi.out _).mono ?_
  rintro e w8 ⟨rfl, hb⟩
  have hn_a : Blk (w7.alloc (.cells #[.int .i64 ta, .int .i64 sa, .int .i64 ra, .int .i64 ka] 25)) w7.heap.size [.int .i64 ta, .int .i64 sa, .int .i64 ra, .int .i64 ka] 25 := Blk.box _ _ _ rfl
  replace hb_b := hb_b.alloc (.cells #[.int .i64 ta, .int .i64 sa, .int .i64 ra, .int .i64 ka] 25)
  replace hrv_rl := hrv_rl.below ((Below.refl _ _).alloc (Nat.le_refl _) (.cells #[.int .i64 ta, .int .i64 sa, .int .i64 ra, .int .i64 ka] 25))
  replace hrv_ml := hrv_ml.below ((Below.refl _ _).alloc (Nat.le_refl _) (.cells #[.int .i64 ta, .int .i64 sa, .int .i64 ra, .int .i64 ka] 25))
  replace hB := hB.alloc hB.size (.cells #[.int .i64 ta, .int .i64 sa, .int .i64 ra, .int .i64 ka] 25)
  have hb_a := hn_a
  clear hn_a
  replace hb_b := hb_b.below hb
  replace hb_a := hb_a.below hb
  replace hrv_rl := hrv_rl.below hb
  replace hrv_ml := hrv_ml.below hb
  replace hB := bstep hB hb (Nat.le_refl _)
  clear hb
  have c_a0 := hb_a.cell 0 _ rfl
  have c_a1 := hb_a.cell 1 _ rfl
  have c_a2 := hb_a.cell 2 _ rfl
  have c_a3 := hb_a.cell 3 _ rfl
  go_wp2_with fail
  with_reducible refine (Hms.out _).mono ?_
  rintro e w9 ⟨rfl, hb⟩
  replace hb_b := hb_b.below hb
  replace hb_a := hb_a.below hb
  replace hrv_rl := hrv_rl.below hb
  replace hrv_ml := hrv_ml.below hb
  replace hB := bstep hB hb (Nat.le_refl _)
  clear hb
  clear c_a0 c_a1 c_a2 c_a3
  clear hb_a Hri Hrs Hwi Hws Hfi Hfs Hmi Hms
  have Hst3 := Lib.hid (show mc = 0 → 3 ≤ mv from fun h => stakesFromR_ok (by rw [HM.out, h]))
  have Hbf := Lib.hid (show bc = 0 → (1 ≤ bx ∧ bx ≤ 12) ∧ (1 ≤ by' ∧ by' ≤ 12) ∧ by' ≤ bx ∧ bx ≤ by' + 1 ∧ stakesFromR bx by' 100 2 2 bf = (st, 0) from fun h => baseForR_ok (by rw [HF.out, h]))
  clear HM HF
  obtain ⟨T, HT⟩ : ∃ T, Hid (baseTextR tb sb rb kb = T) := ⟨_, rfl⟩
  obtain ⟨vb, HV⟩ : ∃ vb, Hid (vBase tb sb rb kb = vb) := ⟨_, rfl⟩
  have Hvi := Lib.hid (fun W => show Calls Tryd.prog 21 #[.agg #[.int .i64 tb, .int .i64 sb, .int .i64 rb, .int .i64 kb]] W fun e w' => e = .returned (.bool vb) ∧ Below W.heap.size W w' by have h := validBase_any tb sb rb kb W; rw [HV.out] at h; exact h)
  have Hvs := Lib.hid (fun W => show Calls Tryd.prog 22 #[.agg #[.int .i64 tb, .int .i64 sb, .int .i64 rb, .int .i64 kb]] W fun e w' => e = .returned (.bool vb) ∧ Below W.heap.size W w' by have h := specValidBase_any tb sb rb kb W; rw [HV.out] at h; exact h)
  have Hts := Lib.hid (fun W => show Calls Tryd.prog 5 #[.agg #[.int .i64 tb, .int .i64 sb, .int .i64 rb, .int .i64 kb]] W fun e w' => e = .returned (.string T) ∧ Below W.heap.size W w' by have h := specBaseText_any tb sb rb kb W; rw [HT.out] at h; exact h)
  have Hti := Lib.hid (fun W (ht : Lib.TabIs Tryd.prog W "internal/strconv.uint64pow10" .u64 Lib.pow10Tab) => show Calls Tryd.prog 7 #[.agg #[.int .i64 tb, .int .i64 sb, .int .i64 rb, .int .i64 kb]] W fun e w' => e = .returned (.string T) ∧ Below W.heap.size W w' by have h := baseText_any tb sb rb kb W ht; rw [HT.out] at h; exact h)
  have c_b0 := hb_b.cell 0 _ rfl
  have c_b1 := hb_b.cell 1 _ rfl
  have c_b2 := hb_b.cell 2 _ rfl
  have c_b3 := hb_b.cell 3 _ rfl
  have Htb := Lib.hid (Joins.tab_stays (g := 0) (by kernel_rfl) Htab.out hB (Nat.le_refl _))
  have Hbk := Lib.hid hb_b.lt
  have Hbb := Lib.hid hb_b
  have HB := Lib.hid hB
  have Hrl := Lib.hid hrv_rl
  have Hml := Lib.hid hrv_ml
  clear hb_b hB hrv_rl hrv_ml Htab
  generalize w1.heap.size = gb at *
  obtain ⟨wa, hwa⟩ : ∃ x : World, x = w9 := ⟨_, rfl⟩
  subst hwa
  go_wp2_with fail
  go_upto_region 14 with fail
  go_cut [156] (fun sq wc => sq = .bool false ∧ Below wa.heap.size wa wc)
  case first => as_aux_lemma =>
    go_region_held3 (fun w' => w'.cell? ⟨gb, 0, none⟩ = some (.int .i64 tb) ∧ w'.cell? ⟨gb, 1, none⟩ = some (.int .i64 sb) ∧ w'.cell? ⟨gb, 2, none⟩ = some (.int .i64 rb) ∧ w'.cell? ⟨gb, 3, none⟩ = some (.int .i64 kb) ∧ Below wa.heap.size wa w') (first | assumption | exact ⟨c_b0, c_b1, c_b2, c_b3, Below.refl _ _⟩ | exact bt_drew ⟨c_b0, c_b1, c_b2, c_b3, Below.refl _ _⟩ | exact bt_drew (by assumption) | exact bt_keep (by assumption) hb2 Hbk.out) (first | (go_at_call 21; (with_reducible refine (Hvi.out _).mono ?_); rintro e w2 ⟨rfl, hb2⟩) | (go_at_call 22; (with_reducible refine (Hvs.out _).mono ?_); rintro e w2 ⟨rfl, hb2⟩) | (go_at_call 7; (with_reducible refine (Hti.out _ (bt_tab Htb.out (by assumption))).mono ?_); rintro e w2 ⟨rfl, hb2⟩) | (go_at_call 5; (with_reducible refine (Hts.out _).mono ?_); rintro e w2 ⟨rfl, hb2⟩) | (go_at_call 20; (with_reducible refine (f6ints_yes _ _ _ _ _ _ _ (Hrl.out.below (bt_below (by assumption))) (Hml.out.below (bt_below (by assumption)))).mono ?_); rintro e w2 ⟨rfl, q, hq⟩; have hb2 := below_of_drewN hq; clear hq))
    all_goals
      rename_i hH
      go_wp2_with fail
      go_meet
      exact ⟨rfl, hH.2.2.2.2⟩
  obtain ⟨rfl, hcb⟩ := hcut
  replace HB := Lib.hid (bstep HB.out hcb (Nat.le_refl _))
  replace Hrl := Lib.hid (Hrl.out.below hcb)
  replace Hml := Lib.hid (Hml.out.below hcb)
  replace Hbb := Lib.hid (Hbb.out.below hcb)
  clear c_b0 c_b1 c_b2 c_b3 hcb Htb Hti Hts Hvi Hvs HT HV Hbk
  obtain ⟨wz, hwz⟩ : ∃ x : World, x = wc := ⟨_, rfl⟩
  subst hwz
  by_cases hbc : bc = 0
  · have z1 : (bc == 0) = true := by simp [hbc]
    obtain ⟨⟨x1, x2⟩, ⟨y1, y2⟩, h3, h4, h5⟩ := Hbf.out hbc
    have Hown := Lib.hid (fun W => show Calls Tryd.prog 18 #[.agg #[.int .i64 bx, .int .i64 by', .int .i64 100, .int .i64 2], .int .i64 2, .int .i64 bf] W fun e w' => e = ret2 (st, 0) ∧ Below W.heap.size W w' by have h := StakesFrom_any bx by' 100 2 2 bf W; rw [h5] at h; exact h)
    have k1 : decide (bx < by') = false := decide_eq_false (by omega)
    have k2 := IntWalk.i64_in (by' + 1) (by omega)
    have k3 : decide (by' + 1 < bx) = false := decide_eq_false (by omega)
    clear hbc Hbf h5
    go_wp2_with fail
    with_reducible refine (Hown.out _).mono ?_
    rintro e wo ⟨rfl, hb⟩
    replace HB := Lib.hid (bstep HB.out hb (Nat.le_refl _))
    replace Hrl := Lib.hid (Hrl.out.below hb)
    replace Hml := Lib.hid (Hml.out.below hb)
    replace Hbb := Lib.hid (Hbb.out.below hb)
    clear hb Hown
    by_cases hmc : mc = 0
    · have z2 : (mc == 0) = true := by simp [hmc]
      have hm3 := Hst3.out hmc
      have z3 : decide (mv < 3) = false := decide_eq_false (by omega)
      clear hmc hm3 Hst3
      by_cases hcd : cd = 0
      · as_aux_lemma =>
        obtain ⟨hv, Hlr⟩ : vBase tb sb rb kb = true ∧ Hid (lr = rings tb sb rb kb) := by have h := HR.out; rw [hcd] at h; exact ringsR_ok h
        have hwv : wv = sumLen lr := by have h := HW.out; rw [weaverR_at hv] at h; rw [Hlr.out]; exact (Prod.mk.inj h).1.symm
        have z4 : (cd != 0) = false := by simp [hcd]
        have Hlen := Lib.hid (fun (k : Nat) (hk : k < lr.length) W => show Calls Tryd.prog 23 #[.agg #[.int .i64 tb, .int .i64 sb, .int .i64 rb, .int .i64 kb], .int .i64 k] W fun e w' => e = ret2 (ringLen (lr.getD k 0), 0) ∧ Below W.heap.size W w' by
          have h := LengthOfRing_any tb sb rb kb k W
          rw [lengthR_at hv (by rw [← Hlr.out]; exact hk), ← Hlr.out] at h
          exact h)
        have Hget := Lib.hid (fun (k : Nat) (hk : k < lr.length) => show (1 ≤ lr.getD k 0 ∧ lr.getD k 0 ≤ 1000) ∧ lr.getD k 0 ≤ rb by
          rw [Hlr.out] at hk ⊢
          exact ⟨rings_get hv hk, rings_in hv hk⟩)
        have Hrise := Lib.hid (fun (k : Nat) (hk : k + 1 < lr.length) => show lr.getD k 0 < lr.getD (k + 1) 0 by
          rw [Hlr.out] at hk ⊢
          exact rings_rise hv hk)
        have Htk := Lib.hid (fun (k : Nat) => show 0 ≤ sumLen (lr.take k) ∧ sumLen (lr.take k) ≤ 600000 by
          rw [Hlr.out]
          exact sumLen_take_bd (rings_bd hv) (rings_len _ _ _ _) k)
        have hN60 : lr.length ≤ 60 := by rw [Hlr.out]; exact rings_len _ _ _ _
        have Hwv := Lib.hid hwv
        have Hst := Lib.hid (fun (k : Nat) (hk : k < lr.length) => sumLen_take (l := lr) hk)
        have Hall := Lib.hid (show sumLen (lr.take lr.length) = wv by rw [List.take_length]; exact hwv.symm)
        clear hwv hv hcd HR HW
        obtain ⟨N, hN⟩ : ∃ N, lr.length = N := ⟨_, rfl⟩
        rw [hN] at Hlen Hget Hrise Hst Hml hN60 Hall
        simp only [hN]
        clear hN Hlr Hwv Hrl
        go_wp2_with fail
        go_loopw [30, 31] (fun s i wr => ∃ k : Nat, k ≤ N ∧ i = .int .i64 k ∧ s = .int .i64 (sumLen (lr.take k)) ∧ Hid (Below wo.heap.size wo wr)) (fun _ i _ => N - (intOf i).toNat)
        case atStart => exact ⟨0, Nat.zero_le _, rfl, by simp [sumLen], Lib.hid (Below.refl _ _)⟩
        case round =>
          obtain ⟨k, hk, rfl, rfl, Hbl⟩ := hrel
          generalize wr = wx at *
          by_cases hkN : k < N
          · obtain ⟨⟨hx1, hx2⟩, hxr⟩ := Hget.out k hkN
            have hxl := ringLen_bd hx1 hx2
            have hs := Htk.out k
            have hs2 := Hst.out k hkN
            have hcall := Hlen.out k hkN
            have hri := Hrise.out (k - 1)
            obtain ⟨x, Hx⟩ : ∃ x, Hid (x = lr.getD k 0) := ⟨_, rfl⟩
            rw [← Hx.out] at hx1 hx2 hxr hxl hs2 hcall
            obtain ⟨S, HS⟩ : ∃ S, Hid (S = sumLen (lr.take k)) := ⟨_, rfl⟩
            rw [← HS.out] at hs hs2 ⊢
            obtain ⟨Lk, HLk⟩ : ∃ Lk, Hid (Lk = ringLen x) := ⟨_, rfl⟩
            rw [← HLk.out] at hxl hs2 hcall
            have Hs2 := Lib.hid hs2
            have Hcall := Lib.hid hcall
            clear hs2 hcall
            have hbb := Hbb.out.below Hbl.out
            have c_b0 := hbb.cell 0 _ rfl
            have c_b1 := hbb.cell 1 _ rfl
            have c_b2 := hbb.cell 2 _ rfl
            have c_b3 := hbb.cell 3 _ rfl
            go_wp2_with fail
            with_reducible refine (Hcall.out _).mono ?_
            rintro e wy ⟨rfl, hb⟩
            have HB2 := Lib.hid (bstep Hbl.out hb (Nat.le_refl _))
            clear c_b0 c_b1 c_b2 c_b3
            have c_b2 := (hbb.below hb).cell 2 _ rfl
            have hrv := Hml.out.below HB2.out
            obtain ⟨bm, om, rfl, hbm, hcm⟩ := hrv.cell (by omega)
            have e1 := hcm k hkN
            rw [← Hx.out] at e1
            have y1 : decide (Lk < 1) = false := decide_eq_false (by omega)
            have y2 : decide (10000 < Lk) = false := decide_eq_false (by omega)
            have y3 : decide (rb < x) = false := decide_eq_false (by omega)
            have qs := IntWalk.i64_in (S + Lk) (by omega)
            by_cases hk0 : k = 0
            · subst hk0
              rw [Nat.add_zero] at e1
              clear hcm hrv hbb hb hri
              go_wp2_with fail
              go_quiet (fail)
              go_wp2
              go_roundw
              case rel => exact ⟨1, by omega, by go_num, by rw [Hs2.out], Lib.hid (bdrewN HB2.out _)⟩
              case measure => simp [intOf]; omega
            · obtain ⟨j, rfl⟩ : ∃ j, k = j + 1 := ⟨k - 1, by omega⟩
              have e2 := hcm j (by omega)
              have hrj := hri (by omega)
              rw [Nat.add_sub_cancel, ← Hx.out] at hrj
              generalize lr.getD j 0 = u at e2 hrj
              have y4 : decide (x ≤ u) = false := decide_eq_false (by omega)
              have y5 : decide (0 < ((j + 1 : Nat) : Int)) = true := decide_eq_true (by omega)
              clear hcm hrv hbb hb hri
              go_wp2_with fail
              go_quiet (fail)
              go_wp2
              go_roundw
              case rel => exact ⟨j + 1 + 1, by omega, by go_num, by rw [Hs2.out], Lib.hid (bdrewN HB2.out _)⟩
              case measure => simp [intOf]; omega
          · have hkN' : k = N := by omega
            subst hkN'
            have Hfin := Hall
            rw [Hall.out]
            go_wp2_with fail
            go_ret
            exact ⟨by simp, bstep HB.out Hbl.out (Nat.le_refl _)⟩
      · as_aux_lemma =>
        have z4 : (cd != 0) = true := by simp [hcd]
        clear hcd
        go_wp2
        go_ret
        exact ⟨rfl, HB.out⟩
    · have z2 : (mc == 0) = false := by simp [hmc]
      clear hmc Hst3
      by_cases hcd : cd = 0
      · as_aux_lemma =>
        obtain ⟨hv, Hlr⟩ : vBase tb sb rb kb = true ∧ Hid (lr = rings tb sb rb kb) := by have h := HR.out; rw [hcd] at h; exact ringsR_ok h
        have hwv : wv = sumLen lr := by have h := HW.out; rw [weaverR_at hv] at h; rw [Hlr.out]; exact (Prod.mk.inj h).1.symm
        have z4 : (cd != 0) = false := by simp [hcd]
        have Hlen := Lib.hid (fun (k : Nat) (hk : k < lr.length) W => show Calls Tryd.prog 23 #[.agg #[.int .i64 tb, .int .i64 sb, .int .i64 rb, .int .i64 kb], .int .i64 k] W fun e w' => e = ret2 (ringLen (lr.getD k 0), 0) ∧ Below W.heap.size W w' by
          have h := LengthOfRing_any tb sb rb kb k W
          rw [lengthR_at hv (by rw [← Hlr.out]; exact hk), ← Hlr.out] at h
          exact h)
        have Hget := Lib.hid (fun (k : Nat) (hk : k < lr.length) => show (1 ≤ lr.getD k 0 ∧ lr.getD k 0 ≤ 1000) ∧ lr.getD k 0 ≤ rb by
          rw [Hlr.out] at hk ⊢
          exact ⟨rings_get hv hk, rings_in hv hk⟩)
        have Hrise := Lib.hid (fun (k : Nat) (hk : k + 1 < lr.length) => show lr.getD k 0 < lr.getD (k + 1) 0 by
          rw [Hlr.out] at hk ⊢
          exact rings_rise hv hk)
        have Htk := Lib.hid (fun (k : Nat) => show 0 ≤ sumLen (lr.take k) ∧ sumLen (lr.take k) ≤ 600000 by
          rw [Hlr.out]
          exact sumLen_take_bd (rings_bd hv) (rings_len _ _ _ _) k)
        have hN60 : lr.length ≤ 60 := by rw [Hlr.out]; exact rings_len _ _ _ _
        have Hwv := Lib.hid hwv
        have Hst := Lib.hid (fun (k : Nat) (hk : k < lr.length) => sumLen_take (l := lr) hk)
        have Hall := Lib.hid (show sumLen (lr.take lr.length) = wv by rw [List.take_length]; exact hwv.symm)
        clear hwv hv hcd HR HW
        obtain ⟨N, hN⟩ : ∃ N, lr.length = N := ⟨_, rfl⟩
        rw [hN] at Hlen Hget Hrise Hst Hml hN60 Hall
        simp only [hN]
        clear hN Hlr Hwv Hrl
        go_wp2_with fail
        go_loopw [30, 31] (fun s i wr => ∃ k : Nat, k ≤ N ∧ i = .int .i64 k ∧ s = .int .i64 (sumLen (lr.take k)) ∧ Hid (Below wo.heap.size wo wr)) (fun _ i _ => N - (intOf i).toNat)
        case atStart => exact ⟨0, Nat.zero_le _, rfl, by simp [sumLen], Lib.hid (Below.refl _ _)⟩
        case round =>
          obtain ⟨k, hk, rfl, rfl, Hbl⟩ := hrel
          generalize wr = wx at *
          by_cases hkN : k < N
          · obtain ⟨⟨hx1, hx2⟩, hxr⟩ := Hget.out k hkN
            have hxl := ringLen_bd hx1 hx2
            have hs := Htk.out k
            have hs2 := Hst.out k hkN
            have hcall := Hlen.out k hkN
            have hri := Hrise.out (k - 1)
            obtain ⟨x, Hx⟩ : ∃ x, Hid (x = lr.getD k 0) := ⟨_, rfl⟩
            rw [← Hx.out] at hx1 hx2 hxr hxl hs2 hcall
            obtain ⟨S, HS⟩ : ∃ S, Hid (S = sumLen (lr.take k)) := ⟨_, rfl⟩
            rw [← HS.out] at hs hs2 ⊢
            obtain ⟨Lk, HLk⟩ : ∃ Lk, Hid (Lk = ringLen x) := ⟨_, rfl⟩
            rw [← HLk.out] at hxl hs2 hcall
            have Hs2 := Lib.hid hs2
            have Hcall := Lib.hid hcall
            clear hs2 hcall
            have hbb := Hbb.out.below Hbl.out
            have c_b0 := hbb.cell 0 _ rfl
            have c_b1 := hbb.cell 1 _ rfl
            have c_b2 := hbb.cell 2 _ rfl
            have c_b3 := hbb.cell 3 _ rfl
            go_wp2_with fail
            with_reducible refine (Hcall.out _).mono ?_
            rintro e wy ⟨rfl, hb⟩
            have HB2 := Lib.hid (bstep Hbl.out hb (Nat.le_refl _))
            clear c_b0 c_b1 c_b2 c_b3
            have c_b2 := (hbb.below hb).cell 2 _ rfl
            have hrv := Hml.out.below HB2.out
            obtain ⟨bm, om, rfl, hbm, hcm⟩ := hrv.cell (by omega)
            have e1 := hcm k hkN
            rw [← Hx.out] at e1
            have y1 : decide (Lk < 1) = false := decide_eq_false (by omega)
            have y2 : decide (10000 < Lk) = false := decide_eq_false (by omega)
            have y3 : decide (rb < x) = false := decide_eq_false (by omega)
            have qs := IntWalk.i64_in (S + Lk) (by omega)
            by_cases hk0 : k = 0
            · subst hk0
              rw [Nat.add_zero] at e1
              clear hcm hrv hbb hb hri
              go_wp2_with fail
              go_quiet (fail)
              go_wp2
              go_roundw
              case rel => exact ⟨1, by omega, by go_num, by rw [Hs2.out], Lib.hid (bdrewN HB2.out _)⟩
              case measure => simp [intOf]; omega
            · obtain ⟨j, rfl⟩ : ∃ j, k = j + 1 := ⟨k - 1, by omega⟩
              have e2 := hcm j (by omega)
              have hrj := hri (by omega)
              rw [Nat.add_sub_cancel, ← Hx.out] at hrj
              generalize lr.getD j 0 = u at e2 hrj
              have y4 : decide (x ≤ u) = false := decide_eq_false (by omega)
              have y5 : decide (0 < ((j + 1 : Nat) : Int)) = true := decide_eq_true (by omega)
              clear hcm hrv hbb hb hri
              go_wp2_with fail
              go_quiet (fail)
              go_wp2
              go_roundw
              case rel => exact ⟨j + 1 + 1, by omega, by go_num, by rw [Hs2.out], Lib.hid (bdrewN HB2.out _)⟩
              case measure => simp [intOf]; omega
          · have hkN' : k = N := by omega
            subst hkN'
            have Hfin := Hall
            rw [Hall.out]
            go_wp2_with fail
            go_ret
            exact ⟨by simp, bstep HB.out Hbl.out (Nat.le_refl _)⟩
      · as_aux_lemma =>
        have z4 : (cd != 0) = true := by simp [hcd]
        clear hcd
        go_wp2
        go_ret
        exact ⟨rfl, HB.out⟩
  · have z1 : (bc == 0) = false := by simp [hbc]
    clear hbc Hbf
    by_cases hmc : mc = 0
    · have z2 : (mc == 0) = true := by simp [hmc]
      have hm3 := Hst3.out hmc
      have z3 : decide (mv < 3) = false := decide_eq_false (by omega)
      clear hmc hm3 Hst3
      by_cases hcd : cd = 0
      · as_aux_lemma =>
        obtain ⟨hv, Hlr⟩ : vBase tb sb rb kb = true ∧ Hid (lr = rings tb sb rb kb) := by have h := HR.out; rw [hcd] at h; exact ringsR_ok h
        have hwv : wv = sumLen lr := by have h := HW.out; rw [weaverR_at hv] at h; rw [Hlr.out]; exact (Prod.mk.inj h).1.symm
        have z4 : (cd != 0) = false := by simp [hcd]
        have Hlen := Lib.hid (fun (k : Nat) (hk : k < lr.length) W => show Calls Tryd.prog 23 #[.agg #[.int .i64 tb, .int .i64 sb, .int .i64 rb, .int .i64 kb], .int .i64 k] W fun e w' => e = ret2 (ringLen (lr.getD k 0), 0) ∧ Below W.heap.size W w' by
          have h := LengthOfRing_any tb sb rb kb k W
          rw [lengthR_at hv (by rw [← Hlr.out]; exact hk), ← Hlr.out] at h
          exact h)
        have Hget := Lib.hid (fun (k : Nat) (hk : k < lr.length) => show (1 ≤ lr.getD k 0 ∧ lr.getD k 0 ≤ 1000) ∧ lr.getD k 0 ≤ rb by
          rw [Hlr.out] at hk ⊢
          exact ⟨rings_get hv hk, rings_in hv hk⟩)
        have Hrise := Lib.hid (fun (k : Nat) (hk : k + 1 < lr.length) => show lr.getD k 0 < lr.getD (k + 1) 0 by
          rw [Hlr.out] at hk ⊢
          exact rings_rise hv hk)
        have Htk := Lib.hid (fun (k : Nat) => show 0 ≤ sumLen (lr.take k) ∧ sumLen (lr.take k) ≤ 600000 by
          rw [Hlr.out]
          exact sumLen_take_bd (rings_bd hv) (rings_len _ _ _ _) k)
        have hN60 : lr.length ≤ 60 := by rw [Hlr.out]; exact rings_len _ _ _ _
        have Hwv := Lib.hid hwv
        have Hst := Lib.hid (fun (k : Nat) (hk : k < lr.length) => sumLen_take (l := lr) hk)
        have Hall := Lib.hid (show sumLen (lr.take lr.length) = wv by rw [List.take_length]; exact hwv.symm)
        clear hwv hv hcd HR HW
        obtain ⟨N, hN⟩ : ∃ N, lr.length = N := ⟨_, rfl⟩
        rw [hN] at Hlen Hget Hrise Hst Hml hN60 Hall
        simp only [hN]
        clear hN Hlr Hwv Hrl
        go_wp2_with fail
        go_loopw [30, 31] (fun s i wr => ∃ k : Nat, k ≤ N ∧ i = .int .i64 k ∧ s = .int .i64 (sumLen (lr.take k)) ∧ Hid (Below wz.heap.size wz wr)) (fun _ i _ => N - (intOf i).toNat)
        case atStart => exact ⟨0, Nat.zero_le _, rfl, by simp [sumLen], Lib.hid (Below.refl _ _)⟩
        case round =>
          obtain ⟨k, hk, rfl, rfl, Hbl⟩ := hrel
          generalize wr = wx at *
          by_cases hkN : k < N
          · obtain ⟨⟨hx1, hx2⟩, hxr⟩ := Hget.out k hkN
            have hxl := ringLen_bd hx1 hx2
            have hs := Htk.out k
            have hs2 := Hst.out k hkN
            have hcall := Hlen.out k hkN
            have hri := Hrise.out (k - 1)
            obtain ⟨x, Hx⟩ : ∃ x, Hid (x = lr.getD k 0) := ⟨_, rfl⟩
            rw [← Hx.out] at hx1 hx2 hxr hxl hs2 hcall
            obtain ⟨S, HS⟩ : ∃ S, Hid (S = sumLen (lr.take k)) := ⟨_, rfl⟩
            rw [← HS.out] at hs hs2 ⊢
            obtain ⟨Lk, HLk⟩ : ∃ Lk, Hid (Lk = ringLen x) := ⟨_, rfl⟩
            rw [← HLk.out] at hxl hs2 hcall
            have Hs2 := Lib.hid hs2
            have Hcall := Lib.hid hcall
            clear hs2 hcall
            have hbb := Hbb.out.below Hbl.out
            have c_b0 := hbb.cell 0 _ rfl
            have c_b1 := hbb.cell 1 _ rfl
            have c_b2 := hbb.cell 2 _ rfl
            have c_b3 := hbb.cell 3 _ rfl
            go_wp2_with fail
            with_reducible refine (Hcall.out _).mono ?_
            rintro e wy ⟨rfl, hb⟩
            have HB2 := Lib.hid (bstep Hbl.out hb (Nat.le_refl _))
            clear c_b0 c_b1 c_b2 c_b3
            have c_b2 := (hbb.below hb).cell 2 _ rfl
            have hrv := Hml.out.below HB2.out
            obtain ⟨bm, om, rfl, hbm, hcm⟩ := hrv.cell (by omega)
            have e1 := hcm k hkN
            rw [← Hx.out] at e1
            have y1 : decide (Lk < 1) = false := decide_eq_false (by omega)
            have y2 : decide (10000 < Lk) = false := decide_eq_false (by omega)
            have y3 : decide (rb < x) = false := decide_eq_false (by omega)
            have qs := IntWalk.i64_in (S + Lk) (by omega)
            by_cases hk0 : k = 0
            · subst hk0
              rw [Nat.add_zero] at e1
              clear hcm hrv hbb hb hri
              go_wp2_with fail
              go_quiet (fail)
              go_wp2
              go_roundw
              case rel => exact ⟨1, by omega, by go_num, by rw [Hs2.out], Lib.hid (bdrewN HB2.out _)⟩
              case measure => simp [intOf]; omega
            · obtain ⟨j, rfl⟩ : ∃ j, k = j + 1 := ⟨k - 1, by omega⟩
              have e2 := hcm j (by omega)
              have hrj := hri (by omega)
              rw [Nat.add_sub_cancel, ← Hx.out] at hrj
              generalize lr.getD j 0 = u at e2 hrj
              have y4 : decide (x ≤ u) = false := decide_eq_false (by omega)
              have y5 : decide (0 < ((j + 1 : Nat) : Int)) = true := decide_eq_true (by omega)
              clear hcm hrv hbb hb hri
              go_wp2_with fail
              go_quiet (fail)
              go_wp2
              go_roundw
              case rel => exact ⟨j + 1 + 1, by omega, by go_num, by rw [Hs2.out], Lib.hid (bdrewN HB2.out _)⟩
              case measure => simp [intOf]; omega
          · have hkN' : k = N := by omega
            subst hkN'
            have Hfin := Hall
            rw [Hall.out]
            go_wp2_with fail
            go_ret
            exact ⟨by simp, bstep HB.out Hbl.out (Nat.le_refl _)⟩
      · as_aux_lemma =>
        have z4 : (cd != 0) = true := by simp [hcd]
        clear hcd
        go_wp2
        go_ret
        exact ⟨rfl, HB.out⟩
    · have z2 : (mc == 0) = false := by simp [hmc]
      clear hmc Hst3
      by_cases hcd : cd = 0
      · as_aux_lemma =>
        obtain ⟨hv, Hlr⟩ : vBase tb sb rb kb = true ∧ Hid (lr = rings tb sb rb kb) := by have h := HR.out; rw [hcd] at h; exact ringsR_ok h
        have hwv : wv = sumLen lr := by have h := HW.out; rw [weaverR_at hv] at h; rw [Hlr.out]; exact (Prod.mk.inj h).1.symm
        have z4 : (cd != 0) = false := by simp [hcd]
        have Hlen := Lib.hid (fun (k : Nat) (hk : k < lr.length) W => show Calls Tryd.prog 23 #[.agg #[.int .i64 tb, .int .i64 sb, .int .i64 rb, .int .i64 kb], .int .i64 k] W fun e w' => e = ret2 (ringLen (lr.getD k 0), 0) ∧ Below W.heap.size W w' by
          have h := LengthOfRing_any tb sb rb kb k W
          rw [lengthR_at hv (by rw [← Hlr.out]; exact hk), ← Hlr.out] at h
          exact h)
        have Hget := Lib.hid (fun (k : Nat) (hk : k < lr.length) => show (1 ≤ lr.getD k 0 ∧ lr.getD k 0 ≤ 1000) ∧ lr.getD k 0 ≤ rb by
          rw [Hlr.out] at hk ⊢
          exact ⟨rings_get hv hk, rings_in hv hk⟩)
        have Hrise := Lib.hid (fun (k : Nat) (hk : k + 1 < lr.length) => show lr.getD k 0 < lr.getD (k + 1) 0 by
          rw [Hlr.out] at hk ⊢
          exact rings_rise hv hk)
        have Htk := Lib.hid (fun (k : Nat) => show 0 ≤ sumLen (lr.take k) ∧ sumLen (lr.take k) ≤ 600000 by
          rw [Hlr.out]
          exact sumLen_take_bd (rings_bd hv) (rings_len _ _ _ _) k)
        have hN60 : lr.length ≤ 60 := by rw [Hlr.out]; exact rings_len _ _ _ _
        have Hwv := Lib.hid hwv
        have Hst := Lib.hid (fun (k : Nat) (hk : k < lr.length) => sumLen_take (l := lr) hk)
        have Hall := Lib.hid (show sumLen (lr.take lr.length) = wv by rw [List.take_length]; exact hwv.symm)
        clear hwv hv hcd HR HW
        obtain ⟨N, hN⟩ : ∃ N, lr.length = N := ⟨_, rfl⟩
        rw [hN] at Hlen Hget Hrise Hst Hml hN60 Hall
        simp only [hN]
        clear hN Hlr Hwv Hrl
        go_wp2_with fail
        go_loopw [30, 31] (fun s i wr => ∃ k : Nat, k ≤ N ∧ i = .int .i64 k ∧ s = .int .i64 (sumLen (lr.take k)) ∧ Hid (Below wz.heap.size wz wr)) (fun _ i _ => N - (intOf i).toNat)
        case atStart => exact ⟨0, Nat.zero_le _, rfl, by simp [sumLen], Lib.hid (Below.refl _ _)⟩
        case round =>
          obtain ⟨k, hk, rfl, rfl, Hbl⟩ := hrel
          generalize wr = wx at *
          by_cases hkN : k < N
          · obtain ⟨⟨hx1, hx2⟩, hxr⟩ := Hget.out k hkN
            have hxl := ringLen_bd hx1 hx2
            have hs := Htk.out k
            have hs2 := Hst.out k hkN
            have hcall := Hlen.out k hkN
            have hri := Hrise.out (k - 1)
            obtain ⟨x, Hx⟩ : ∃ x, Hid (x = lr.getD k 0) := ⟨_, rfl⟩
            rw [← Hx.out] at hx1 hx2 hxr hxl hs2 hcall
            obtain ⟨S, HS⟩ : ∃ S, Hid (S = sumLen (lr.take k)) := ⟨_, rfl⟩
            rw [← HS.out] at hs hs2 ⊢
            obtain ⟨Lk, HLk⟩ : ∃ Lk, Hid (Lk = ringLen x) := ⟨_, rfl⟩
            rw [← HLk.out] at hxl hs2 hcall
            have Hs2 := Lib.hid hs2
            have Hcall := Lib.hid hcall
            clear hs2 hcall
            have hbb := Hbb.out.below Hbl.out
            have c_b0 := hbb.cell 0 _ rfl
            have c_b1 := hbb.cell 1 _ rfl
            have c_b2 := hbb.cell 2 _ rfl
            have c_b3 := hbb.cell 3 _ rfl
            go_wp2_with fail
            with_reducible refine (Hcall.out _).mono ?_
            rintro e wy ⟨rfl, hb⟩
            have HB2 := Lib.hid (bstep Hbl.out hb (Nat.le_refl _))
            clear c_b0 c_b1 c_b2 c_b3
            have c_b2 := (hbb.below hb).cell 2 _ rfl
            have hrv := Hml.out.below HB2.out
            obtain ⟨bm, om, rfl, hbm, hcm⟩ := hrv.cell (by omega)
            have e1 := hcm k hkN
            rw [← Hx.out] at e1
            have y1 : decide (Lk < 1) = false := decide_eq_false (by omega)
            have y2 : decide (10000 < Lk) = false := decide_eq_false (by omega)
            have y3 : decide (rb < x) = false := decide_eq_false (by omega)
            have qs := IntWalk.i64_in (S + Lk) (by omega)
            by_cases hk0 : k = 0
            · subst hk0
              rw [Nat.add_zero] at e1
              clear hcm hrv hbb hb hri
              go_wp2_with fail
              go_quiet (fail)
              go_wp2
              go_roundw
              case rel => exact ⟨1, by omega, by go_num, by rw [Hs2.out], Lib.hid (bdrewN HB2.out _)⟩
              case measure => simp [intOf]; omega
            · obtain ⟨j, rfl⟩ : ∃ j, k = j + 1 := ⟨k - 1, by omega⟩
              have e2 := hcm j (by omega)
              have hrj := hri (by omega)
              rw [Nat.add_sub_cancel, ← Hx.out] at hrj
              generalize lr.getD j 0 = u at e2 hrj
              have y4 : decide (x ≤ u) = false := decide_eq_false (by omega)
              have y5 : decide (0 < ((j + 1 : Nat) : Int)) = true := decide_eq_true (by omega)
              clear hcm hrv hbb hb hri
              go_wp2_with fail
              go_quiet (fail)
              go_wp2
              go_roundw
              case rel => exact ⟨j + 1 + 1, by omega, by go_num, by rw [Hs2.out], Lib.hid (bdrewN HB2.out _)⟩
              case measure => simp [intOf]; omega
          · have hkN' : k = N := by omega
            subst hkN'
            have Hfin := Hall
            rw [Hall.out]
            go_wp2_with fail
            go_ret
            exact ⟨by simp, bstep HB.out Hbl.out (Nat.le_refl _)⟩
      · as_aux_lemma =>
        have z4 : (cd != 0) = true := by simp [hcd]
        clear hcd
        go_wp2
        go_ret
        exact ⟨rfl, HB.out⟩

set_option maxRecDepth 100000 in
theorem lifted (os : Os) (started : os.Started) (H : Type) (enc : TypeId × Value → H) :
    ReturnsInHanded {} Tryd.checked os 4 .any (fun w args => (Rows.fnBasesSpec.pre enc Tryd.prog Tryd.f4 [] false w args ∧ laidMetH Tryd.prog Rows.fnBasesRow.laid w) ∧ sizedMet enc Tryd.prog Tryd.f4 (OpenSpec.ofChange Rows.fnBasesSpec) false w args) (Rows.fnBasesSpec.post enc Tryd.prog Tryd.f4 false true false false) := by
  refine returnsInHanded_of_change_and (C := Tryd.checked) (X := fun w _ => laidMetH Tryd.prog Rows.fnBasesRow.laid w) (fun _ _ _ hh h => h.of_heap hh) own started (by kernel_rfl) Tryd.func4
    (ChangeSpec.witness_shaped (enc := enc) (C := Tryd.checked) (os := os) (X := fun w _ => laidMetH Tryd.prog Rows.fnBasesRow.laid w) false (World.laidAll Tryd.prog os Rows.fnBasesRow.laid) #[.slice none 0 0] 8 (World.laidAll_os _ _ _)
      (World.shaped_of_ZipB (by kernel_rfl) (by kernel_rfl)) (by kernel_rfl) (by kernel_rfl) (by kernel_rfl)
      (by rw [MakeChecks.laidMetH_plain _ _ _ (by kernel_rfl)]; exact laidMet_laidAll _ (by kernel_rfl) (by kernel_rfl))) ?_
  intro W base args ds gs before hval0 hW _ _ hL _
  have hval : ∀ (j : Nat) t v, Tryd.f4.params[j]? = some t → args[j]? = some v → Value.okWide Tryd.prog W .any base t v := hval0
  have hW' := hW
  obtain ⟨p, q, hA0, hV, rfl, hfz, hnd⟩ := hW
  have hA : DataW.TrodAll enc Tryd.prog W 0 (fun _ => true) true Tryd.f4.params.toList args.toList ds p := hA0
  rw [Tryd.params4] at hA hval
  obtain ⟨v0, vs0, d0, ds0, pP0, qQ0, hargs, rfl, rfl, k0, e0⟩ := trodAll_cons hA
  obtain ⟨rfl, rfl, rfl⟩ := trodAll_nil e0
  obtain rfl : args = #[v0] := by cases args; simp_all
  obtain ⟨rfl, rfl⟩ := trodVars_none hV
  have l0 := arg_lt k0
  obtain ⟨p0, n0, c0, x0, rfl, r0, b0⟩ := arg_bytes (hval 0 _ v0 rfl rfl) k0
  clear hA0 hval0
  have htab : Lib.TabIs Tryd.prog W "internal/strconv.uint64pow10" .u64 Lib.pow10Tab := by
    have h := hL
    rw [MakeChecks.laidMetH_plain _ _ _ (by kernel_rfl)] at h
    have h2 := laidMet.filter (fun x => x.1 == "internal/strconv.uint64pow10") h
    have e : (Rows.fnBasesRow.laid.filter (fun x => x.1 == "internal/strconv.uint64pow10")) = [("internal/strconv.uint64pow10", Lib.tabData .u64 Lib.pow10Tab)] := by kernel_rfl
    rw [e] at h2
    exact Lib.tabIs_of_head (g := 0) (t := 74) (e := 60) (n := 20) (by kernel_rfl) (by kernel_rfl) (by kernel_rfl) (by kernel_rfl) (by kernel_rfl) (by kernel_rfl) h2
  refine (walk W p0 n0 c0 x0 r0 b0 htab).mono fun e W' ⟨he, bel⟩ => ?_
  subst he
  exact ⟨_, rfl, _, _, _, [], _, [], hW', trodAll_mk1 (shut_bool Tryd.underlying4 _), (trodAll_cons_mk (Below.trod laidOut (by kernel_rfl) (of_decide_eq_true (by kernel_rfl)) k0 bel l0) trodAll_mk0), rfl, bel.frame _, fun h => by cases h⟩

theorem over : Rows.fnBasesRow.holds Tryd.pinned (OpenSpec.ofChange Rows.fnBasesSpec) :=
  OpenClaim.holds_of_wide 4 Tryd.f4 rfl rfl rfl rfl rfl rfl rfl ⟨rfl, rfl, rfl, rfl, rfl⟩ rfl rfl rfl rfl rfl (by kernel_rfl) Tryd.func4 (by kernel_rfl)
    (of_decide_eq_true (by kernel_rfl)) (by unfold Func.isWrapper; first | (rw [if_pos (by decide +kernel)]; kernel_rfl) | (rw [if_neg (by decide +kernel)]; exact ⟨rfl, rfl⟩))
    (fun os started H enc _ => lifted os started H enc)

set_option maxRecDepth 100000 in
/-- the statement -/
theorem proved : Rows.FnBasesCardSaid :=
  Claim7.holds_tied_plain_at .later [] [.data, .data, .data] true (true, "399fb9f95262c9df08f1686c91eb4252d2b73cf79fa9dcb9d585db8bcba6e394") false over (fun _ h => by cases h) (by kernel_rfl) (fun _ h => by cases h) fnBases_row_tie rfl ⟨rfl, rfl⟩ (by kernel_rfl) rfl
    (fun f fn hf hfn => by
      obtain rfl : f = 4 := Option.some.inj ((show Tryd.prog.funcNamed Rows.fnBasesRow.func = some 4 by kernel_rfl).symm.trans hf) |>.symm
      obtain rfl : fn = Tryd.f4 := (Option.some.inj (Tryd.func4.symm.trans hfn)).symm
      exact ⟨by kernel_rfl, fun j t ht => by
        rw [Tryd.params4] at ht
        have hm : t ∈ [28] := by simpa using Array.mem_of_getElem? ht
        have hall : ([28].all fun u => !Tryd.prog.wantsStandIn u) = true := by kernel_rfl
        exact (show Tryd.prog.wantsStandIn t = false by simpa using List.all_eq_true.1 hall t hm)⟩)
    (by kernel_rfl)
#print axioms proved
end Go.Proofs.YtimomjkeknlcgaaDoor.fnBases
