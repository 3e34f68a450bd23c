/-
  Proved here: the law FnSticks answers true at every input, and leaves its arguments as they were. No condition.
-/
import Derived.Test.YtimomjkeknlcgaaFrame
import Derived.Test.YtimomjkeknlcgaaBaseSticks
import Derived.Test.YtimomjkeknlcgaaBaseDraw2
import Derived.Test.YtimomjkeknlcgaaBase5
import Derived.Test.YtimomjkeknlcgaaF6
namespace Go.Proofs.Ytimomjkeknlcgaa.fnSticks
open Go.ChangeShapes Go.WideShapes Go.ChangeAt Go.RowKit
set_option linter.unusedVariables false

set_option maxHeartbeats 16000000 in
set_option maxRecDepth 100000 in
theorem walk (w : World) (p0 : Option Addr) (n0 c0 : Nat) (x0 : List Int) (r0 : RV w p0 n0 c0 (x0.map (.int .u8))) (b0 : ∀ x ∈ x0, 0 ≤ x ∧ x ≤ 255) :
    Calls Try.prog 3 #[.slice p0 n0 c0] w fun e w' => e = .returned (.bool true) ∧ Below w.heap.size w w' := by
  by_cases hbig : (4096 : Int) < n0
  · go_enter Try.func3, Try.ntmps3
    go_wp2_with (go_at_call 4; refine (f6big_any _ _ _ _ r0.small).mono ?_; rw [decide_eq_true hbig]; rintro e w' ⟨rfl, rfl⟩)
    go_ret
    exact ⟨rfl, Below.refl _ _⟩
  have hB : Below w.heap.size w w := Below.refl _ _
  have Hr0 := Lib.hid r0
  have Hb0 := Lib.hid b0
  have hsm := r0.small
  clear r0 b0
  go_enter Try.func3, Try.ntmps3
  go_wp2_with fail
  refine (f6big_any _ _ _ _ hsm).mono ?_
  rw [decide_eq_false (show ¬ (4096 : Int) < n0 by omega)]
  rintro e wq ⟨rfl, rfl⟩
  go_wp2_with fail
  with_reducible refine (DrawGapsAt_any _ _ _ _ _ Hr0.out Hb0.out).mono ?_
  rintro e w1 ⟨tb, sb, rb, kb, ib, rfl, hb⟩
  replace hB := bstep hB hb (Nat.le_refl _)
  clear hb
  obtain ⟨gn, gd, gc, HG⟩ : ∃ gn gd gc, Hid (gapsR tb sb rb kb ib = (gn, gd, gc)) := ⟨_, _, _, rfl⟩
  have Hg1 := Lib.hid (fun W => show Calls Try.prog 6 #[.agg #[.int .i64 tb, .int .i64 sb, .int .i64 rb, .int .i64 kb], .int .i64 ib] W fun e w' => e = retF (gn, gd, gc) ∧ Below W.heap.size W w' by have h := GapsAt_any tb sb rb kb ib W; rw [HG.out] at h; exact h)
  have Hg2 := Lib.hid (fun W => show Calls Try.prog 7 #[.agg #[.int .i64 tb, .int .i64 sb, .int .i64 rb, .int .i64 kb], .int .i64 ib] W fun e w' => e = retF (gn, gd, gc) ∧ Below W.heap.size W w' by have h := specGapsAt_any tb sb rb kb ib W; rw [HG.out] at h; exact h)
  go_wp2_with fail
  with_reducible refine (Hg1.out _).mono ?_
  rintro e w2 ⟨rfl, hb⟩
  have hn_b : Blk (w1.alloc (.cells #[.int .i64 tb, .int .i64 sb, .int .i64 rb, .int .i64 kb] 25)) w1.heap.size [.int .i64 tb, .int .i64 sb, .int .i64 rb, .int .i64 kb] 25 := Blk.box _ _ _ rfl
  replace hB := hB.alloc hB.size (.cells #[.int .i64 tb, .int .i64 sb, .int .i64 rb, .int .i64 kb] 25)
  have hb_b := hn_b
  clear hn_b
  replace hb_b := hb_b.below hb
  replace hB := bstep hB hb (Nat.le_refl _)
  clear hb
  have c_b0 := (hb_b.alloc (.cells #[.int .i64 gn, .int .i64 gd] 29)).cell 0 _ rfl
  have c_b1 := (hb_b.alloc (.cells #[.int .i64 gn, .int .i64 gd] 29)).cell 1 _ rfl
  have c_b2 := (hb_b.alloc (.cells #[.int .i64 gn, .int .i64 gd] 29)).cell 2 _ rfl
  have c_b3 := (hb_b.alloc (.cells #[.int .i64 gn, .int .i64 gd] 29)).cell 3 _ rfl
  go_wp2_with fail
  with_reducible refine (Hg2.out _).mono ?_
  rintro e w3 ⟨rfl, hb⟩
  have hn_f : Blk (w2.alloc (.cells #[.int .i64 gn, .int .i64 gd] 29)) w2.heap.size [.int .i64 gn, .int .i64 gd] 29 := Blk.box _ _ _ rfl
  replace hb_b := hb_b.alloc (.cells #[.int .i64 gn, .int .i64 gd] 29)
  replace hB := hB.alloc hB.size (.cells #[.int .i64 gn, .int .i64 gd] 29)
  have hb_f := hn_f
  clear hn_f
  replace hb_b := hb_b.below hb
  replace hb_f := hb_f.below hb
  replace hB := bstep hB hb (Nat.le_refl _)
  clear hb
  clear c_b0 c_b1 c_b2 c_b3
  go_wp2_with fail
  with_reducible refine (DrawFirstOpen_any _ _ _ _ _ (Hr0.out.below (hB.alloc hB.size (.cells #[.int .i64 gn, .int .i64 gd] 29))) Hb0.out).mono ?_
  rintro e w4 ⟨ta, sa, ra, ka, la, rfl, hb⟩
  have hn_g : Blk (w3.alloc (.cells #[.int .i64 gn, .int .i64 gd] 29)) w3.heap.size [.int .i64 gn, .int .i64 gd] 29 := Blk.box _ _ _ rfl
  replace hb_b := hb_b.alloc (.cells #[.int .i64 gn, .int .i64 gd] 29)
  replace hb_f := hb_f.alloc (.cells #[.int .i64 gn, .int .i64 gd] 29)
  replace hB := hB.alloc hB.size (.cells #[.int .i64 gn, .int .i64 gd] 29)
  have hb_g := hn_g
  clear hn_g
  replace hb_b := hb_b.below hb
  replace hb_f := hb_f.below hb
  replace hb_g := hb_g.below hb
  replace hB := bstep hB hb (Nat.le_refl _)
  clear hb
  obtain ⟨fo, fc, HF⟩ : ∃ fo fc, Hid (firstOpenR ta sa ra ka la = (fo, fc)) := ⟨_, _, rfl⟩
  have Hf1 := Lib.hid (fun W => show Calls Try.prog 9 #[.agg #[.int .i64 ta, .int .i64 sa, .int .i64 ra, .int .i64 ka], .int .i64 la] W fun e w' => e = ret2 (fo, fc) ∧ Below W.heap.size W w' by have h := FirstOpen_any ta sa ra ka la W; rw [HF.out] at h; exact h)
  have Hf2 := Lib.hid (fun W => show Calls Try.prog 10 #[.agg #[.int .i64 ta, .int .i64 sa, .int .i64 ra, .int .i64 ka], .int .i64 la] W fun e w' => e = ret2 (fo, fc) ∧ Below W.heap.size W w' by have h := specFirstOpen_any ta sa ra ka la W; rw [HF.out] at h; exact h)
  obtain ⟨en, ec, HE⟩ : ∃ en ec, Hid (endsOfR tb sb rb kb = (en, ec)) := ⟨_, _, rfl⟩
  have He1 := Lib.hid (fun W => show Calls Try.prog 11 #[.agg #[.int .i64 tb, .int .i64 sb, .int .i64 rb, .int .i64 kb]] W fun e w' => e = ret2 (en, ec) ∧ Below W.heap.size W w' by have h := EndsOf_any tb sb rb kb W; rw [HE.out] at h; exact h)
  have He2 := Lib.hid (fun W => show Calls Try.prog 12 #[.agg #[.int .i64 tb, .int .i64 sb, .int .i64 rb, .int .i64 kb]] W fun e w' => e = ret2 (en, ec) ∧ Below W.heap.size W w' by have h := specEndsOf_any tb sb rb kb W; rw [HE.out] at h; exact h)
  go_wp2_with fail
  with_reducible refine (Hf1.out _).mono ?_
  rintro e w5 ⟨rfl, hb⟩
  have hn_a : Blk (w4.alloc (.cells #[.int .i64 ta, .int .i64 sa, .int .i64 ra, .int .i64 ka] 25)) w4.heap.size [.int .i64 ta, .int .i64 sa, .int .i64 ra, .int .i64 ka] 25 := Blk.box _ _ _ rfl
  replace hb_b := hb_b.alloc (.cells #[.int .i64 ta, .int .i64 sa, .int .i64 ra, .int .i64 ka] 25)
  replace hb_f := hb_f.alloc (.cells #[.int .i64 ta, .int .i64 sa, .int .i64 ra, .int .i64 ka] 25)
  replace hb_g := hb_g.alloc (.cells #[.int .i64 ta, .int .i64 sa, .int .i64 ra, .int .i64 ka] 25)
  replace hB := hB.alloc hB.size (.cells #[.int .i64 ta, .int .i64 sa, .int .i64 ra, .int .i64 ka] 25)
  have hb_a := hn_a
  clear hn_a
  replace hb_b := hb_b.below hb
  replace hb_f := hb_f.below hb
  replace hb_g := hb_g.below hb
  replace hb_a := hb_a.below hb
  replace hB := bstep hB hb (Nat.le_refl _)
  clear hb
  have c_a0 := hb_a.cell 0 _ rfl
  have c_a1 := hb_a.cell 1 _ rfl
  have c_a2 := hb_a.cell 2 _ rfl
  have c_a3 := hb_a.cell 3 _ rfl
  go_wp2_with fail
  with_reducible refine (Hf2.out _).mono ?_
  rintro e w6 ⟨rfl, hb⟩
  replace hb_b := hb_b.below hb
  replace hb_f := hb_f.below hb
  replace hb_g := hb_g.below hb
  replace hb_a := hb_a.below hb
  replace hB := bstep hB hb (Nat.le_refl _)
  clear hb
  clear c_a0 c_a1 c_a2 c_a3
  have c_b0 := hb_b.cell 0 _ rfl
  have c_b1 := hb_b.cell 1 _ rfl
  have c_b2 := hb_b.cell 2 _ rfl
  have c_b3 := hb_b.cell 3 _ rfl
  go_wp2_with fail
  with_reducible refine (He1.out _).mono ?_
  rintro e w7 ⟨rfl, hb⟩
  replace hb_b := hb_b.below hb
  replace hb_f := hb_f.below hb
  replace hb_g := hb_g.below hb
  replace hb_a := hb_a.below hb
  replace hB := bstep hB hb (Nat.le_refl _)
  clear hb
  clear c_b0 c_b1 c_b2 c_b3
  have c_b0 := hb_b.cell 0 _ rfl
  have c_b1 := hb_b.cell 1 _ rfl
  have c_b2 := hb_b.cell 2 _ rfl
  have c_b3 := hb_b.cell 3 _ rfl
  go_wp2_with fail
  with_reducible refine (He2.out _).mono ?_
  rintro e w8 ⟨rfl, hb⟩
  replace hb_b := hb_b.below hb
  replace hb_f := hb_f.below hb
  replace hb_g := hb_g.below hb
  replace hb_a := hb_a.below hb
  replace hB := bstep hB hb (Nat.le_refl _)
  clear hb
  clear c_b0 c_b1 c_b2 c_b3
  go_wp2_with fail
  with_reducible refine (DrawLengthOfRing_any _ _ _ _ _ (Hr0.out.below hB) Hb0.out).mono ?_
  rintro e w9 ⟨tc, sc, rc, kc, ic, rfl, hb⟩
  replace hb_b := hb_b.below hb
  replace hb_f := hb_f.below hb
  replace hb_g := hb_g.below hb
  replace hb_a := hb_a.below hb
  replace hB := bstep hB hb (Nat.le_refl _)
  clear hb
  obtain ⟨ln, lc, HL⟩ : ∃ ln lc, Hid (lengthR tc sc rc kc ic = (ln, lc)) := ⟨_, _, rfl⟩
  have Hl1 := Lib.hid (fun W => show Calls Try.prog 14 #[.agg #[.int .i64 tc, .int .i64 sc, .int .i64 rc, .int .i64 kc], .int .i64 ic] W fun e w' => e = ret2 (ln, lc) ∧ Below W.heap.size W w' by have h := LengthOfRing_any tc sc rc kc ic W; rw [HL.out] at h; exact h)
  have Hl2 := Lib.hid (fun W => show Calls Try.prog 15 #[.agg #[.int .i64 tc, .int .i64 sc, .int .i64 rc, .int .i64 kc], .int .i64 ic] W fun e w' => e = ret2 (ln, lc) ∧ Below W.heap.size W w' by have h := specLengthOfRing_any tc sc rc kc ic W; rw [HL.out] at h; exact h)
  go_wp2_with fail
  with_reducible refine (Hl1.out _).mono ?_
  rintro e w10 ⟨rfl, hb⟩
  have hn_c : Blk (w9.alloc (.cells #[.int .i64 tc, .int .i64 sc, .int .i64 rc, .int .i64 kc] 25)) w9.heap.size [.int .i64 tc, .int .i64 sc, .int .i64 rc, .int .i64 kc] 25 := Blk.box _ _ _ rfl
  replace hb_b := hb_b.alloc (.cells #[.int .i64 tc, .int .i64 sc, .int .i64 rc, .int .i64 kc] 25)
  replace hb_f := hb_f.alloc (.cells #[.int .i64 tc, .int .i64 sc, .int .i64 rc, .int .i64 kc] 25)
  replace hb_g := hb_g.alloc (.cells #[.int .i64 tc, .int .i64 sc, .int .i64 rc, .int .i64 kc] 25)
  replace hb_a := hb_a.alloc (.cells #[.int .i64 tc, .int .i64 sc, .int .i64 rc, .int .i64 kc] 25)
  replace hB := hB.alloc hB.size (.cells #[.int .i64 tc, .int .i64 sc, .int .i64 rc, .int .i64 kc] 25)
  have hb_c := hn_c
  clear hn_c
  replace hb_b := hb_b.below hb
  replace hb_f := hb_f.below hb
  replace hb_g := hb_g.below hb
  replace hb_a := hb_a.below hb
  replace hb_c := hb_c.below hb
  replace hB := bstep hB hb (Nat.le_refl _)
  clear hb
  have c_c0 := hb_c.cell 0 _ rfl
  have c_c1 := hb_c.cell 1 _ rfl
  have c_c2 := hb_c.cell 2 _ rfl
  have c_c3 := hb_c.cell 3 _ rfl
  go_wp2_with fail
  with_reducible refine (Hl2.out _).mono ?_
  rintro e w11 ⟨rfl, hb⟩
  replace hb_b := hb_b.below hb
  replace hb_f := hb_f.below hb
  replace hb_g := hb_g.below hb
  replace hb_a := hb_a.below hb
  replace hb_c := hb_c.below hb
  replace hB := bstep hB hb (Nat.le_refl _)
  clear hb
  clear c_c0 c_c1 c_c2 c_c3
  have c_f0 := hb_f.cell 0 _ rfl
  have c_f1 := hb_f.cell 1 _ rfl
  have c_g0 := hb_g.cell 0 _ rfl
  have c_g1 := hb_g.cell 1 _ rfl
  have c_b0 := hb_b.cell 0 _ rfl
  have c_b1 := hb_b.cell 1 _ rfl
  have c_b2 := hb_b.cell 2 _ rfl
  have c_b3 := hb_b.cell 3 _ rfl
  clear Hg2 Hf1 Hf2 He1 He2 Hl1 Hl2 HL hb_c hb_f
  have Hhe := Lib.hid (show ec = 0 → en = 2 * (tb + sb) ∧ (1 ≤ tb ∧ tb ≤ 12) ∧ (1 ≤ sb ∧ sb ≤ 12) from fun h => by
    have h2 := HE.out
    unfold endsOfR at h2
    split at h2
    · rename_i hv
      have h3 := vBase_iff.1 hv
      have h4 : ends tb sb = en := (Prod.mk.inj h2).1
      refine ⟨?_, h3.1, h3.2.1⟩
      rw [← h4]; rfl
    · have := (Prod.mk.inj h2).2; omega)
  have Hfo := Lib.hid (show fc = 0 → vBase ta sa ra ka = true ∧ (1 ≤ la ∧ la ≤ 1000) ∧ ∃ j : Nat, fo = j ∧ j < (rings ta sa ra ka).length ∧ la * 7 * ends ta sa ≤ 44 * (rings ta sa ra ka).getD j 0 ∧ ∀ i, i < j → ¬ la * 7 * ends ta sa ≤ 44 * (rings ta sa ra ka).getD i 0 from fun h => by
    have h2 := firstOpenR_ok (t := ta) (s := sa) (r := ra) (k := ka) (l := la) (by rw [HF.out]; exact h)
    rw [HF.out] at h2
    exact h2)
  have Hgo := Lib.hid (show gc = 0 → vBase tb sb rb kb = true ∧ ∃ j : Nat, ib = j ∧ j < (rings tb sb rb kb).length ∧ gn = lowN (44 * (rings tb sb rb kb).getD j 0) (7 * ends tb sb) ∧ gd = lowD (44 * (rings tb sb rb kb).getD j 0) (7 * ends tb sb) from fun h => by
    obtain ⟨h1, j, h2, h3, h4⟩ := gapsR_ok (t := tb) (s := sb) (r := rb) (k := kb) (i := ib) (by rw [HG.out]; exact h)
    rw [HG.out] at h4
    obtain ⟨h5, h6⟩ := Prod.mk.inj h4
    exact ⟨h1, j, h2, h3, h5, (Prod.mk.inj h6).1⟩)
  clear HE HF HG
  by_cases hec : ec = 0
  · obtain ⟨hen, hts1, hts2⟩ := Hhe.out hec
    have z3 : (ec == 0) = true := by simp [hec]
    have hs1 := IntWalk.i64_in (tb + sb) (by omega)
    have hs2 := IntWalk.i64_in (2 * (tb + sb)) (by omega)
    have z4 : (en != 2 * (tb + sb)) = false := by simp [hen]
    clear hec Hhe hen
    by_cases hfc : fc = 0
    · have z5 : (fc == 0) = true := by simp [hfc]
      obtain ⟨hva, ⟨hla1, hla2⟩, j, hfo, hj, hop, hno⟩ := Hfo.out hfc
      subst hfo
      have hga := gapsR_at hva hj
      have hra := rings_get hva hj
      have hena := ends_bd hva
      have hgba := gap_bd hra.1 hra.2 hena.1 hena.2
      have hopn := (gap_open (r := (rings ta sa ra ka).getD j 0) (e := ends ta sa) (l := la) (by omega) (by omega)).1 hop
      have Hown := Lib.hid (fun W => show Calls Try.prog 6 #[.agg #[.int .i64 ta, .int .i64 sa, .int .i64 ra, .int .i64 ka], .int .i64 (j : Int)] W fun e w' => e = retF (lowN (44 * (rings ta sa ra ka).getD j 0) (7 * ends ta sa), lowD (44 * (rings ta sa ra ka).getD j 0) (7 * ends ta sa), 0) ∧ Below W.heap.size W w' by have h := GapsAt_any ta sa ra ka j W; rw [hga] at h; exact h)
      have Hbe := Lib.hid (fun i (hi : i + 1 = j) => (show ∃ mn md : Int, (∀ W, Calls Try.prog 6 #[.agg #[.int .i64 ta, .int .i64 sa, .int .i64 ra, .int .i64 ka], .int .i64 (i : Int)] W fun e w' => e = retF (mn, md, 0) ∧ Below W.heap.size W w') ∧ (1 ≤ md ∧ md ≤ 336 ∧ 0 ≤ mn ∧ mn ≤ 44000) ∧ mn < la * md by
        have h1 := gapsR_at hva (j := i) (by omega)
        have h2 := rings_get hva (i := i) (by omega)
        have h3 := gap_bd h2.1 h2.2 hena.1 hena.2
        have h4 := hno i (by omega)
        rw [gap_open (by omega) (by omega)] at h4
        refine ⟨_, _, fun W => ?_, h3, by omega⟩
        have h := GapsAt_any ta sa ra ka i W
        rw [h1] at h
        exact h))
      have hj60 : j ≤ 60 := by have := rings_len ta sa ra ka; omega
      clear hga hra hena hop hno hva hfc Hfo hj
      generalize lowN (44 * (rings ta sa ra ka).getD j 0) (7 * ends ta sa) = mn at *
      generalize lowD (44 * (rings ta sa ra ka).getD j 0) (7 * ends ta sa) = md at *
      have p1 : 0 ≤ la * md := Int.mul_nonneg (by omega) (by omega)
      have p2 : la * md ≤ 1000 * 336 := Int.mul_le_mul hla2 hgba.2.1 (by omega) (by omega)
      have q1 := IntWalk.i64_in (la * md) (by omega)
      have y1 : decide (md < 1) = false := decide_eq_false (by omega)
      have y2 : decide (1000 < md) = false := decide_eq_false (by omega)
      have y3 : decide (mn < la * md) = false := decide_eq_false (by omega)
      have c_a0 := hb_a.cell 0 _ rfl
      have c_a1 := hb_a.cell 1 _ rfl
      have c_a2 := hb_a.cell 2 _ rfl
      have c_a3 := hb_a.cell 3 _ rfl
      go_wp2_with fail
      with_reducible refine (Hown.out _).mono ?_
      rintro e wo ⟨rfl, hb⟩
      clear c_a0 c_a1 c_a2 c_a3 c_f0 c_f1 c_g0 c_g1 c_b0 c_b1 c_b2 c_b3
      replace hb_a := hb_a.below hb
      replace hb_b := hb_b.below hb
      replace hb_g := hb_g.below hb
      replace hb_a := hb_a.alloc (.cells #[.int .i64 mn, .int .i64 md] 29)
      replace hb_b := hb_b.alloc (.cells #[.int .i64 mn, .int .i64 md] 29)
      replace hb_g := hb_g.alloc (.cells #[.int .i64 mn, .int .i64 md] 29)
      replace hB := (bstep hB hb (Nat.le_refl _)).alloc (Nat.le_trans hB.size hb.size) (.cells #[.int .i64 mn, .int .i64 md] 29)
      clear hb Hown
      have c_a0 := hb_a.cell 0 _ rfl
      have c_a1 := hb_a.cell 1 _ rfl
      have c_a2 := hb_a.cell 2 _ rfl
      have c_a3 := hb_a.cell 3 _ rfl
      by_cases hj0 : j = 0
      · subst hj0
        have c_b0 := hb_b.cell 0 _ rfl
        have c_b1 := hb_b.cell 1 _ rfl
        have c_b2 := hb_b.cell 2 _ rfl
        have c_b3 := hb_b.cell 3 _ rfl
        have c_g0 := hb_g.cell 0 _ rfl
        have c_g1 := hb_g.cell 1 _ rfl
        clear Hbe
        by_cases hgc : gc = 0
        · by_cases hi0 : ib = 0
          · have z1 : (gc != 0) = false := by simp [hgc]
            have z2 : (ib == 0) = true := by simp [hi0]
            clear hgc hi0
            go_wp2
            go_ret
            exact ⟨rfl, hB⟩
          · have z1 : (gc != 0) = false := by simp [hgc]
            have z2 : (ib == 0) = false := by simp [hi0]
            obtain ⟨hv, j, hij, hj, hgn, hgd⟩ := Hgo.out hgc
            subst hij
            obtain ⟨i, rfl⟩ : ∃ i, j = i + 1 := ⟨j - 1, by omega⟩
            have hgi := gapsR_at hv (j := i) (by omega)
            have hrise := rings_rise hv hj
            have hri := rings_get hv (i := i) (by omega)
            have hrj := rings_get hv hj
            have hen := ends_bd hv
            have hgb := gap_bd hri.1 hri.2 hen.1 hen.2
            have hgb2 := gap_bd hrj.1 hrj.2 hen.1 hen.2
            have hgr := gap_rise (r := (rings tb sb rb kb).getD i 0) (s := (rings tb sb rb kb).getD (i + 1) 0) (e := ends tb sb) (by omega) hrise (by omega)
            rw [← hgn, ← hgd] at hgb2 hgr
            have Hin := Lib.hid (fun W => show Calls Try.prog 6 #[.agg #[.int .i64 tb, .int .i64 sb, .int .i64 rb, .int .i64 kb], .int .i64 (i : Int)] W fun e w' => e = retF (lowN (44 * (rings tb sb rb kb).getD i 0) (7 * ends tb sb), lowD (44 * (rings tb sb rb kb).getD i 0) (7 * ends tb sb), 0) ∧ Below W.heap.size W w' by have h := GapsAt_any tb sb rb kb i W; rw [hgi] at h; exact h)
            have hi60 : i ≤ 60 := by have := rings_len tb sb rb kb; omega
            clear hgn hgd hgi hrise hri hrj Hgo Hg1 hgc hi0 hv hj hen
            generalize lowN (44 * (rings tb sb rb kb).getD i 0) (7 * ends tb sb) = mn at *
            generalize lowD (44 * (rings tb sb rb kb).getD i 0) (7 * ends tb sb) = md at *
            have p1 : 0 ≤ mn * gd := Int.mul_nonneg hgb.2.2.1 (by omega)
            have p2 : mn * gd ≤ 44000 * 336 := Int.mul_le_mul hgb.2.2.2 hgb2.2.1 (by omega) (by omega)
            have p3 : 0 ≤ gn * md := Int.mul_nonneg hgb2.2.2.1 (by omega)
            have p4 : gn * md ≤ 44000 * 336 := Int.mul_le_mul hgb2.2.2.2 hgb.2.1 (by omega) (by omega)
            have q1 := IntWalk.i64_in (mn * gd) (by omega)
            have q2 := IntWalk.i64_in (gn * md) (by omega)
            have y1 : decide (1 ≤ md) = true := decide_eq_true hgb.1
            have y2 : decide (md ≤ 1000) = true := decide_eq_true (by omega)
            have y3 : decide (0 ≤ mn) = true := decide_eq_true hgb.2.2.1
            have y4 : decide (mn < 100000000) = true := decide_eq_true (by omega)
            have y5 : decide (mn * gd < gn * md) = true := decide_eq_true hgr
            go_wp2_with fail
            with_reducible refine (Hin.out _).mono ?_
            rintro e wl ⟨rfl, hb⟩
            replace hb_g := hb_g.below hb
            have hbn : Blk (wl.alloc (.cells #[.int .i64 mn, .int .i64 md] 29)) wl.heap.size [.int .i64 mn, .int .i64 md] 29 := Blk.box _ _ _ rfl
            replace hb_g := hb_g.alloc (.cells #[.int .i64 mn, .int .i64 md] 29)
            replace hB := (bstep hB hb (Nat.le_refl _)).alloc (Nat.le_trans hB.size hb.size) (.cells #[.int .i64 mn, .int .i64 md] 29)
            clear c_g0 c_g1 c_b0 c_b1 c_b2 c_b3
            have d1 := hb_g.cell 0 _ rfl
            have d2 := hb_g.cell 1 _ rfl
            clear hb
            go_wp2
            go_ret
            exact ⟨rfl, hB⟩
        · have z1 : (gc != 0) = true := by simp [hgc]
          clear hgc
          go_wp2
          go_ret
          exact ⟨rfl, hB⟩
      · have y4 : decide (0 < (j : Int)) = true := decide_eq_true (by omega)
        obtain ⟨i, rfl⟩ : ∃ i, j = i + 1 := ⟨j - 1, by omega⟩
        obtain ⟨un, ud, Hun, hub, hul⟩ := Hbe.out i rfl
        have p5 : 0 ≤ la * ud := Int.mul_nonneg (by omega) (by omega)
        have p6 : la * ud ≤ 1000 * 336 := Int.mul_le_mul hla2 hub.2.1 (by omega) (by omega)
        have q5 := IntWalk.i64_in (la * ud) (by omega)
        have y5 : decide (ud < 1) = false := decide_eq_false (by omega)
        have y6 : decide (1000 < ud) = false := decide_eq_false (by omega)
        have y7 : decide (la * ud ≤ un) = false := decide_eq_false (by omega)
        have Hun := Lib.hid Hun
        clear hj0 Hbe
        go_wp2_with fail
        with_reducible refine (Hun.out _).mono ?_
        rintro e wp ⟨rfl, hb⟩
        clear c_a0 c_a1 c_a2 c_a3 hb_a Hun
        replace hb_b := hb_b.below hb
        replace hb_g := hb_g.below hb
        replace hb_b := hb_b.alloc (.cells #[.int .i64 un, .int .i64 ud] 29)
        replace hb_g := hb_g.alloc (.cells #[.int .i64 un, .int .i64 ud] 29)
        replace hB := (bstep hB hb (Nat.le_refl _)).alloc (Nat.le_trans hB.size hb.size) (.cells #[.int .i64 un, .int .i64 ud] 29)
        clear hb
        have c_b0 := hb_b.cell 0 _ rfl
        have c_b1 := hb_b.cell 1 _ rfl
        have c_b2 := hb_b.cell 2 _ rfl
        have c_b3 := hb_b.cell 3 _ rfl
        have c_g0 := hb_g.cell 0 _ rfl
        have c_g1 := hb_g.cell 1 _ rfl
        by_cases hgc : gc = 0
        · by_cases hi0 : ib = 0
          · have z1 : (gc != 0) = false := by simp [hgc]
            have z2 : (ib == 0) = true := by simp [hi0]
            clear hgc hi0
            go_wp2
            go_ret
            exact ⟨rfl, hB⟩
          · have z1 : (gc != 0) = false := by simp [hgc]
            have z2 : (ib == 0) = false := by simp [hi0]
            obtain ⟨hv, j, hij, hj, hgn, hgd⟩ := Hgo.out hgc
            subst hij
            obtain ⟨i, rfl⟩ : ∃ i, j = i + 1 := ⟨j - 1, by omega⟩
            have hgi := gapsR_at hv (j := i) (by omega)
            have hrise := rings_rise hv hj
            have hri := rings_get hv (i := i) (by omega)
            have hrj := rings_get hv hj
            have hen := ends_bd hv
            have hgb := gap_bd hri.1 hri.2 hen.1 hen.2
            have hgb2 := gap_bd hrj.1 hrj.2 hen.1 hen.2
            have hgr := gap_rise (r := (rings tb sb rb kb).getD i 0) (s := (rings tb sb rb kb).getD (i + 1) 0) (e := ends tb sb) (by omega) hrise (by omega)
            rw [← hgn, ← hgd] at hgb2 hgr
            have Hin := Lib.hid (fun W => show Calls Try.prog 6 #[.agg #[.int .i64 tb, .int .i64 sb, .int .i64 rb, .int .i64 kb], .int .i64 (i : Int)] W fun e w' => e = retF (lowN (44 * (rings tb sb rb kb).getD i 0) (7 * ends tb sb), lowD (44 * (rings tb sb rb kb).getD i 0) (7 * ends tb sb), 0) ∧ Below W.heap.size W w' by have h := GapsAt_any tb sb rb kb i W; rw [hgi] at h; exact h)
            have hi60 : i ≤ 60 := by have := rings_len tb sb rb kb; omega
            clear hgn hgd hgi hrise hri hrj Hgo Hg1 hgc hi0 hv hj hen
            generalize lowN (44 * (rings tb sb rb kb).getD i 0) (7 * ends tb sb) = mn at *
            generalize lowD (44 * (rings tb sb rb kb).getD i 0) (7 * ends tb sb) = md at *
            have p1 : 0 ≤ mn * gd := Int.mul_nonneg hgb.2.2.1 (by omega)
            have p2 : mn * gd ≤ 44000 * 336 := Int.mul_le_mul hgb.2.2.2 hgb2.2.1 (by omega) (by omega)
            have p3 : 0 ≤ gn * md := Int.mul_nonneg hgb2.2.2.1 (by omega)
            have p4 : gn * md ≤ 44000 * 336 := Int.mul_le_mul hgb2.2.2.2 hgb.2.1 (by omega) (by omega)
            have q1 := IntWalk.i64_in (mn * gd) (by omega)
            have q2 := IntWalk.i64_in (gn * md) (by omega)
            have y1 : decide (1 ≤ md) = true := decide_eq_true hgb.1
            have y2 : decide (md ≤ 1000) = true := decide_eq_true (by omega)
            have y3 : decide (0 ≤ mn) = true := decide_eq_true hgb.2.2.1
            have y4 : decide (mn < 100000000) = true := decide_eq_true (by omega)
            have y5 : decide (mn * gd < gn * md) = true := decide_eq_true hgr
            go_wp2_with fail
            with_reducible refine (Hin.out _).mono ?_
            rintro e wl ⟨rfl, hb⟩
            replace hb_g := hb_g.below hb
            have hbn : Blk (wl.alloc (.cells #[.int .i64 mn, .int .i64 md] 29)) wl.heap.size [.int .i64 mn, .int .i64 md] 29 := Blk.box _ _ _ rfl
            replace hb_g := hb_g.alloc (.cells #[.int .i64 mn, .int .i64 md] 29)
            replace hB := (bstep hB hb (Nat.le_refl _)).alloc (Nat.le_trans hB.size hb.size) (.cells #[.int .i64 mn, .int .i64 md] 29)
            clear c_g0 c_g1 c_b0 c_b1 c_b2 c_b3
            have d1 := hb_g.cell 0 _ rfl
            have d2 := hb_g.cell 1 _ rfl
            clear hb
            go_wp2
            go_ret
            exact ⟨rfl, hB⟩
        · have z1 : (gc != 0) = true := by simp [hgc]
          clear hgc
          go_wp2
          go_ret
          exact ⟨rfl, hB⟩
    · have z5 : (fc == 0) = false := by simp [hfc]
      clear hfc Hfo
      by_cases hgc : gc = 0
      · by_cases hi0 : ib = 0
        · have z1 : (gc != 0) = false := by simp [hgc]
          have z2 : (ib == 0) = true := by simp [hi0]
          clear hgc hi0
          go_wp2
          go_ret
          exact ⟨rfl, hB⟩
        · have z1 : (gc != 0) = false := by simp [hgc]
          have z2 : (ib == 0) = false := by simp [hi0]
          obtain ⟨hv, j, hij, hj, hgn, hgd⟩ := Hgo.out hgc
          subst hij
          obtain ⟨i, rfl⟩ : ∃ i, j = i + 1 := ⟨j - 1, by omega⟩
          have hgi := gapsR_at hv (j := i) (by omega)
          have hrise := rings_rise hv hj
          have hri := rings_get hv (i := i) (by omega)
          have hrj := rings_get hv hj
          have hen := ends_bd hv
          have hgb := gap_bd hri.1 hri.2 hen.1 hen.2
          have hgb2 := gap_bd hrj.1 hrj.2 hen.1 hen.2
          have hgr := gap_rise (r := (rings tb sb rb kb).getD i 0) (s := (rings tb sb rb kb).getD (i + 1) 0) (e := ends tb sb) (by omega) hrise (by omega)
          rw [← hgn, ← hgd] at hgb2 hgr
          have Hin := Lib.hid (fun W => show Calls Try.prog 6 #[.agg #[.int .i64 tb, .int .i64 sb, .int .i64 rb, .int .i64 kb], .int .i64 (i : Int)] W fun e w' => e = retF (lowN (44 * (rings tb sb rb kb).getD i 0) (7 * ends tb sb), lowD (44 * (rings tb sb rb kb).getD i 0) (7 * ends tb sb), 0) ∧ Below W.heap.size W w' by have h := GapsAt_any tb sb rb kb i W; rw [hgi] at h; exact h)
          have hi60 : i ≤ 60 := by have := rings_len tb sb rb kb; omega
          clear hgn hgd hgi hrise hri hrj Hgo Hg1 hgc hi0 hv hj hen
          generalize lowN (44 * (rings tb sb rb kb).getD i 0) (7 * ends tb sb) = mn at *
          generalize lowD (44 * (rings tb sb rb kb).getD i 0) (7 * ends tb sb) = md at *
          have p1 : 0 ≤ mn * gd := Int.mul_nonneg hgb.2.2.1 (by omega)
          have p2 : mn * gd ≤ 44000 * 336 := Int.mul_le_mul hgb.2.2.2 hgb2.2.1 (by omega) (by omega)
          have p3 : 0 ≤ gn * md := Int.mul_nonneg hgb2.2.2.1 (by omega)
          have p4 : gn * md ≤ 44000 * 336 := Int.mul_le_mul hgb2.2.2.2 hgb.2.1 (by omega) (by omega)
          have q1 := IntWalk.i64_in (mn * gd) (by omega)
          have q2 := IntWalk.i64_in (gn * md) (by omega)
          have y1 : decide (1 ≤ md) = true := decide_eq_true hgb.1
          have y2 : decide (md ≤ 1000) = true := decide_eq_true (by omega)
          have y3 : decide (0 ≤ mn) = true := decide_eq_true hgb.2.2.1
          have y4 : decide (mn < 100000000) = true := decide_eq_true (by omega)
          have y5 : decide (mn * gd < gn * md) = true := decide_eq_true hgr
          go_wp2_with fail
          with_reducible refine (Hin.out _).mono ?_
          rintro e wl ⟨rfl, hb⟩
          replace hb_g := hb_g.below hb
          have hbn : Blk (wl.alloc (.cells #[.int .i64 mn, .int .i64 md] 29)) wl.heap.size [.int .i64 mn, .int .i64 md] 29 := Blk.box _ _ _ rfl
          replace hb_g := hb_g.alloc (.cells #[.int .i64 mn, .int .i64 md] 29)
          replace hB := (bstep hB hb (Nat.le_refl _)).alloc (Nat.le_trans hB.size hb.size) (.cells #[.int .i64 mn, .int .i64 md] 29)
          clear c_g0 c_g1 c_b0 c_b1 c_b2 c_b3
          have d1 := hb_g.cell 0 _ rfl
          have d2 := hb_g.cell 1 _ rfl
          clear hb
          go_wp2
          go_ret
          exact ⟨rfl, hB⟩
      · have z1 : (gc != 0) = true := by simp [hgc]
        clear hgc
        go_wp2
        go_ret
        exact ⟨rfl, hB⟩
  · have z3 : (ec == 0) = false := by simp [hec]
    clear hec Hhe
    by_cases hfc : fc = 0
    · have z5 : (fc == 0) = true := by simp [hfc]
      obtain ⟨hva, ⟨hla1, hla2⟩, j, hfo, hj, hop, hno⟩ := Hfo.out hfc
      subst hfo
      have hga := gapsR_at hva hj
      have hra := rings_get hva hj
      have hena := ends_bd hva
      have hgba := gap_bd hra.1 hra.2 hena.1 hena.2
      have hopn := (gap_open (r := (rings ta sa ra ka).getD j 0) (e := ends ta sa) (l := la) (by omega) (by omega)).1 hop
      have Hown := Lib.hid (fun W => show Calls Try.prog 6 #[.agg #[.int .i64 ta, .int .i64 sa, .int .i64 ra, .int .i64 ka], .int .i64 (j : Int)] W fun e w' => e = retF (lowN (44 * (rings ta sa ra ka).getD j 0) (7 * ends ta sa), lowD (44 * (rings ta sa ra ka).getD j 0) (7 * ends ta sa), 0) ∧ Below W.heap.size W w' by have h := GapsAt_any ta sa ra ka j W; rw [hga] at h; exact h)
      have Hbe := Lib.hid (fun i (hi : i + 1 = j) => (show ∃ mn md : Int, (∀ W, Calls Try.prog 6 #[.agg #[.int .i64 ta, .int .i64 sa, .int .i64 ra, .int .i64 ka], .int .i64 (i : Int)] W fun e w' => e = retF (mn, md, 0) ∧ Below W.heap.size W w') ∧ (1 ≤ md ∧ md ≤ 336 ∧ 0 ≤ mn ∧ mn ≤ 44000) ∧ mn < la * md by
        have h1 := gapsR_at hva (j := i) (by omega)
        have h2 := rings_get hva (i := i) (by omega)
        have h3 := gap_bd h2.1 h2.2 hena.1 hena.2
        have h4 := hno i (by omega)
        rw [gap_open (by omega) (by omega)] at h4
        refine ⟨_, _, fun W => ?_, h3, by omega⟩
        have h := GapsAt_any ta sa ra ka i W
        rw [h1] at h
        exact h))
      have hj60 : j ≤ 60 := by have := rings_len ta sa ra ka; omega
      clear hga hra hena hop hno hva hfc Hfo hj
      generalize lowN (44 * (rings ta sa ra ka).getD j 0) (7 * ends ta sa) = mn at *
      generalize lowD (44 * (rings ta sa ra ka).getD j 0) (7 * ends ta sa) = md at *
      have p1 : 0 ≤ la * md := Int.mul_nonneg (by omega) (by omega)
      have p2 : la * md ≤ 1000 * 336 := Int.mul_le_mul hla2 hgba.2.1 (by omega) (by omega)
      have q1 := IntWalk.i64_in (la * md) (by omega)
      have y1 : decide (md < 1) = false := decide_eq_false (by omega)
      have y2 : decide (1000 < md) = false := decide_eq_false (by omega)
      have y3 : decide (mn < la * md) = false := decide_eq_false (by omega)
      have c_a0 := hb_a.cell 0 _ rfl
      have c_a1 := hb_a.cell 1 _ rfl
      have c_a2 := hb_a.cell 2 _ rfl
      have c_a3 := hb_a.cell 3 _ rfl
      go_wp2_with fail
      with_reducible refine (Hown.out _).mono ?_
      rintro e wo ⟨rfl, hb⟩
      clear c_a0 c_a1 c_a2 c_a3 c_f0 c_f1 c_g0 c_g1 c_b0 c_b1 c_b2 c_b3
      replace hb_a := hb_a.below hb
      replace hb_b := hb_b.below hb
      replace hb_g := hb_g.below hb
      replace hb_a := hb_a.alloc (.cells #[.int .i64 mn, .int .i64 md] 29)
      replace hb_b := hb_b.alloc (.cells #[.int .i64 mn, .int .i64 md] 29)
      replace hb_g := hb_g.alloc (.cells #[.int .i64 mn, .int .i64 md] 29)
      replace hB := (bstep hB hb (Nat.le_refl _)).alloc (Nat.le_trans hB.size hb.size) (.cells #[.int .i64 mn, .int .i64 md] 29)
      clear hb Hown
      have c_a0 := hb_a.cell 0 _ rfl
      have c_a1 := hb_a.cell 1 _ rfl
      have c_a2 := hb_a.cell 2 _ rfl
      have c_a3 := hb_a.cell 3 _ rfl
      by_cases hj0 : j = 0
      · subst hj0
        have c_b0 := hb_b.cell 0 _ rfl
        have c_b1 := hb_b.cell 1 _ rfl
        have c_b2 := hb_b.cell 2 _ rfl
        have c_b3 := hb_b.cell 3 _ rfl
        have c_g0 := hb_g.cell 0 _ rfl
        have c_g1 := hb_g.cell 1 _ rfl
        clear Hbe
        by_cases hgc : gc = 0
        · by_cases hi0 : ib = 0
          · have z1 : (gc != 0) = false := by simp [hgc]
            have z2 : (ib == 0) = true := by simp [hi0]
            clear hgc hi0
            go_wp2
            go_ret
            exact ⟨rfl, hB⟩
          · have z1 : (gc != 0) = false := by simp [hgc]
            have z2 : (ib == 0) = false := by simp [hi0]
            obtain ⟨hv, j, hij, hj, hgn, hgd⟩ := Hgo.out hgc
            subst hij
            obtain ⟨i, rfl⟩ : ∃ i, j = i + 1 := ⟨j - 1, by omega⟩
            have hgi := gapsR_at hv (j := i) (by omega)
            have hrise := rings_rise hv hj
            have hri := rings_get hv (i := i) (by omega)
            have hrj := rings_get hv hj
            have hen := ends_bd hv
            have hgb := gap_bd hri.1 hri.2 hen.1 hen.2
            have hgb2 := gap_bd hrj.1 hrj.2 hen.1 hen.2
            have hgr := gap_rise (r := (rings tb sb rb kb).getD i 0) (s := (rings tb sb rb kb).getD (i + 1) 0) (e := ends tb sb) (by omega) hrise (by omega)
            rw [← hgn, ← hgd] at hgb2 hgr
            have Hin := Lib.hid (fun W => show Calls Try.prog 6 #[.agg #[.int .i64 tb, .int .i64 sb, .int .i64 rb, .int .i64 kb], .int .i64 (i : Int)] W fun e w' => e = retF (lowN (44 * (rings tb sb rb kb).getD i 0) (7 * ends tb sb), lowD (44 * (rings tb sb rb kb).getD i 0) (7 * ends tb sb), 0) ∧ Below W.heap.size W w' by have h := GapsAt_any tb sb rb kb i W; rw [hgi] at h; exact h)
            have hi60 : i ≤ 60 := by have := rings_len tb sb rb kb; omega
            clear hgn hgd hgi hrise hri hrj Hgo Hg1 hgc hi0 hv hj hen
            generalize lowN (44 * (rings tb sb rb kb).getD i 0) (7 * ends tb sb) = mn at *
            generalize lowD (44 * (rings tb sb rb kb).getD i 0) (7 * ends tb sb) = md at *
            have p1 : 0 ≤ mn * gd := Int.mul_nonneg hgb.2.2.1 (by omega)
            have p2 : mn * gd ≤ 44000 * 336 := Int.mul_le_mul hgb.2.2.2 hgb2.2.1 (by omega) (by omega)
            have p3 : 0 ≤ gn * md := Int.mul_nonneg hgb2.2.2.1 (by omega)
            have p4 : gn * md ≤ 44000 * 336 := Int.mul_le_mul hgb2.2.2.2 hgb.2.1 (by omega) (by omega)
            have q1 := IntWalk.i64_in (mn * gd) (by omega)
            have q2 := IntWalk.i64_in (gn * md) (by omega)
            have y1 : decide (1 ≤ md) = true := decide_eq_true hgb.1
            have y2 : decide (md ≤ 1000) = true := decide_eq_true (by omega)
            have y3 : decide (0 ≤ mn) = true := decide_eq_true hgb.2.2.1
            have y4 : decide (mn < 100000000) = true := decide_eq_true (by omega)
            have y5 : decide (mn * gd < gn * md) = true := decide_eq_true hgr
            go_wp2_with fail
            with_reducible refine (Hin.out _).mono ?_
            rintro e wl ⟨rfl, hb⟩
            replace hb_g := hb_g.below hb
            have hbn : Blk (wl.alloc (.cells #[.int .i64 mn, .int .i64 md] 29)) wl.heap.size [.int .i64 mn, .int .i64 md] 29 := Blk.box _ _ _ rfl
            replace hb_g := hb_g.alloc (.cells #[.int .i64 mn, .int .i64 md] 29)
            replace hB := (bstep hB hb (Nat.le_refl _)).alloc (Nat.le_trans hB.size hb.size) (.cells #[.int .i64 mn, .int .i64 md] 29)
            clear c_g0 c_g1 c_b0 c_b1 c_b2 c_b3
            have d1 := hb_g.cell 0 _ rfl
            have d2 := hb_g.cell 1 _ rfl
            clear hb
            go_wp2
            go_ret
            exact ⟨rfl, hB⟩
        · have z1 : (gc != 0) = true := by simp [hgc]
          clear hgc
          go_wp2
          go_ret
          exact ⟨rfl, hB⟩
      · have y4 : decide (0 < (j : Int)) = true := decide_eq_true (by omega)
        obtain ⟨i, rfl⟩ : ∃ i, j = i + 1 := ⟨j - 1, by omega⟩
        obtain ⟨un, ud, Hun, hub, hul⟩ := Hbe.out i rfl
        have p5 : 0 ≤ la * ud := Int.mul_nonneg (by omega) (by omega)
        have p6 : la * ud ≤ 1000 * 336 := Int.mul_le_mul hla2 hub.2.1 (by omega) (by omega)
        have q5 := IntWalk.i64_in (la * ud) (by omega)
        have y5 : decide (ud < 1) = false := decide_eq_false (by omega)
        have y6 : decide (1000 < ud) = false := decide_eq_false (by omega)
        have y7 : decide (la * ud ≤ un) = false := decide_eq_false (by omega)
        have Hun := Lib.hid Hun
        clear hj0 Hbe
        go_wp2_with fail
        with_reducible refine (Hun.out _).mono ?_
        rintro e wp ⟨rfl, hb⟩
        clear c_a0 c_a1 c_a2 c_a3 hb_a Hun
        replace hb_b := hb_b.below hb
        replace hb_g := hb_g.below hb
        replace hb_b := hb_b.alloc (.cells #[.int .i64 un, .int .i64 ud] 29)
        replace hb_g := hb_g.alloc (.cells #[.int .i64 un, .int .i64 ud] 29)
        replace hB := (bstep hB hb (Nat.le_refl _)).alloc (Nat.le_trans hB.size hb.size) (.cells #[.int .i64 un, .int .i64 ud] 29)
        clear hb
        have c_b0 := hb_b.cell 0 _ rfl
        have c_b1 := hb_b.cell 1 _ rfl
        have c_b2 := hb_b.cell 2 _ rfl
        have c_b3 := hb_b.cell 3 _ rfl
        have c_g0 := hb_g.cell 0 _ rfl
        have c_g1 := hb_g.cell 1 _ rfl
        by_cases hgc : gc = 0
        · by_cases hi0 : ib = 0
          · have z1 : (gc != 0) = false := by simp [hgc]
            have z2 : (ib == 0) = true := by simp [hi0]
            clear hgc hi0
            go_wp2
            go_ret
            exact ⟨rfl, hB⟩
          · have z1 : (gc != 0) = false := by simp [hgc]
            have z2 : (ib == 0) = false := by simp [hi0]
            obtain ⟨hv, j, hij, hj, hgn, hgd⟩ := Hgo.out hgc
            subst hij
            obtain ⟨i, rfl⟩ : ∃ i, j = i + 1 := ⟨j - 1, by omega⟩
            have hgi := gapsR_at hv (j := i) (by omega)
            have hrise := rings_rise hv hj
            have hri := rings_get hv (i := i) (by omega)
            have hrj := rings_get hv hj
            have hen := ends_bd hv
            have hgb := gap_bd hri.1 hri.2 hen.1 hen.2
            have hgb2 := gap_bd hrj.1 hrj.2 hen.1 hen.2
            have hgr := gap_rise (r := (rings tb sb rb kb).getD i 0) (s := (rings tb sb rb kb).getD (i + 1) 0) (e := ends tb sb) (by omega) hrise (by omega)
            rw [← hgn, ← hgd] at hgb2 hgr
            have Hin := Lib.hid (fun W => show Calls Try.prog 6 #[.agg #[.int .i64 tb, .int .i64 sb, .int .i64 rb, .int .i64 kb], .int .i64 (i : Int)] W fun e w' => e = retF (lowN (44 * (rings tb sb rb kb).getD i 0) (7 * ends tb sb), lowD (44 * (rings tb sb rb kb).getD i 0) (7 * ends tb sb), 0) ∧ Below W.heap.size W w' by have h := GapsAt_any tb sb rb kb i W; rw [hgi] at h; exact h)
            have hi60 : i ≤ 60 := by have := rings_len tb sb rb kb; omega
            clear hgn hgd hgi hrise hri hrj Hgo Hg1 hgc hi0 hv hj hen
            generalize lowN (44 * (rings tb sb rb kb).getD i 0) (7 * ends tb sb) = mn at *
            generalize lowD (44 * (rings tb sb rb kb).getD i 0) (7 * ends tb sb) = md at *
            have p1 : 0 ≤ mn * gd := Int.mul_nonneg hgb.2.2.1 (by omega)
            have p2 : mn * gd ≤ 44000 * 336 := Int.mul_le_mul hgb.2.2.2 hgb2.2.1 (by omega) (by omega)
            have p3 : 0 ≤ gn * md := Int.mul_nonneg hgb2.2.2.1 (by omega)
            have p4 : gn * md ≤ 44000 * 336 := Int.mul_le_mul hgb2.2.2.2 hgb.2.1 (by omega) (by omega)
            have q1 := IntWalk.i64_in (mn * gd) (by omega)
            have q2 := IntWalk.i64_in (gn * md) (by omega)
            have y1 : decide (1 ≤ md) = true := decide_eq_true hgb.1
            have y2 : decide (md ≤ 1000) = true := decide_eq_true (by omega)
            have y3 : decide (0 ≤ mn) = true := decide_eq_true hgb.2.2.1
            have y4 : decide (mn < 100000000) = true := decide_eq_true (by omega)
            have y5 : decide (mn * gd < gn * md) = true := decide_eq_true hgr
            go_wp2_with fail
            with_reducible refine (Hin.out _).mono ?_
            rintro e wl ⟨rfl, hb⟩
            replace hb_g := hb_g.below hb
            have hbn : Blk (wl.alloc (.cells #[.int .i64 mn, .int .i64 md] 29)) wl.heap.size [.int .i64 mn, .int .i64 md] 29 := Blk.box _ _ _ rfl
            replace hb_g := hb_g.alloc (.cells #[.int .i64 mn, .int .i64 md] 29)
            replace hB := (bstep hB hb (Nat.le_refl _)).alloc (Nat.le_trans hB.size hb.size) (.cells #[.int .i64 mn, .int .i64 md] 29)
            clear c_g0 c_g1 c_b0 c_b1 c_b2 c_b3
            have d1 := hb_g.cell 0 _ rfl
            have d2 := hb_g.cell 1 _ rfl
            clear hb
            go_wp2
            go_ret
            exact ⟨rfl, hB⟩
        · have z1 : (gc != 0) = true := by simp [hgc]
          clear hgc
          go_wp2
          go_ret
          exact ⟨rfl, hB⟩
    · have z5 : (fc == 0) = false := by simp [hfc]
      clear hfc Hfo
      by_cases hgc : gc = 0
      · by_cases hi0 : ib = 0
        · have z1 : (gc != 0) = false := by simp [hgc]
          have z2 : (ib == 0) = true := by simp [hi0]
          clear hgc hi0
          go_wp2
          go_ret
          exact ⟨rfl, hB⟩
        · have z1 : (gc != 0) = false := by simp [hgc]
          have z2 : (ib == 0) = false := by simp [hi0]
          obtain ⟨hv, j, hij, hj, hgn, hgd⟩ := Hgo.out hgc
          subst hij
          obtain ⟨i, rfl⟩ : ∃ i, j = i + 1 := ⟨j - 1, by omega⟩
          have hgi := gapsR_at hv (j := i) (by omega)
          have hrise := rings_rise hv hj
          have hri := rings_get hv (i := i) (by omega)
          have hrj := rings_get hv hj
          have hen := ends_bd hv
          have hgb := gap_bd hri.1 hri.2 hen.1 hen.2
          have hgb2 := gap_bd hrj.1 hrj.2 hen.1 hen.2
          have hgr := gap_rise (r := (rings tb sb rb kb).getD i 0) (s := (rings tb sb rb kb).getD (i + 1) 0) (e := ends tb sb) (by omega) hrise (by omega)
          rw [← hgn, ← hgd] at hgb2 hgr
          have Hin := Lib.hid (fun W => show Calls Try.prog 6 #[.agg #[.int .i64 tb, .int .i64 sb, .int .i64 rb, .int .i64 kb], .int .i64 (i : Int)] W fun e w' => e = retF (lowN (44 * (rings tb sb rb kb).getD i 0) (7 * ends tb sb), lowD (44 * (rings tb sb rb kb).getD i 0) (7 * ends tb sb), 0) ∧ Below W.heap.size W w' by have h := GapsAt_any tb sb rb kb i W; rw [hgi] at h; exact h)
          have hi60 : i ≤ 60 := by have := rings_len tb sb rb kb; omega
          clear hgn hgd hgi hrise hri hrj Hgo Hg1 hgc hi0 hv hj hen
          generalize lowN (44 * (rings tb sb rb kb).getD i 0) (7 * ends tb sb) = mn at *
          generalize lowD (44 * (rings tb sb rb kb).getD i 0) (7 * ends tb sb) = md at *
          have p1 : 0 ≤ mn * gd := Int.mul_nonneg hgb.2.2.1 (by omega)
          have p2 : mn * gd ≤ 44000 * 336 := Int.mul_le_mul hgb.2.2.2 hgb2.2.1 (by omega) (by omega)
          have p3 : 0 ≤ gn * md := Int.mul_nonneg hgb2.2.2.1 (by omega)
          have p4 : gn * md ≤ 44000 * 336 := Int.mul_le_mul hgb2.2.2.2 hgb.2.1 (by omega) (by omega)
          have q1 := IntWalk.i64_in (mn * gd) (by omega)
          have q2 := IntWalk.i64_in (gn * md) (by omega)
          have y1 : decide (1 ≤ md) = true := decide_eq_true hgb.1
          have y2 : decide (md ≤ 1000) = true := decide_eq_true (by omega)
          have y3 : decide (0 ≤ mn) = true := decide_eq_true hgb.2.2.1
          have y4 : decide (mn < 100000000) = true := decide_eq_true (by omega)
          have y5 : decide (mn * gd < gn * md) = true := decide_eq_true hgr
          go_wp2_with fail
          with_reducible refine (Hin.out _).mono ?_
          rintro e wl ⟨rfl, hb⟩
          replace hb_g := hb_g.below hb
          have hbn : Blk (wl.alloc (.cells #[.int .i64 mn, .int .i64 md] 29)) wl.heap.size [.int .i64 mn, .int .i64 md] 29 := Blk.box _ _ _ rfl
          replace hb_g := hb_g.alloc (.cells #[.int .i64 mn, .int .i64 md] 29)
          replace hB := (bstep hB hb (Nat.le_refl _)).alloc (Nat.le_trans hB.size hb.size) (.cells #[.int .i64 mn, .int .i64 md] 29)
          clear c_g0 c_g1 c_b0 c_b1 c_b2 c_b3
          have d1 := hb_g.cell 0 _ rfl
          have d2 := hb_g.cell 1 _ rfl
          clear hb
          go_wp2
          go_ret
          exact ⟨rfl, hB⟩
      · have z1 : (gc != 0) = true := by simp [hgc]
        clear hgc
        go_wp2
        go_ret
        exact ⟨rfl, hB⟩

set_option maxRecDepth 100000 in
theorem lifted (os : Os) (started : os.Started) (H : Type) (enc : TypeId × Value → H) :
    ReturnsInHanded {} Try.checked os 3 .any (Rows.fnSticksSpec.pre6 enc Try.prog Try.f3 Rows.fnSticksRow.domain false) (Rows.fnSticksSpec.post enc Try.prog Try.f3 false true false false) := by
  refine returnsInHanded_of_change (C := Try.checked) own started (by kernel_rfl) Try.func3
    (ChangeSpec.witness6 (enc := enc) (C := Try.checked) false ⟨#[], #[.slice none 0 0], []⟩ 8 (by kernel_rfl) (by kernel_rfl) (by kernel_rfl) (by kernel_rfl)) ?_
  intro W base args ds gs before hval0 hW hcnd _
  have hval : ∀ (j : Nat) t v, Try.f3.params[j]? = some t → args[j]? = some v → Value.okWide Try.prog W .any base t v := hval0
  have hW' := hW
  obtain ⟨p, q, hA0, hV, rfl, hfz, hnd⟩ := hW
  have hA : DataW.TrodAll enc Try.prog W 0 (fun _ => true) true Try.f3.params.toList args.toList ds p := hA0
  rw [Try.params3] at hA hval
  obtain ⟨v0, vs0, d0, ds0, pP0, qQ0, hargs, rfl, rfl, k0, e0⟩ := trodAll_cons hA
  obtain ⟨rfl, rfl, rfl⟩ := trodAll_nil e0
  obtain rfl : args = #[v0] := by cases args; simp_all
  obtain ⟨rfl, rfl⟩ := trodVars_none hV
  have l0 := arg_lt k0
  obtain ⟨p0, n0, c0, x0, rfl, r0, b0⟩ := arg_bytes (hval 0 _ v0 rfl rfl) k0
  clear hA0 hval0
  refine (walk W p0 n0 c0 x0 r0 b0).mono fun e W' ⟨he, bel⟩ => ?_
  subst he
  exact ⟨_, rfl, _, _, _, [], _, [], hW', trodAll_mk1 (shut_bool Try.underlying4 _), (trodAll_cons_mk (Below.trod laidOut (by kernel_rfl) (of_decide_eq_true (by kernel_rfl)) k0 bel l0) trodAll_mk0), rfl, bel.frame _, fun h => by cases h⟩

theorem over : Rows.fnSticksRow.holds Try.pinned (OpenSpec.ofChange Rows.fnSticksSpec) :=
  OpenClaim.holds_of_wide 3 Try.f3 rfl rfl rfl rfl rfl rfl rfl ⟨rfl, rfl, rfl, rfl, rfl⟩ rfl rfl rfl rfl rfl (by kernel_rfl) Try.func3 (by kernel_rfl)
    (of_decide_eq_true (by kernel_rfl)) (by unfold Func.isWrapper; first | (rw [if_pos (by decide +kernel)]; kernel_rfl) | (rw [if_neg (by decide +kernel)]; exact ⟨rfl, rfl⟩))
    (fun os started H enc _ => lifted os started H enc)

/-- the statement -/
theorem proved : Rows.FnSticksSaid := over
#print axioms proved
end Go.Proofs.Ytimomjkeknlcgaa.fnSticks
