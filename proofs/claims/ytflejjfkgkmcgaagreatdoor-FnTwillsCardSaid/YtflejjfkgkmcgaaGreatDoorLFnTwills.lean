/-
  Proved here: the law FnTwills answers true at every input, and leaves its arguments as they were. No condition.
-/
import Derived.Test.YtflejjfkgkmcgaaGreatDoorFrame
import Derived.Test.YtflejjfkgkmcgaaGreatDoorTie
import Derived.Test.YtflejjfkgkmcgaaGreatDoorCards
import Derived.Lay
import Derived.SevenTiedAt
import Derived.LaidMore
import Derived.Stop.Joined
import Derived.Test.YtflejjfkgkmcgaaGreatDoorShapedAnd
import Derived.Test.YtflejjfkgkmcgaaGreatDoorTwillBack2
import Derived.Test.YtflejjfkgkmcgaaGreatDoorTwillTxt
import Derived.Test.YtflejjfkgkmcgaaGreatDoorTwillLaw
import Derived.Test.YtflejjfkgkmcgaaGreatDoorTwill4
import Derived.Test.YtflejjfkgkmcgaaGreatDoorTwill6
import Derived.Test.YtflejjfkgkmcgaaGreatDoorTwill10
import Derived.Test.YtflejjfkgkmcgaaGreatDoorF6
namespace Go.Proofs.YtflejjfkgkmcgaaGreatDoor.fnTwills
open Go.ChangeShapes Go.WideShapes Go.ChangeAt Go.RowKit
set_option linter.unusedVariables false

set_option maxHeartbeats 16000000 in
set_option maxRecDepth 100000 in
theorem walk (w : World) (p0 : Option Addr) (n0 c0 : Nat) (x0 : List Int) (r0 : RV w p0 n0 c0 (x0.map (.int .u8))) (b0 : ∀ x ∈ x0, 0 ≤ x ∧ x ≤ 255)
    (mx : Int) (hmx : w.cell? ⟨0, 0, none⟩ = some (.int .i64 mx)) : Calls Tryz.prog 3 #[.slice p0 n0 c0] w fun e w' => e = .returned (.bool true) ∧ Below w.heap.size w w' := by
  --SHAPED
  have hm0 : 0 < w.heap.size := World.block_lt_of_cell? w ⟨0, 0, none⟩ hmx
  have Hmx := Lib.hid hmx
  clear hmx
  by_cases hbig : (4096 : Int) < n0
  · go_enter Tryz.func3, Tryz.ntmps3
    go_wp2_with (go_at_call 4; refine (f6big_any _ _ _ _ r0.small).mono ?_; rw [decide_eq_true hbig]; rintro e w' ⟨rfl, rfl⟩)
    go_ret
    exact ⟨rfl, Below.refl _ _⟩
  have hB : Below w.heap.size w w := Below.refl _ _
  have Hr0 := Lib.hid r0
  have Hb0 := Lib.hid b0
  have hsm := r0.small
  clear r0 b0
  go_enter Tryz.func3, Tryz.ntmps3
  go_wp2_with fail
  with_reducible refine (f6big_any _ _ _ _ hsm).mono ?_
  rw [decide_eq_false (show ¬ (4096 : Int) < n0 by omega)]
  rintro e wq ⟨rfl, rfl⟩
  go_wp2_with fail
  with_reducible refine (DrawFaceOf_any _ _ _ _ _ Hr0.out Hb0.out).mono ?_
  rintro e w1 ⟨v_t, ys, st, y, z, rfl, hyl, ho_t, hb⟩
  obtain ⟨a_t, c_t, rfl, hrv_t⟩ := ho_t.sliceI
  clear ho_t
  replace hB := bstep hB hb (Nat.le_refl _)
  clear hb
  obtain ⟨F, fc, HF⟩ : ∃ F fc, Hid (faceR ys st y z = (F, fc)) := ⟨_, _, rfl⟩
  obtain ⟨pp, pq, pc, HP⟩ : ∃ p q c, Hid (periodR ys st = (p, q, c)) := ⟨_, _, _, rfl⟩
  obtain ⟨fm, fn, flc, HL⟩ : ∃ p q c, Hid (floatsR ys st = (p, q, c)) := ⟨_, _, _, rfl⟩
  obtain ⟨T, HT⟩ : ∃ T, Hid (twillTextR ys st = T) := ⟨_, rfl⟩
  obtain ⟨vv, HV⟩ : ∃ vv, Hid (vTwill ys st = vv) := ⟨_, rfl⟩
  have Hfi := Lib.hid (fun W (h : RV W a_t ys.length c_t (ints ys)) => show Calls Tryz.prog 6 #[.agg #[.slice a_t ys.length c_t, .int .i64 st], .int .i64 y, .int .i64 z] W (RetS W 9 (F, fc)) by have h2 := faceOf_any a_t ys.length c_t ys st y z W h; rw [HF.out] at h2; exact h2)
  have Hfs := Lib.hid (fun W (h : RV W a_t ys.length c_t (ints ys)) => show Calls Tryz.prog 7 #[.agg #[.slice a_t ys.length c_t, .int .i64 st], .int .i64 y, .int .i64 z] W (RetS W 9 (F, fc)) by have h2 := specFaceOf_any a_t ys.length c_t ys st y z W h; rw [HF.out] at h2; exact h2)
  have Hri := Lib.hid (fun W (h : RV W a_t ys.length c_t (ints ys)) => show Calls Tryz.prog 8 #[.agg #[.slice a_t ys.length c_t, .int .i64 st]] W fun e w' => e = rt3t (pp, pq, pc) ∧ Below W.heap.size W w' by have h2 := repeatOf_any a_t ys.length c_t ys st W h; rw [HP.out] at h2; exact h2)
  have Hrs := Lib.hid (fun W (h : RV W a_t ys.length c_t (ints ys)) => show Calls Tryz.prog 9 #[.agg #[.slice a_t ys.length c_t, .int .i64 st]] W fun e w' => e = rt3t (pp, pq, pc) ∧ Below W.heap.size W w' by have h2 := specRepeatOf_any a_t ys.length c_t ys st W h; rw [HP.out] at h2; exact h2)
  have Hli := Lib.hid (fun W (h : RV W a_t ys.length c_t (ints ys)) => show Calls Tryz.prog 13 #[.agg #[.slice a_t ys.length c_t, .int .i64 st]] W fun e w' => e = rt3t (fm, fn, flc) ∧ Below W.heap.size W w' by have h2 := floatsOf_any a_t ys.length c_t ys st W h; rw [HL.out] at h2; exact h2)
  have Hls := Lib.hid (fun W (h : RV W a_t ys.length c_t (ints ys)) => show Calls Tryz.prog 14 #[.agg #[.slice a_t ys.length c_t, .int .i64 st]] W fun e w' => e = rt3t (fm, fn, flc) ∧ Below W.heap.size W w' by have h2 := specFloatsOf_any a_t ys.length c_t ys st W h; rw [HL.out] at h2; exact h2)
  have Hvi := Lib.hid (fun W (h : RV W a_t ys.length c_t (ints ys)) => show Calls Tryz.prog 19 #[.agg #[.slice a_t ys.length c_t, .int .i64 st]] W fun e w' => e = .returned (.bool vv) ∧ Below W.heap.size W w' by have h2 := validTwill_any a_t ys.length c_t ys st W h; rw [HV.out] at h2; exact h2)
  have Hvs := Lib.hid (fun W (h : RV W a_t ys.length c_t (ints ys)) => show Calls Tryz.prog 20 #[.agg #[.slice a_t ys.length c_t, .int .i64 st]] W fun e w' => e = .returned (.bool vv) ∧ Below W.heap.size W w' by have h2 := specValidTwill_any a_t ys.length c_t ys st W h; rw [HV.out] at h2; exact h2)
  have Hti := Lib.hid (fun W (h : RV W a_t ys.length c_t (ints ys)) => show Calls Tryz.prog 21 #[.agg #[.slice a_t ys.length c_t, .int .i64 st]] W fun e w' => e = .returned (.string T) ∧ Below W.heap.size W w' by have h2 := twillText_any a_t ys.length c_t ys st W h; rw [HT.out] at h2; exact h2)
  have Hts := Lib.hid (fun W (h : RV W a_t ys.length c_t (ints ys)) => show Calls Tryz.prog 22 #[.agg #[.slice a_t ys.length c_t, .int .i64 st]] W fun e w' => e = .returned (.string T) ∧ Below W.heap.size W w' by have h2 := specTwillText_any a_t ys.length c_t ys st W h; rw [HT.out] at h2; exact h2)
  have hn_t : Blk (w1.alloc (.cells #[.slice a_t ys.length c_t, .int .i64 st] 26)) w1.heap.size [.slice a_t ys.length c_t, .int .i64 st] 26 := Blk.box _ _ _ rfl
  replace hrv_t := hrv_t.below ((Below.refl _ _).alloc (Nat.le_refl _) (.cells #[.slice a_t ys.length c_t, .int .i64 st] 26))
  replace hB := hB.alloc hB.size (.cells #[.slice a_t ys.length c_t, .int .i64 st] 26)
  have hb_t := hn_t
  clear hn_t
  go_wp2_with fail
  with_reducible refine (Hfi.out _ hrv_t).mono ?_
  rintro e w2 ⟨v_fi, rfl, ho_fi, hb⟩
  obtain ⟨a_fi, c_fi, rfl, hrv_fi⟩ := ho_fi.sliceS
  clear ho_fi
  replace hb_t := hb_t.below hb
  replace hrv_t := hrv_t.below hb
  replace hB := bstep hB hb (Nat.le_refl _)
  clear hb
  have c_t0 := hb_t.cell 0 _ rfl
  have c_t1 := hb_t.cell 1 _ rfl
  go_wp2_with fail
  with_reducible refine (Hfs.out _ hrv_t).mono ?_
  rintro e w3 ⟨v_fs, rfl, ho_fs, hb⟩
  obtain ⟨a_fs, c_fs, rfl, hrv_fs⟩ := ho_fs.sliceS
  clear ho_fs
  replace hb_t := hb_t.below hb
  replace hrv_t := hrv_t.below hb
  replace hrv_fi := hrv_fi.below hb
  replace hB := bstep hB hb (Nat.le_refl _)
  clear hb
  clear c_t0 c_t1
  have c_t0 := hb_t.cell 0 _ rfl
  have c_t1 := hb_t.cell 1 _ rfl
  go_wp2_with fail
  with_reducible refine (Hri.out _ hrv_t).mono ?_
  rintro e w4 ⟨rfl, hb⟩
  replace hb_t := hb_t.below hb
  replace hrv_t := hrv_t.below hb
  replace hrv_fi := hrv_fi.below hb
  replace hrv_fs := hrv_fs.below hb
  replace hB := bstep hB hb (Nat.le_refl _)
  clear hb
  clear c_t0 c_t1
  have c_t0 := hb_t.cell 0 _ rfl
  have c_t1 := hb_t.cell 1 _ rfl
  go_wp2_with fail
  with_reducible refine (Hrs.out _ hrv_t).mono ?_
  rintro e w5 ⟨rfl, hb⟩
  replace hb_t := hb_t.below hb
  replace hrv_t := hrv_t.below hb
  replace hrv_fi := hrv_fi.below hb
  replace hrv_fs := hrv_fs.below hb
  replace hB := bstep hB hb (Nat.le_refl _)
  clear hb
  clear c_t0 c_t1
  go_wp2_with fail
  with_reducible refine (DrawBackOf_any _ _ _ _ _ (Hr0.out.below hB) Hb0.out).mono ?_
  rintro e w6 ⟨v_b, xs2, st2, rfl, hxl2, ho_b, hb⟩
  obtain ⟨a_b, c_b, rfl, hrv_b⟩ := ho_b.sliceI
  clear ho_b
  replace hb_t := hb_t.below hb
  replace hrv_t := hrv_t.below hb
  replace hrv_fi := hrv_fi.below hb
  replace hrv_fs := hrv_fs.below hb
  replace hB := bstep hB hb (Nat.le_refl _)
  clear hb
  obtain ⟨XB, sb, bc, HBk⟩ : ∃ p q c, Hid (backR xs2 st2 = (p, q, c)) := ⟨_, _, _, rfl⟩
  have Hbi := Lib.hid (fun W (h : RV W a_b xs2.length c_b (ints xs2)) => show Calls Tryz.prog 11 #[.agg #[.slice a_b xs2.length c_b, .int .i64 st2]] W (RetTC W 2 (XB, sb, bc)) by have h2 := backOf_any a_b xs2.length c_b xs2 st2 W h; rw [HBk.out] at h2; exact h2)
  have Hbs := Lib.hid (fun W (h : RV W a_b xs2.length c_b (ints xs2)) => show Calls Tryz.prog 12 #[.agg #[.slice a_b xs2.length c_b, .int .i64 st2]] W (RetTC W 2 (XB, sb, bc)) by have h2 := specBackOf_any a_b xs2.length c_b xs2 st2 W h; rw [HBk.out] at h2; exact h2)
  have hn_b : Blk (w6.alloc (.cells #[.slice a_b xs2.length c_b, .int .i64 st2] 26)) w6.heap.size [.slice a_b xs2.length c_b, .int .i64 st2] 26 := Blk.box _ _ _ rfl
  replace hb_t := hb_t.alloc (.cells #[.slice a_b xs2.length c_b, .int .i64 st2] 26)
  replace hrv_t := hrv_t.below ((Below.refl _ _).alloc (Nat.le_refl _) (.cells #[.slice a_b xs2.length c_b, .int .i64 st2] 26))
  replace hrv_fi := hrv_fi.below ((Below.refl _ _).alloc (Nat.le_refl _) (.cells #[.slice a_b xs2.length c_b, .int .i64 st2] 26))
  replace hrv_fs := hrv_fs.below ((Below.refl _ _).alloc (Nat.le_refl _) (.cells #[.slice a_b xs2.length c_b, .int .i64 st2] 26))
  replace hrv_b := hrv_b.below ((Below.refl _ _).alloc (Nat.le_refl _) (.cells #[.slice a_b xs2.length c_b, .int .i64 st2] 26))
  replace hB := hB.alloc hB.size (.cells #[.slice a_b xs2.length c_b, .int .i64 st2] 26)
  have hb_b := hn_b
  clear hn_b
  go_wp2_with fail
  with_reducible refine (Hbi.out _ hrv_b).mono ?_
  rintro e w7 ⟨v_x, rfl, ho_x, hb⟩
  obtain ⟨a_x, c_x, rfl, hrv_x⟩ := ho_x.sliceI
  clear ho_x
  replace hb_t := hb_t.below hb
  replace hb_b := hb_b.below hb
  replace hrv_t := hrv_t.below hb
  replace hrv_fi := hrv_fi.below hb
  replace hrv_fs := hrv_fs.below hb
  replace hrv_b := hrv_b.below hb
  replace hB := bstep hB hb (Nat.le_refl _)
  clear hb
  have hn_x : Blk (w7.alloc (.cells #[.slice a_x XB.length c_x, .int .i64 sb] 26)) w7.heap.size [.slice a_x XB.length c_x, .int .i64 sb] 26 := Blk.box _ _ _ rfl
  replace hb_t := hb_t.alloc (.cells #[.slice a_x XB.length c_x, .int .i64 sb] 26)
  replace hb_b := hb_b.alloc (.cells #[.slice a_x XB.length c_x, .int .i64 sb] 26)
  replace hrv_t := hrv_t.below ((Below.refl _ _).alloc (Nat.le_refl _) (.cells #[.slice a_x XB.length c_x, .int .i64 sb] 26))
  replace hrv_fi := hrv_fi.below ((Below.refl _ _).alloc (Nat.le_refl _) (.cells #[.slice a_x XB.length c_x, .int .i64 sb] 26))
  replace hrv_fs := hrv_fs.below ((Below.refl _ _).alloc (Nat.le_refl _) (.cells #[.slice a_x XB.length c_x, .int .i64 sb] 26))
  replace hrv_b := hrv_b.below ((Below.refl _ _).alloc (Nat.le_refl _) (.cells #[.slice a_x XB.length c_x, .int .i64 sb] 26))
  replace hrv_x := hrv_x.below ((Below.refl _ _).alloc (Nat.le_refl _) (.cells #[.slice a_x XB.length c_x, .int .i64 sb] 26))
  replace hB := hB.alloc hB.size (.cells #[.slice a_x XB.length c_x, .int .i64 sb] 26)
  have hb_x := hn_x
  clear hn_x
  have c_b0 := hb_b.cell 0 _ rfl
  have c_b1 := hb_b.cell 1 _ rfl
  go_wp2_with fail
  with_reducible refine (Hbs.out _ hrv_b).mono ?_
  rintro e w8 ⟨v_m, rfl, ho_m, hb⟩
  obtain ⟨a_m, c_m, rfl, hrv_m⟩ := ho_m.sliceI
  clear ho_m
  replace hb_t := hb_t.below hb
  replace hb_b := hb_b.below hb
  replace hb_x := hb_x.below hb
  replace hrv_t := hrv_t.below hb
  replace hrv_fi := hrv_fi.below hb
  replace hrv_fs := hrv_fs.below hb
  replace hrv_b := hrv_b.below hb
  replace hrv_x := hrv_x.below hb
  replace hB := bstep hB hb (Nat.le_refl _)
  clear hb
  clear c_b0 c_b1
  have hn_m : Blk (w8.alloc (.cells #[.slice a_m XB.length c_m, .int .i64 sb] 26)) w8.heap.size [.slice a_m XB.length c_m, .int .i64 sb] 26 := Blk.box _ _ _ rfl
  replace hb_t := hb_t.alloc (.cells #[.slice a_m XB.length c_m, .int .i64 sb] 26)
  replace hb_b := hb_b.alloc (.cells #[.slice a_m XB.length c_m, .int .i64 sb] 26)
  replace hb_x := hb_x.alloc (.cells #[.slice a_m XB.length c_m, .int .i64 sb] 26)
  replace hrv_t := hrv_t.below ((Below.refl _ _).alloc (Nat.le_refl _) (.cells #[.slice a_m XB.length c_m, .int .i64 sb] 26))
  replace hrv_fi := hrv_fi.below ((Below.refl _ _).alloc (Nat.le_refl _) (.cells #[.slice a_m XB.length c_m, .int .i64 sb] 26))
  replace hrv_fs := hrv_fs.below ((Below.refl _ _).alloc (Nat.le_refl _) (.cells #[.slice a_m XB.length c_m, .int .i64 sb] 26))
  replace hrv_b := hrv_b.below ((Below.refl _ _).alloc (Nat.le_refl _) (.cells #[.slice a_m XB.length c_m, .int .i64 sb] 26))
  replace hrv_x := hrv_x.below ((Below.refl _ _).alloc (Nat.le_refl _) (.cells #[.slice a_m XB.length c_m, .int .i64 sb] 26))
  replace hrv_m := hrv_m.below ((Below.refl _ _).alloc (Nat.le_refl _) (.cells #[.slice a_m XB.length c_m, .int .i64 sb] 26))
  replace hB := hB.alloc hB.size (.cells #[.slice a_m XB.length c_m, .int .i64 sb] 26)
  have hb_m := hn_m
  clear hn_m
  have c_t0 := hb_t.cell 0 _ rfl
  have c_t1 := hb_t.cell 1 _ rfl
  go_wp2_with fail
  with_reducible refine (Hli.out _ hrv_t).mono ?_
  rintro e w9 ⟨rfl, hb⟩
  replace hb_t := hb_t.below hb
  replace hb_b := hb_b.below hb
  replace hb_x := hb_x.below hb
  replace hb_m := hb_m.below hb
  replace hrv_t := hrv_t.below hb
  replace hrv_fi := hrv_fi.below hb
  replace hrv_fs := hrv_fs.below hb
  replace hrv_b := hrv_b.below hb
  replace hrv_x := hrv_x.below hb
  replace hrv_m := hrv_m.below hb
  replace hB := bstep hB hb (Nat.le_refl _)
  clear hb
  clear c_t0 c_t1
  have c_t0 := hb_t.cell 0 _ rfl
  have c_t1 := hb_t.cell 1 _ rfl
  go_wp2_with fail
  with_reducible refine (Hls.out _ hrv_t).mono ?_
  rintro e w10 ⟨rfl, hb⟩
  replace hb_t := hb_t.below hb
  replace hb_b := hb_b.below hb
  replace hb_x := hb_x.below hb
  replace hb_m := hb_m.below hb
  replace hrv_t := hrv_t.below hb
  replace hrv_fi := hrv_fi.below hb
  replace hrv_fs := hrv_fs.below hb
  replace hrv_b := hrv_b.below hb
  replace hrv_x := hrv_x.below hb
  replace hrv_m := hrv_m.below hb
  replace hB := bstep hB hb (Nat.le_refl _)
  clear hb
  clear c_t0 c_t1
  go_wp2_with fail
  with_reducible refine (DrawSameTwill_any _ _ _ _ _ (Hr0.out.below hB) Hb0.out).mono ?_
  rintro e w11 ⟨v_c, v_d, xs3, xs4, st3, st4, rfl, ho_c, ho_d, hb⟩
  obtain ⟨a_c, c_c, rfl, hrv_c⟩ := ho_c.sliceI
  obtain ⟨a_d, c_d, rfl, hrv_d⟩ := ho_d.sliceI
  clear ho_c ho_d
  replace hb_t := hb_t.below hb
  replace hb_b := hb_b.below hb
  replace hb_x := hb_x.below hb
  replace hb_m := hb_m.below hb
  replace hrv_t := hrv_t.below hb
  replace hrv_fi := hrv_fi.below hb
  replace hrv_fs := hrv_fs.below hb
  replace hrv_b := hrv_b.below hb
  replace hrv_x := hrv_x.below hb
  replace hrv_m := hrv_m.below hb
  replace hB := bstep hB hb (Nat.le_refl _)
  clear hb
  have hn_c : Blk (w11.alloc (.cells #[.slice a_c xs3.length c_c, .int .i64 st3] 26)) w11.heap.size [.slice a_c xs3.length c_c, .int .i64 st3] 26 := Blk.box _ _ _ rfl
  replace hb_t := hb_t.alloc (.cells #[.slice a_c xs3.length c_c, .int .i64 st3] 26)
  replace hb_b := hb_b.alloc (.cells #[.slice a_c xs3.length c_c, .int .i64 st3] 26)
  replace hb_x := hb_x.alloc (.cells #[.slice a_c xs3.length c_c, .int .i64 st3] 26)
  replace hb_m := hb_m.alloc (.cells #[.slice a_c xs3.length c_c, .int .i64 st3] 26)
  replace hrv_t := hrv_t.below ((Below.refl _ _).alloc (Nat.le_refl _) (.cells #[.slice a_c xs3.length c_c, .int .i64 st3] 26))
  replace hrv_fi := hrv_fi.below ((Below.refl _ _).alloc (Nat.le_refl _) (.cells #[.slice a_c xs3.length c_c, .int .i64 st3] 26))
  replace hrv_fs := hrv_fs.below ((Below.refl _ _).alloc (Nat.le_refl _) (.cells #[.slice a_c xs3.length c_c, .int .i64 st3] 26))
  replace hrv_b := hrv_b.below ((Below.refl _ _).alloc (Nat.le_refl _) (.cells #[.slice a_c xs3.length c_c, .int .i64 st3] 26))
  replace hrv_x := hrv_x.below ((Below.refl _ _).alloc (Nat.le_refl _) (.cells #[.slice a_c xs3.length c_c, .int .i64 st3] 26))
  replace hrv_m := hrv_m.below ((Below.refl _ _).alloc (Nat.le_refl _) (.cells #[.slice a_c xs3.length c_c, .int .i64 st3] 26))
  replace hrv_c := hrv_c.below ((Below.refl _ _).alloc (Nat.le_refl _) (.cells #[.slice a_c xs3.length c_c, .int .i64 st3] 26))
  replace hrv_d := hrv_d.below ((Below.refl _ _).alloc (Nat.le_refl _) (.cells #[.slice a_c xs3.length c_c, .int .i64 st3] 26))
  replace hB := hB.alloc hB.size (.cells #[.slice a_c xs3.length c_c, .int .i64 st3] 26)
  have hb_c := hn_c
  clear hn_c
  have hn_d : Blk ((w11.alloc (.cells #[.slice a_c xs3.length c_c, .int .i64 st3] 26)).alloc (.cells #[.slice a_d xs4.length c_d, .int .i64 st4] 26)) (w11.alloc (.cells #[.slice a_c xs3.length c_c, .int .i64 st3] 26)).heap.size [.slice a_d xs4.length c_d, .int .i64 st4] 26 := Blk.box _ _ _ rfl
  replace hb_t := hb_t.alloc (.cells #[.slice a_d xs4.length c_d, .int .i64 st4] 26)
  replace hb_b := hb_b.alloc (.cells #[.slice a_d xs4.length c_d, .int .i64 st4] 26)
  replace hb_x := hb_x.alloc (.cells #[.slice a_d xs4.length c_d, .int .i64 st4] 26)
  replace hb_m := hb_m.alloc (.cells #[.slice a_d xs4.length c_d, .int .i64 st4] 26)
  replace hb_c := hb_c.alloc (.cells #[.slice a_d xs4.length c_d, .int .i64 st4] 26)
  replace hrv_t := hrv_t.below ((Below.refl _ _).alloc (Nat.le_refl _) (.cells #[.slice a_d xs4.length c_d, .int .i64 st4] 26))
  replace hrv_fi := hrv_fi.below ((Below.refl _ _).alloc (Nat.le_refl _) (.cells #[.slice a_d xs4.length c_d, .int .i64 st4] 26))
  replace hrv_fs := hrv_fs.below ((Below.refl _ _).alloc (Nat.le_refl _) (.cells #[.slice a_d xs4.length c_d, .int .i64 st4] 26))
  replace hrv_b := hrv_b.below ((Below.refl _ _).alloc (Nat.le_refl _) (.cells #[.slice a_d xs4.length c_d, .int .i64 st4] 26))
  replace hrv_x := hrv_x.below ((Below.refl _ _).alloc (Nat.le_refl _) (.cells #[.slice a_d xs4.length c_d, .int .i64 st4] 26))
  replace hrv_m := hrv_m.below ((Below.refl _ _).alloc (Nat.le_refl _) (.cells #[.slice a_d xs4.length c_d, .int .i64 st4] 26))
  replace hrv_c := hrv_c.below ((Below.refl _ _).alloc (Nat.le_refl _) (.cells #[.slice a_d xs4.length c_d, .int .i64 st4] 26))
  replace hrv_d := hrv_d.below ((Below.refl _ _).alloc (Nat.le_refl _) (.cells #[.slice a_d xs4.length c_d, .int .i64 st4] 26))
  replace hB := hB.alloc hB.size (.cells #[.slice a_d xs4.length c_d, .int .i64 st4] 26)
  have hb_d := hn_d
  clear hn_d
  have hzc : (w11.alloc (.cells #[.slice a_c xs3.length c_c, .int .i64 st3] 26)).heap.size = w11.heap.size + 1 := by simp
  rw [hzc] at hb_d
  clear hzc
  have Hlts : Hid (w1.heap.size < ((w11.alloc (.cells #[.slice a_c xs3.length c_c, .int .i64 st3] 26)).alloc (.cells #[.slice a_d xs4.length c_d, .int .i64 st4] 26)).heap.size ∧ w7.heap.size < ((w11.alloc (.cells #[.slice a_c xs3.length c_c, .int .i64 st3] 26)).alloc (.cells #[.slice a_d xs4.length c_d, .int .i64 st4] 26)).heap.size ∧ w8.heap.size < ((w11.alloc (.cells #[.slice a_c xs3.length c_c, .int .i64 st3] 26)).alloc (.cells #[.slice a_d xs4.length c_d, .int .i64 st4] 26)).heap.size ∧ w11.heap.size < ((w11.alloc (.cells #[.slice a_c xs3.length c_c, .int .i64 st3] 26)).alloc (.cells #[.slice a_d xs4.length c_d, .int .i64 st4] 26)).heap.size ∧ (w11.heap.size + 1) < ((w11.alloc (.cells #[.slice a_c xs3.length c_c, .int .i64 st3] 26)).alloc (.cells #[.slice a_d xs4.length c_d, .int .i64 st4] 26)).heap.size) := Lib.hid ⟨hb_t.lt, hb_x.lt, hb_m.lt, hb_c.lt, hb_d.lt⟩
  have HSS : Hid (((w11.alloc (.cells #[.slice a_c xs3.length c_c, .int .i64 st3] 26)).alloc (.cells #[.slice a_d xs4.length c_d, .int .i64 st4] 26)).cell? ⟨w1.heap.size, 0, none⟩ = some (.slice a_t ys.length c_t) ∧ ((w11.alloc (.cells #[.slice a_c xs3.length c_c, .int .i64 st3] 26)).alloc (.cells #[.slice a_d xs4.length c_d, .int .i64 st4] 26)).cell? ⟨w1.heap.size, 1, none⟩ = some (.int .i64 st) ∧ ((w11.alloc (.cells #[.slice a_c xs3.length c_c, .int .i64 st3] 26)).alloc (.cells #[.slice a_d xs4.length c_d, .int .i64 st4] 26)).cell? ⟨w7.heap.size, 0, none⟩ = some (.slice a_x XB.length c_x) ∧ ((w11.alloc (.cells #[.slice a_c xs3.length c_c, .int .i64 st3] 26)).alloc (.cells #[.slice a_d xs4.length c_d, .int .i64 st4] 26)).cell? ⟨w7.heap.size, 1, none⟩ = some (.int .i64 sb) ∧ ((w11.alloc (.cells #[.slice a_c xs3.length c_c, .int .i64 st3] 26)).alloc (.cells #[.slice a_d xs4.length c_d, .int .i64 st4] 26)).cell? ⟨w8.heap.size, 0, none⟩ = some (.slice a_m XB.length c_m) ∧ ((w11.alloc (.cells #[.slice a_c xs3.length c_c, .int .i64 st3] 26)).alloc (.cells #[.slice a_d xs4.length c_d, .int .i64 st4] 26)).cell? ⟨w8.heap.size, 1, none⟩ = some (.int .i64 sb) ∧ ((w11.alloc (.cells #[.slice a_c xs3.length c_c, .int .i64 st3] 26)).alloc (.cells #[.slice a_d xs4.length c_d, .int .i64 st4] 26)).cell? ⟨w11.heap.size, 0, none⟩ = some (.slice a_c xs3.length c_c) ∧ ((w11.alloc (.cells #[.slice a_c xs3.length c_c, .int .i64 st3] 26)).alloc (.cells #[.slice a_d xs4.length c_d, .int .i64 st4] 26)).cell? ⟨w11.heap.size, 1, none⟩ = some (.int .i64 st3) ∧ ((w11.alloc (.cells #[.slice a_c xs3.length c_c, .int .i64 st3] 26)).alloc (.cells #[.slice a_d xs4.length c_d, .int .i64 st4] 26)).cell? ⟨(w11.heap.size + 1), 0, none⟩ = some (.slice a_d xs4.length c_d) ∧ ((w11.alloc (.cells #[.slice a_c xs3.length c_c, .int .i64 st3] 26)).alloc (.cells #[.slice a_d xs4.length c_d, .int .i64 st4] 26)).cell? ⟨(w11.heap.size + 1), 1, none⟩ = some (.int .i64 st4) ∧ Below ((w11.alloc (.cells #[.slice a_c xs3.length c_c, .int .i64 st3] 26)).alloc (.cells #[.slice a_d xs4.length c_d, .int .i64 st4] 26)).heap.size ((w11.alloc (.cells #[.slice a_c xs3.length c_c, .int .i64 st3] 26)).alloc (.cells #[.slice a_d xs4.length c_d, .int .i64 st4] 26)) ((w11.alloc (.cells #[.slice a_c xs3.length c_c, .int .i64 st3] 26)).alloc (.cells #[.slice a_d xs4.length c_d, .int .i64 st4] 26))) := Lib.hid ⟨hb_t.cell 0 _ rfl, hb_t.cell 1 _ rfl, hb_x.cell 0 _ rfl, hb_x.cell 1 _ rfl, hb_m.cell 0 _ rfl, hb_m.cell 1 _ rfl, hb_c.cell 0 _ rfl, hb_c.cell 1 _ rfl, hb_d.cell 0 _ rfl, hb_d.cell 1 _ rfl, Below.refl _ _⟩
  have Hv_t := Lib.hid hrv_t
  clear hrv_t
  have Hv_fi := Lib.hid hrv_fi
  clear hrv_fi
  have Hv_fs := Lib.hid hrv_fs
  clear hrv_fs
  have Hv_b := Lib.hid hrv_b
  clear hrv_b
  have Hv_x := Lib.hid hrv_x
  clear hrv_x
  have Hv_m := Lib.hid hrv_m
  clear hrv_m
  have Hv_c := Lib.hid hrv_c
  clear hrv_c
  have Hv_d := Lib.hid hrv_d
  clear hrv_d
  have HX_t := Lib.hid hb_t
  clear hb_t
  have HX_b := Lib.hid hb_b
  clear hb_b
  have HX_x := Lib.hid hb_x
  clear hb_x
  have HX_m := Lib.hid hb_m
  clear hb_m
  have HX_c := Lib.hid hb_c
  clear hb_c
  have HX_d := Lib.hid hb_d
  clear hb_d
  have HB := Lib.hid hB
  clear hB
  obtain ⟨ss, HSm⟩ : ∃ ss, Hid (sameT xs3 xs4 st3 st4 = ss) := ⟨_, rfl⟩
  have Hsi := Lib.hid (fun W (h : RV W a_c xs3.length c_c (ints xs3)) (k : RV W a_d xs4.length c_d (ints xs4)) => show Calls Tryz.prog 18 #[.agg #[.slice a_c xs3.length c_c, .int .i64 st3], .agg #[.slice a_d xs4.length c_d, .int .i64 st4]] W fun e w' => e = .returned (.bool ss) ∧ Below W.heap.size W w' by have h2 := sameTwill_any a_c a_d xs3.length xs4.length c_c c_d xs3 xs4 st3 st4 W h k; rw [HSm.out] at h2; exact h2)
  have Hsp := Lib.hid (fun W (h : RV W a_c xs3.length c_c (ints xs3)) (k : RV W a_d xs4.length c_d (ints xs4)) => show Calls Tryz.prog 17 #[.agg #[.slice a_c xs3.length c_c, .int .i64 st3], .agg #[.slice a_d xs4.length c_d, .int .i64 st4]] W fun e w' => e = .returned (.bool ss) ∧ Below W.heap.size W w' by have h2 := specSameTwill_any a_c a_d xs3.length xs4.length c_c c_d xs3 xs4 st3 st4 W h k; rw [HSm.out] at h2; exact h2)
  have Hsb := Lib.hid (fun W (h : RV W a_x XB.length c_x (ints XB)) (k : RV W a_m XB.length c_m (ints XB)) => show Calls Tryz.prog 17 #[.agg #[.slice a_x XB.length c_x, .int .i64 sb], .agg #[.slice a_m XB.length c_m, .int .i64 sb]] W fun e w' => e = .returned (.bool true) ∧ Below W.heap.size W w' by have h2 := specSameTwill_any a_x a_m XB.length XB.length c_x c_m XB XB sb sb W h k; rw [show sameT XB XB sb sb = true by simp [sameT]] at h2; exact h2)
  have Hft := Lib.hid (fun W (h : RV W a_fi F.length c_fi (strs F)) (k : RV W a_fs F.length c_fs (strs F)) => f6texts_yes a_fi a_fs F.length c_fi c_fs (F.map str) W (rv_strs h) (rv_strs k))
  obtain ⟨wa, hwa⟩ : ∃ x : World, x = ((w11.alloc (.cells #[.slice a_c xs3.length c_c, .int .i64 st3] 26)).alloc (.cells #[.slice a_d xs4.length c_d, .int .i64 st4] 26)) := ⟨_, rfl⟩
  rw [← hwa] at Hlts HSS Hv_t Hv_fi Hv_fs Hv_b Hv_x Hv_m Hv_c Hv_d HX_t HX_b HX_x HX_m HX_c HX_d HB
  generalize w1.heap.size = gt at *
  generalize w7.heap.size = gx at *
  generalize w8.heap.size = gm at *
  go_wp2_with fail
  rw [← hwa]
  clear hwa
  go_cut [171] (fun sq wc => sq = .bool false ∧ Below wa.heap.size wa wc)
  case first => as_aux_lemma =>
    refine wp_region_head (fun w' => w'.cell? ⟨gt, 0, none⟩ = some (.slice a_t ys.length c_t) ∧ w'.cell? ⟨gt, 1, none⟩ = some (.int .i64 st) ∧ w'.cell? ⟨gx, 0, none⟩ = some (.slice a_x XB.length c_x) ∧ w'.cell? ⟨gx, 1, none⟩ = some (.int .i64 sb) ∧ w'.cell? ⟨gm, 0, none⟩ = some (.slice a_m XB.length c_m) ∧ w'.cell? ⟨gm, 1, none⟩ = some (.int .i64 sb) ∧ w'.cell? ⟨w11.heap.size, 0, none⟩ = some (.slice a_c xs3.length c_c) ∧ w'.cell? ⟨w11.heap.size, 1, none⟩ = some (.int .i64 st3) ∧ w'.cell? ⟨w11.heap.size + 1, 0, none⟩ = some (.slice a_d xs4.length c_d) ∧ w'.cell? ⟨w11.heap.size + 1, 1, none⟩ = some (.int .i64 st4) ∧ Below wa.heap.size wa w') 72 (by kernel_rfl) (Nat.le_of_ble_eq_true (by kernel_rfl)) ?_
    have HS := Lib.hid (s5_drew HSS.out)
    generalize wa.drew = w0 at HS ⊢
    refine wpHead_take (i := 0) (v := ?_) rfl (by kernel_rfl) (fun _ _ _ h => h) (Or.inl ⟨by rfl, ?_⟩) HS.out ?_
    rotate_left
    · intro w hSw; (try dsimp only at hSw); go_simp; (try with_reducible rfl)
    (try simp only [Act.put, List.setIfInBounds_toArray, List.set_cons_zero, List.set_cons_succ])
    refine wpHead_take (i := 1) (v := ?_) rfl (by kernel_rfl) (fun _ _ _ h => h) (Or.inl ⟨by rfl, ?_⟩) HS.out ?_
    rotate_left
    · intro w hSw; (try dsimp only at hSw); go_simp; (try with_reducible rfl)
    (try simp only [Act.put, List.setIfInBounds_toArray, List.set_cons_zero, List.set_cons_succ])
    refine wpHead_take (i := 2) (v := ?_) rfl (by kernel_rfl) (fun _ _ _ h => h) (Or.inl ⟨by rfl, ?_⟩) HS.out ?_
    rotate_left
    · intro w hSw; (try dsimp only at hSw); go_simp; (try with_reducible rfl)
    (try simp only [Act.put, List.setIfInBounds_toArray, List.set_cons_zero, List.set_cons_succ])
    refine wpHead_take (i := 3) (v := ?_) rfl (by kernel_rfl) (fun _ _ _ h => h) (Or.inl ⟨by rfl, ?_⟩) HS.out ?_
    rotate_left
    · intro w hSw; (try dsimp only at hSw); go_simp; (try with_reducible rfl)
    (try simp only [Act.put, List.setIfInBounds_toArray, List.set_cons_zero, List.set_cons_succ])
    refine wpHead_take (i := 4) (v := ?_) rfl (by kernel_rfl) (fun _ _ _ h => h) (Or.inl ⟨by rfl, ?_⟩) HS.out ?_
    rotate_left
    · intro w hSw; (try dsimp only at hSw); go_simp; (try with_reducible rfl)
    (try simp only [Act.put, List.setIfInBounds_toArray, List.set_cons_zero, List.set_cons_succ])
    refine wpHead_take (i := 5) (v := ?_) rfl (by kernel_rfl) (fun _ _ _ h => h) (Or.inl ⟨by rfl, ?_⟩) HS.out ?_
    rotate_left
    · intro w hSw; (try dsimp only at hSw); go_simp; (try with_reducible rfl)
    (try simp only [Act.put, List.setIfInBounds_toArray, List.set_cons_zero, List.set_cons_succ])
    refine wpHead_one (i := 6) (by kernel_rfl) (by decide) rfl (fun K hK => ?_)
    go_simp
    with_reducible refine (Hft.out _ (Hv_fi.out.below (s5_below HS.out)) (Hv_fs.out.below (s5_below HS.out))).mono ?_
    rintro e w2 ⟨rfl, qq, hq⟩
    have hb2 := below_of_drewN' hq
    clear hq
    replace HS := Lib.hid (s5_keep HS.out hb2 Hlts.out)
    refine hK.out _ _ HS.out ?_
    clear hK K hb2
    (try simp only [Act.put, List.setIfInBounds_toArray, List.set_cons_zero, List.set_cons_succ])
    refine wpHead_take (i := 7) (v := ?_) rfl (by kernel_rfl) (fun _ _ _ h => h) (Or.inl ⟨by rfl, ?_⟩) HS.out ?_
    rotate_left
    · intro w hSw; (try dsimp only at hSw); go_simp; (try with_reducible rfl)
    (try simp only [Act.put, List.setIfInBounds_toArray, List.set_cons_zero, List.set_cons_succ])
    refine wpHead_take (i := 8) (v := ?_) rfl (by kernel_rfl) (fun _ _ _ h => h) (Or.inl ⟨by rfl, ?_⟩) HS.out ?_
    rotate_left
    · intro w hSw; (try dsimp only at hSw); go_simp; (try with_reducible rfl)
    (try simp only [Act.put, List.setIfInBounds_toArray, List.set_cons_zero, List.set_cons_succ])
    refine wpHead_take (i := 9) (v := ?_) rfl (by kernel_rfl) (fun _ _ _ h => h) (Or.inl ⟨by rfl, ?_⟩) HS.out ?_
    rotate_left
    · intro w hSw; (try dsimp only at hSw); go_simp; (try with_reducible rfl)
    (try simp only [Act.put, List.setIfInBounds_toArray, List.set_cons_zero, List.set_cons_succ])
    refine wpHead_take (i := 10) (v := ?_) rfl (by kernel_rfl) (fun _ _ _ h => h) (Or.inl ⟨by rfl, ?_⟩) HS.out ?_
    rotate_left
    · intro w hSw; (try dsimp only at hSw); go_simp; (try with_reducible rfl)
    (try simp only [Act.put, List.setIfInBounds_toArray, List.set_cons_zero, List.set_cons_succ])
    refine wpHead_take (i := 11) (v := ?_) rfl (by kernel_rfl) (fun _ _ _ h => h) (Or.inl ⟨by rfl, ?_⟩) HS.out ?_
    rotate_left
    · intro w hSw; (try dsimp only at hSw); go_simp; (try with_reducible rfl)
    (try simp only [Act.put, List.setIfInBounds_toArray, List.set_cons_zero, List.set_cons_succ])
    refine wpHead_take (i := 12) (v := ?_) rfl (by kernel_rfl) (fun _ _ _ h => h) (Or.inl ⟨by rfl, ?_⟩) HS.out ?_
    rotate_left
    · intro w hSw; (try dsimp only at hSw); go_simp; (try with_reducible rfl)
    (try simp only [Act.put, List.setIfInBounds_toArray, List.set_cons_zero, List.set_cons_succ])
    refine wpHead_take (i := 13) (v := ?_) rfl (by kernel_rfl) (fun _ _ _ h => h) (Or.inl ⟨by rfl, ?_⟩) HS.out ?_
    rotate_left
    · intro w hSw; (try dsimp only at hSw); go_simp; (try with_reducible rfl)
    (try simp only [Act.put, List.setIfInBounds_toArray, List.set_cons_zero, List.set_cons_succ])
    refine wpHead_take (i := 14) (v := ?_) rfl (by kernel_rfl) (fun _ _ _ h => h) (Or.inl ⟨by rfl, ?_⟩) HS.out ?_
    rotate_left
    · intro w hSw; (try dsimp only at hSw); go_simp; (try with_reducible rfl)
    (try simp only [Act.put, List.setIfInBounds_toArray, List.set_cons_zero, List.set_cons_succ])
    refine wpHead_take (i := 15) (v := ?_) rfl (by kernel_rfl) (fun _ _ _ h => h) (Or.inl ⟨by rfl, ?_⟩) HS.out ?_
    rotate_left
    · intro w hSw; (try dsimp only at hSw); go_simp; (try with_reducible rfl)
    (try simp only [Act.put, List.setIfInBounds_toArray, List.set_cons_zero, List.set_cons_succ])
    refine wpHead_take (i := 16) (v := ?_) rfl (by kernel_rfl) (fun _ _ _ h => h) (Or.inl ⟨by rfl, ?_⟩) HS.out ?_
    rotate_left
    · intro w hSw; (try dsimp only at hSw); go_simp; (try with_reducible rfl)
    (try simp only [Act.put, List.setIfInBounds_toArray, List.set_cons_zero, List.set_cons_succ])
    refine wpHead_take (i := 17) (v := ?_) rfl (by kernel_rfl) (fun _ _ _ h => h) (Or.inl ⟨by rfl, ?_⟩) HS.out ?_
    rotate_left
    · intro w hSw; (try dsimp only at hSw); go_simp; (try with_reducible rfl)
    (try simp only [Act.put, List.setIfInBounds_toArray, List.set_cons_zero, List.set_cons_succ])
    refine wpHead_take (i := 18) (v := ?_) rfl (by kernel_rfl) (fun _ _ _ h => h) (Or.inl ⟨by rfl, ?_⟩) HS.out ?_
    rotate_left
    · intro w hSw; (try dsimp only at hSw); go_simp; (try with_reducible rfl)
    (try simp only [Act.put, List.setIfInBounds_toArray, List.set_cons_zero, List.set_cons_succ])
    refine wpHead_take (i := 19) (v := ?_) rfl (by kernel_rfl) (fun _ _ _ h => h) (Or.inl ⟨by rfl, ?_⟩) HS.out ?_
    rotate_left
    · intro w hSw; (try dsimp only at hSw); go_simp; (try with_reducible rfl)
    (try simp only [Act.put, List.setIfInBounds_toArray, List.set_cons_zero, List.set_cons_succ])
    refine wpHead_take (i := 20) (v := ?_) rfl (by kernel_rfl) (fun _ _ _ h => h) (Or.inl ⟨by rfl, ?_⟩) HS.out ?_
    rotate_left
    · intro w hSw; (try dsimp only at hSw); go_simp; (try with_reducible rfl)
    (try simp only [Act.put, List.setIfInBounds_toArray, List.set_cons_zero, List.set_cons_succ])
    refine wpHead_take (i := 21) (v := ?_) rfl (by kernel_rfl) (fun _ _ _ h => h) (Or.inl ⟨by rfl, ?_⟩) HS.out ?_
    rotate_left
    · intro w hSw; (try dsimp only at hSw); go_simp; (try with_reducible rfl)
    (try simp only [Act.put, List.setIfInBounds_toArray, List.set_cons_zero, List.set_cons_succ])
    refine wpHead_take (i := 22) (v := ?_) rfl (by kernel_rfl) (fun _ _ _ h => h) (Or.inl ⟨by rfl, ?_⟩) HS.out ?_
    rotate_left
    · intro w hSw; (try dsimp only at hSw); go_simp; (try with_reducible rfl)
    (try simp only [Act.put, List.setIfInBounds_toArray, List.set_cons_zero, List.set_cons_succ])
    refine wpHead_take (i := 23) (v := ?_) rfl (by kernel_rfl) (fun _ _ _ h => h) (Or.inl ⟨by rfl, ?_⟩) HS.out ?_
    rotate_left
    · intro w hSw; (try dsimp only at hSw); go_simp; (try with_reducible rfl)
    (try simp only [Act.put, List.setIfInBounds_toArray, List.set_cons_zero, List.set_cons_succ])
    refine wpHead_take (i := 24) (v := ?_) rfl (by kernel_rfl) (fun _ _ _ h => h) (Or.inl ⟨by rfl, ?_⟩) HS.out ?_
    rotate_left
    · intro w hSw; (try dsimp only at hSw); go_simp; (try with_reducible rfl)
    (try simp only [Act.put, List.setIfInBounds_toArray, List.set_cons_zero, List.set_cons_succ])
    refine wpHead_take (i := 25) (v := ?_) rfl (by kernel_rfl) (fun _ _ _ h => h) (Or.inl ⟨by rfl, ?_⟩) HS.out ?_
    rotate_left
    · intro w hSw; (try dsimp only at hSw); go_simp; (try with_reducible rfl)
    (try simp only [Act.put, List.setIfInBounds_toArray, List.set_cons_zero, List.set_cons_succ])
    refine wpHead_take (i := 26) (v := ?_) rfl (by kernel_rfl) (fun _ _ _ h => h) (Or.inl ⟨by rfl, ?_⟩) HS.out ?_
    rotate_left
    · intro w hSw; (try dsimp only at hSw); go_simp; (try with_reducible rfl)
    (try simp only [Act.put, List.setIfInBounds_toArray, List.set_cons_zero, List.set_cons_succ])
    refine wpHead_take (i := 27) (v := ?_) rfl (by kernel_rfl) (fun _ _ _ h => h) (Or.inl ⟨by rfl, ?_⟩) HS.out ?_
    rotate_left
    · intro w hSw; (try dsimp only at hSw); go_simp; (try with_reducible rfl)
    (try simp only [Act.put, List.setIfInBounds_toArray, List.set_cons_zero, List.set_cons_succ])
    refine wpHead_take (i := 28) (v := ?_) rfl (by kernel_rfl) (fun _ _ _ h => h) (Or.inl ⟨by rfl, ?_⟩) HS.out ?_
    rotate_left
    · intro w hSw; (try dsimp only at hSw); go_simp; (try with_reducible rfl)
    (try simp only [Act.put, List.setIfInBounds_toArray, List.set_cons_zero, List.set_cons_succ])
    refine wpHead_take (i := 29) (v := ?_) rfl (by kernel_rfl) (fun _ _ _ h => h) (Or.inl ⟨by rfl, ?_⟩) HS.out ?_
    rotate_left
    · intro w hSw; (try dsimp only at hSw); go_simp; (try with_reducible rfl)
    (try simp only [Act.put, List.setIfInBounds_toArray, List.set_cons_zero, List.set_cons_succ])
    refine wpHead_take (i := 30) (v := ?_) rfl (by kernel_rfl) (fun _ _ _ h => h) (Or.inl ⟨by rfl, ?_⟩) HS.out ?_
    rotate_left
    · intro w hSw; (try dsimp only at hSw); go_simp; (try with_reducible rfl)
    (try simp only [Act.put, List.setIfInBounds_toArray, List.set_cons_zero, List.set_cons_succ])
    refine wpHead_take (i := 31) (v := ?_) rfl (by kernel_rfl) (fun _ _ _ h => h) (Or.inl ⟨by rfl, ?_⟩) HS.out ?_
    rotate_left
    · intro w hSw; (try dsimp only at hSw); go_simp; (try with_reducible rfl)
    (try simp only [Act.put, List.setIfInBounds_toArray, List.set_cons_zero, List.set_cons_succ])
    refine wpHead_one (i := 32) (by kernel_rfl) (by decide) rfl (fun K hK => ?_)
    go_simp
    with_reducible refine (Hsb.out _ (Hv_x.out.below (s5_below HS.out)) (Hv_m.out.below (s5_below HS.out))).mono ?_
    rintro e w2 ⟨rfl, hb2⟩
    replace HS := Lib.hid (s5_keep HS.out hb2 Hlts.out)
    refine hK.out _ _ HS.out ?_
    clear hK K hb2
    (try simp only [Act.put, List.setIfInBounds_toArray, List.set_cons_zero, List.set_cons_succ])
    refine wpHead_take (i := 33) (v := ?_) rfl (by kernel_rfl) (fun _ _ _ h => h) (Or.inl ⟨by rfl, ?_⟩) HS.out ?_
    rotate_left
    · intro w hSw; (try dsimp only at hSw); go_simp; (try with_reducible rfl)
    (try simp only [Act.put, List.setIfInBounds_toArray, List.set_cons_zero, List.set_cons_succ])
    refine wpHead_take (i := 34) (v := ?_) rfl (by kernel_rfl) (fun _ _ _ h => h) (Or.inl ⟨by rfl, ?_⟩) HS.out ?_
    rotate_left
    · intro w hSw; (try dsimp only at hSw); go_simp; (try with_reducible rfl)
    (try simp only [Act.put, List.setIfInBounds_toArray, List.set_cons_zero, List.set_cons_succ])
    refine wpHead_take (i := 35) (v := ?_) rfl (by kernel_rfl) (fun _ _ _ h => h) (Or.inl ⟨by rfl, ?_⟩) HS.out ?_
    rotate_left
    · intro w hSw; (try dsimp only at hSw); go_simp; (try with_reducible rfl)
    (try simp only [Act.put, List.setIfInBounds_toArray, List.set_cons_zero, List.set_cons_succ])
    refine wpHead_take (i := 36) (v := ?_) rfl (by kernel_rfl) (fun _ _ _ h => h) (Or.inl ⟨by rfl, ?_⟩) HS.out ?_
    rotate_left
    · intro w hSw; (try dsimp only at hSw); go_simp; (try with_reducible rfl)
    (try simp only [Act.put, List.setIfInBounds_toArray, List.set_cons_zero, List.set_cons_succ])
    refine wpHead_take (i := 37) (v := ?_) rfl (by kernel_rfl) (fun _ _ _ h => h) (Or.inl ⟨by rfl, ?_⟩) HS.out ?_
    rotate_left
    · intro w hSw; (try dsimp only at hSw); go_simp; (try with_reducible rfl)
    (try simp only [Act.put, List.setIfInBounds_toArray, List.set_cons_zero, List.set_cons_succ])
    refine wpHead_take (i := 38) (v := ?_) rfl (by kernel_rfl) (fun _ _ _ h => h) (Or.inl ⟨by rfl, ?_⟩) HS.out ?_
    rotate_left
    · intro w hSw; (try dsimp only at hSw); go_simp; (try with_reducible rfl)
    (try simp only [Act.put, List.setIfInBounds_toArray, List.set_cons_zero, List.set_cons_succ])
    refine wpHead_take (i := 39) (v := ?_) rfl (by kernel_rfl) (fun _ _ _ h => h) (Or.inl ⟨by rfl, ?_⟩) HS.out ?_
    rotate_left
    · intro w hSw; (try dsimp only at hSw); go_simp; (try with_reducible rfl)
    (try simp only [Act.put, List.setIfInBounds_toArray, List.set_cons_zero, List.set_cons_succ])
    refine wpHead_take (i := 40) (v := ?_) rfl (by kernel_rfl) (fun _ _ _ h => h) (Or.inl ⟨by rfl, ?_⟩) HS.out ?_
    rotate_left
    · intro w hSw; (try dsimp only at hSw); go_simp; (try with_reducible rfl)
    (try simp only [Act.put, List.setIfInBounds_toArray, List.set_cons_zero, List.set_cons_succ])
    refine wpHead_take (i := 41) (v := ?_) rfl (by kernel_rfl) (fun _ _ _ h => h) (Or.inl ⟨by rfl, ?_⟩) HS.out ?_
    rotate_left
    · intro w hSw; (try dsimp only at hSw); go_simp; (try with_reducible rfl)
    (try simp only [Act.put, List.setIfInBounds_toArray, List.set_cons_zero, List.set_cons_succ])
    refine wpHead_take (i := 42) (v := ?_) rfl (by kernel_rfl) (fun _ _ _ h => h) (Or.inl ⟨by rfl, ?_⟩) HS.out ?_
    rotate_left
    · intro w hSw; (try dsimp only at hSw); go_simp; (try with_reducible rfl)
    (try simp only [Act.put, List.setIfInBounds_toArray, List.set_cons_zero, List.set_cons_succ])
    refine wpHead_take (i := 43) (v := ?_) rfl (by kernel_rfl) (fun _ _ _ h => h) (Or.inl ⟨by rfl, ?_⟩) HS.out ?_
    rotate_left
    · intro w hSw; (try dsimp only at hSw); go_simp; (try with_reducible rfl)
    (try simp only [Act.put, List.setIfInBounds_toArray, List.set_cons_zero, List.set_cons_succ])
    refine wpHead_take (i := 44) (v := ?_) rfl (by kernel_rfl) (fun _ _ _ h => h) (Or.inl ⟨by rfl, ?_⟩) HS.out ?_
    rotate_left
    · intro w hSw; (try dsimp only at hSw); go_simp; (try with_reducible rfl)
    (try simp only [Act.put, List.setIfInBounds_toArray, List.set_cons_zero, List.set_cons_succ])
    refine wpHead_take (i := 45) (v := ?_) rfl (by kernel_rfl) (fun _ _ _ h => h) (Or.inl ⟨by rfl, ?_⟩) HS.out ?_
    rotate_left
    · intro w hSw; (try dsimp only at hSw); go_simp; (try with_reducible rfl)
    (try simp only [Act.put, List.setIfInBounds_toArray, List.set_cons_zero, List.set_cons_succ])
    refine wpHead_take (i := 46) (v := ?_) rfl (by kernel_rfl) (fun _ _ _ h => h) (Or.inl ⟨by rfl, ?_⟩) HS.out ?_
    rotate_left
    · intro w hSw; (try dsimp only at hSw); go_simp; (try with_reducible rfl)
    (try simp only [Act.put, List.setIfInBounds_toArray, List.set_cons_zero, List.set_cons_succ])
    refine wpHead_take (i := 47) (v := ?_) rfl (by kernel_rfl) (fun _ _ _ h => h) (Or.inl ⟨by rfl, ?_⟩) HS.out ?_
    rotate_left
    · intro w hSw; (try dsimp only at hSw); go_simp; (try with_reducible rfl)
    (try simp only [Act.put, List.setIfInBounds_toArray, List.set_cons_zero, List.set_cons_succ])
    refine wpHead_take (i := 48) (v := ?_) rfl (by kernel_rfl) (fun _ _ _ h => h) (Or.inl ⟨by rfl, ?_⟩) HS.out ?_
    rotate_left
    · intro w hSw; (try dsimp only at hSw); go_simp; (try with_reducible rfl)
    (try simp only [Act.put, List.setIfInBounds_toArray, List.set_cons_zero, List.set_cons_succ])
    refine wpHead_take (i := 49) (v := ?_) rfl (by kernel_rfl) (fun _ _ _ h => h) (Or.inl ⟨by rfl, ?_⟩) HS.out ?_
    rotate_left
    · intro w hSw; (try dsimp only at hSw); go_simp; (try with_reducible rfl)
    (try simp only [Act.put, List.setIfInBounds_toArray, List.set_cons_zero, List.set_cons_succ])
    refine wpHead_take (i := 50) (v := ?_) rfl (by kernel_rfl) (fun _ _ _ h => h) (Or.inl ⟨by rfl, ?_⟩) HS.out ?_
    rotate_left
    · intro w hSw; (try dsimp only at hSw); go_simp; (try with_reducible rfl)
    (try simp only [Act.put, List.setIfInBounds_toArray, List.set_cons_zero, List.set_cons_succ])
    refine wpHead_take (i := 51) (v := ?_) rfl (by kernel_rfl) (fun _ _ _ h => h) (Or.inl ⟨by rfl, ?_⟩) HS.out ?_
    rotate_left
    · intro w hSw; (try dsimp only at hSw); go_simp; (try with_reducible rfl)
    (try simp only [Act.put, List.setIfInBounds_toArray, List.set_cons_zero, List.set_cons_succ])
    refine wpHead_take (i := 52) (v := ?_) rfl (by kernel_rfl) (fun _ _ _ h => h) (Or.inl ⟨by rfl, ?_⟩) HS.out ?_
    rotate_left
    · intro w hSw; (try dsimp only at hSw); go_simp; (try with_reducible rfl)
    (try simp only [Act.put, List.setIfInBounds_toArray, List.set_cons_zero, List.set_cons_succ])
    refine wpHead_take (i := 54) (v := ?_) rfl (by kernel_rfl) (fun _ _ _ h => h) (Or.inl ⟨by rfl, ?_⟩) HS.out ?_
    rotate_left
    · intro w hSw; (try dsimp only at hSw); go_simp; (try with_reducible rfl)
    (try simp only [Act.put, List.setIfInBounds_toArray, List.set_cons_zero, List.set_cons_succ])
    refine wpHead_take (i := 55) (v := ?_) rfl (by kernel_rfl) (fun _ _ _ h => h) (Or.inl ⟨by rfl, ?_⟩) HS.out ?_
    rotate_left
    · intro w hSw; (try dsimp only at hSw); go_simp; (try with_reducible rfl)
    (try simp only [Act.put, List.setIfInBounds_toArray, List.set_cons_zero, List.set_cons_succ])
    refine wpHead_one (i := 53) (by kernel_rfl) (by decide) rfl (fun K hK => ?_)
    go_simp
    with_reducible refine (Hsi.out _ (Hv_c.out.below (s5_below HS.out)) (Hv_d.out.below (s5_below HS.out))).mono ?_
    rintro e w2 ⟨rfl, hb2⟩
    replace HS := Lib.hid (s5_keep HS.out hb2 Hlts.out)
    refine hK.out _ _ HS.out ?_
    clear hK K hb2
    (try simp only [Act.put, List.setIfInBounds_toArray, List.set_cons_zero, List.set_cons_succ])
    refine wpHead_one (i := 56) (by kernel_rfl) (by decide) rfl (fun K hK => ?_)
    go_simp
    with_reducible refine (Hsp.out _ (Hv_c.out.below (s5_below HS.out)) (Hv_d.out.below (s5_below HS.out))).mono ?_
    rintro e w2 ⟨rfl, hb2⟩
    replace HS := Lib.hid (s5_keep HS.out hb2 Hlts.out)
    refine hK.out _ _ HS.out ?_
    clear hK K hb2
    (try simp only [Act.put, List.setIfInBounds_toArray, List.set_cons_zero, List.set_cons_succ])
    refine wpHead_take (i := 57) (v := ?_) rfl (by kernel_rfl) (fun _ _ _ h => h) (Or.inl ⟨by rfl, ?_⟩) HS.out ?_
    rotate_left
    · intro w hSw; (try dsimp only at hSw); go_simp; (try with_reducible rfl)
    (try simp only [Act.put, List.setIfInBounds_toArray, List.set_cons_zero, List.set_cons_succ])
    refine wpHead_take (i := 58) (v := ?_) rfl (by kernel_rfl) (fun _ _ _ h => h) (Or.inl ⟨by rfl, ?_⟩) HS.out ?_
    rotate_left
    · intro w hSw; (try dsimp only at hSw); go_simp; (try with_reducible rfl)
    (try simp only [Act.put, List.setIfInBounds_toArray, List.set_cons_zero, List.set_cons_succ])
    refine wpHead_take (i := 59) (v := ?_) rfl (by kernel_rfl) (fun _ _ _ h => h) (Or.inl ⟨by rfl, ?_⟩) HS.out ?_
    rotate_left
    · intro w hSw; (try dsimp only at hSw); go_simp; (try with_reducible rfl)
    (try simp only [Act.put, List.setIfInBounds_toArray, List.set_cons_zero, List.set_cons_succ])
    refine wpHead_take (i := 60) (v := ?_) rfl (by kernel_rfl) (fun _ _ _ h => h) (Or.inl ⟨by rfl, ?_⟩) HS.out ?_
    rotate_left
    · intro w hSw; (try dsimp only at hSw); go_simp; (try with_reducible rfl)
    (try simp only [Act.put, List.setIfInBounds_toArray, List.set_cons_zero, List.set_cons_succ])
    refine wpHead_take (i := 62) (v := ?_) rfl (by kernel_rfl) (fun _ _ _ h => h) (Or.inl ⟨by rfl, ?_⟩) HS.out ?_
    rotate_left
    · intro w hSw; (try dsimp only at hSw); go_simp; (try with_reducible rfl)
    (try simp only [Act.put, List.setIfInBounds_toArray, List.set_cons_zero, List.set_cons_succ])
    refine wpHead_one (i := 61) (by kernel_rfl) (by decide) rfl (fun K hK => ?_)
    go_simp
    with_reducible refine (Hvi.out _ (Hv_t.out.below (s5_below HS.out))).mono ?_
    rintro e w2 ⟨rfl, hb2⟩
    replace HS := Lib.hid (s5_keep HS.out hb2 Hlts.out)
    refine hK.out _ _ HS.out ?_
    clear hK K hb2
    (try simp only [Act.put, List.setIfInBounds_toArray, List.set_cons_zero, List.set_cons_succ])
    refine wpHead_one (i := 63) (by kernel_rfl) (by decide) rfl (fun K hK => ?_)
    go_simp
    with_reducible refine (Hvs.out _ (Hv_t.out.below (s5_below HS.out))).mono ?_
    rintro e w2 ⟨rfl, hb2⟩
    replace HS := Lib.hid (s5_keep HS.out hb2 Hlts.out)
    refine hK.out _ _ HS.out ?_
    clear hK K hb2
    (try simp only [Act.put, List.setIfInBounds_toArray, List.set_cons_zero, List.set_cons_succ])
    refine wpHead_take (i := 64) (v := ?_) rfl (by kernel_rfl) (fun _ _ _ h => h) (Or.inl ⟨by rfl, ?_⟩) HS.out ?_
    rotate_left
    · intro w hSw; (try dsimp only at hSw); go_simp; (try with_reducible rfl)
    (try simp only [Act.put, List.setIfInBounds_toArray, List.set_cons_zero, List.set_cons_succ])
    refine wpHead_take (i := 65) (v := ?_) rfl (by kernel_rfl) (fun _ _ _ h => h) (Or.inl ⟨by rfl, ?_⟩) HS.out ?_
    rotate_left
    · intro w hSw; (try dsimp only at hSw); go_simp; (try with_reducible rfl)
    (try simp only [Act.put, List.setIfInBounds_toArray, List.set_cons_zero, List.set_cons_succ])
    refine wpHead_take (i := 66) (v := ?_) rfl (by kernel_rfl) (fun _ _ _ h => h) (Or.inl ⟨by rfl, ?_⟩) HS.out ?_
    rotate_left
    · intro w hSw; (try dsimp only at hSw); go_simp; (try with_reducible rfl)
    (try simp only [Act.put, List.setIfInBounds_toArray, List.set_cons_zero, List.set_cons_succ])
    refine wpHead_take (i := 67) (v := ?_) rfl (by kernel_rfl) (fun _ _ _ h => h) (Or.inl ⟨by rfl, ?_⟩) HS.out ?_
    rotate_left
    · intro w hSw; (try dsimp only at hSw); go_simp; (try with_reducible rfl)
    (try simp only [Act.put, List.setIfInBounds_toArray, List.set_cons_zero, List.set_cons_succ])
    refine wpHead_take (i := 69) (v := ?_) rfl (by kernel_rfl) (fun _ _ _ h => h) (Or.inl ⟨by rfl, ?_⟩) HS.out ?_
    rotate_left
    · intro w hSw; (try dsimp only at hSw); go_simp; (try with_reducible rfl)
    (try simp only [Act.put, List.setIfInBounds_toArray, List.set_cons_zero, List.set_cons_succ])
    refine wpHead_one (i := 68) (by kernel_rfl) (by decide) rfl (fun K hK => ?_)
    go_simp
    with_reducible refine (Hti.out _ (Hv_t.out.below (s5_below HS.out))).mono ?_
    rintro e w2 ⟨rfl, hb2⟩
    replace HS := Lib.hid (s5_keep HS.out hb2 Hlts.out)
    refine hK.out _ _ HS.out ?_
    clear hK K hb2
    (try simp only [Act.put, List.setIfInBounds_toArray, List.set_cons_zero, List.set_cons_succ])
    refine wpHead_one (i := 70) (by kernel_rfl) (by decide) rfl (fun K hK => ?_)
    go_simp
    with_reducible refine (Hts.out _ (Hv_t.out.below (s5_below HS.out))).mono ?_
    rintro e w2 ⟨rfl, hb2⟩
    replace HS := Lib.hid (s5_keep HS.out hb2 Hlts.out)
    refine hK.out _ _ HS.out ?_
    clear hK K hb2
    (try simp only [Act.put, List.setIfInBounds_toArray, List.set_cons_zero, List.set_cons_succ])
    refine wpHead_take (i := 71) (v := ?_) rfl (by kernel_rfl) (fun _ _ _ h => h) (Or.inl ⟨by rfl, ?_⟩) HS.out ?_
    rotate_left
    · intro w hSw; (try dsimp only at hSw); go_simp; (try with_reducible rfl)
    (try simp only [Act.put, List.setIfInBounds_toArray, List.set_cons_zero, List.set_cons_succ])
    refine wpHead_done (by kernel_rfl) ?_
    simp only [List.append, List.drop_succ_cons, List.drop_zero]
    have hH := s5_below HS.out
    clear HS
    go_wp2_with fail
    go_meet
    exact ⟨rfl, hH⟩
  obtain ⟨rfl, hcb⟩ := hcut
  replace HB := Lib.hid (bstep HB.out hcb (Nat.le_refl _))
  have Hft := Lib.hid (Hv_fs.out.below hcb)
  have Hxt := Lib.hid (Hv_x.out.below hcb)
  have Hbt := Lib.hid (Hv_b.out.below hcb)
  have HXx := Lib.hid (HX_x.out.below hcb)
  have HXb := Lib.hid (HX_b.out.below hcb)
  clear hcb Hfi Hfs Hri Hrs Hli Hls Hvi Hvs Hti Hts Hsi Hsp Hsb Hlts HSS HX_t HX_b HX_x HX_m HX_c HX_d Hv_t Hv_fi Hv_fs Hv_b Hv_x Hv_m Hv_c Hv_d HT HSm Hbi Hbs
  obtain ⟨wd, hwd⟩ : ∃ x : World, x = wc := ⟨_, rfl⟩
  rw [← hwd] at HB Hft Hxt Hbt HXx HXb ⊢
  clear hwd
  generalize w6.heap.size = gb at *
  go_upto_if 173 with fail
  go_cut [] (fun wx => Below wd.heap.size wd wx)
  case first => as_aux_lemma =>
    cases hv2 : vTwill xs2 st2
    · have hbc : bc = 1 := by have h := HBk.out; rw [backR_bad hv2] at h; exact (Prod.mk.inj (Prod.mk.inj h).2).2.symm
      subst hbc
      go_wp2_with fail
      go_meet
      exact Below.refl _ _
    · obtain ⟨hb1, hb2, hb3, hb4⟩ := backR_ok hv2
      obtain ⟨ht1, ht2⟩ := back_twice hv2
      rw [HBk.out] at hb1
      obtain ⟨hxb, hsb, hbc⟩ : XB = backP xs2 ∧ sb = ((rowW xs2).length : Int) - st2 ∧ bc = 0 := by
        have h := Prod.mk.inj hb1
        exact ⟨h.1, (Prod.mk.inj h.2).1, (Prod.mk.inj h.2).2⟩
      subst hbc
      have Hba := Lib.hid (fun W (h : RV W a_x XB.length c_x (ints XB)) => show Calls Tryz.prog 11 #[.agg #[.slice a_x XB.length c_x, .int .i64 sb]] W (RetTC W 2 (backP (backP xs2), st2, 0)) by
        have h2 := backOf_any a_x XB.length c_x XB sb W h
        rw [hxb, hsb, ht1] at h2
        rw [hxb, hsb]
        exact h2)
      obtain ⟨zs, hzs⟩ : ∃ zs, backP (backP xs2) = zs := ⟨_, rfl⟩
      rw [hzs] at ht2 Hba
      have Hsf := Lib.hid (fun W a c (h : RV W a zs.length c (ints zs)) (k : RV W a_b xs2.length c_b (ints xs2)) (hm : W.cell? ⟨0, 0, none⟩ = some (.int .i64 mx)) => show Calls Tryz.prog 23 #[.agg #[.slice a zs.length c, .int .i64 st2], .agg #[.slice a_b xs2.length c_b, .int .i64 st2]] W fun e w' => e = retBI (true, 0) ∧ Below W.heap.size W w' by
        have h2 := sameFace_any a a_b zs.length xs2.length c c_b zs xs2 st2 st2 mx W h k hm
        rw [ht2] at h2
        exact h2)
      clear hb1 hb2 hb3 hb4 ht1 ht2 hxb hsb hzs
      have c_x0' := HXx.out.cell 0 _ rfl
      have c_x1' := HXx.out.cell 1 _ rfl
      go_wp2_with fail
      with_reducible refine (Hba.out _ Hxt.out).mono ?_
      rintro e u1 ⟨v_z, rfl, ho_z, hb⟩
      obtain ⟨a_z, c_z, rfl, hrv_z⟩ := ho_z.sliceI
      clear ho_z c_x0' c_x1'
      have Hb1 := Lib.hid (hb.alloc hb.size (.cells #[.slice a_z zs.length c_z, .int .i64 st2] 26))
      have Hz1 := Lib.hid (hrv_z.below ((Below.refl _ _).alloc (Nat.le_refl _) (.cells #[.slice a_z zs.length c_z, .int .i64 st2] 26)))
      have Hk1 := Lib.hid (Hbt.out.below Hb1.out)
      have hX := HXb.out.below Hb1.out
      have c_b0' := hX.cell 0 _ rfl
      have c_b1' := hX.cell 1 _ rfl
      have Hm1 := Lib.hid (show (u1.alloc (.cells #[.slice a_z zs.length c_z, .int .i64 st2] 26)).cell? ⟨0, 0, none⟩ = some (.int .i64 mx) from (((bstep HB.out Hb1.out (Nat.le_refl _)).cell (p := ⟨0, 0, none⟩) hm0).trans Hmx.out))
      clear hb hrv_z hX
      go_wp2_with fail
      with_reducible refine (Hsf.out _ _ _ Hz1.out Hk1.out Hm1.out).mono ?_
      rintro e u2 ⟨rfl, hb⟩
      have Hb2 := Lib.hid (bstep Hb1.out hb (Nat.le_refl _))
      clear hb
      go_wp2_with fail
      go_meet
      exact Hb2.out
  obtain ⟨we, hwe⟩ : ∃ x : World, x = wc := ⟨_, rfl⟩
  rw [← hwe] at hcut ⊢
  clear hwe
  replace HB := Lib.hid (bstep HB.out hcut (Nat.le_refl _))
  replace Hft := Lib.hid (Hft.out.below hcut)
  clear hcut Hxt Hbt HXx HXb HBk Hmx hm0
  by_cases hfc : fc = 0
  · subst hfc
    cases hv : vTwill ys st
    · have h := HF.out
      simp [faceR, hv] at h
    cases hiy : (inB y 1 40 && inB z 1 40)
    · have h := HF.out
      simp [faceR, hv, hiy] at h
    obtain ⟨hF, HPp, HPq, HLm⟩ : F = faceTo (rowW ys) st y.toNat z.toNat ∧ pp = (period (rowW ys) : Nat) ∧ pq = (againN (period (rowW ys)) st : Nat) ∧ fm = (longRun (rowW ys) : Nat) := by
      have h1 := HF.out
      have h2 := HP.out
      have h3 := HL.out
      simp only [faceR, hv, hiy, if_true] at h1
      simp only [periodR, hv, if_true] at h2
      simp only [floatsR, hv, if_true] at h3
      exact ⟨(Prod.mk.inj h1).1.symm, (Prod.mk.inj h2).1.symm, (Prod.mk.inj (Prod.mk.inj h2).2).1.symm, (Prod.mk.inj h3).1.symm⟩
    simp only [Bool.and_eq_true] at hiy
    have hy2 := inB_iff.1 hiy.1
    have hz2 := inB_iff.1 hiy.2
    obtain ⟨hFm, hBm⟩ := row_both hv
    obtain ⟨he, h7, hN0, hN1, hst0, hst1⟩ := row_factsB hv
    obtain ⟨l, Hl⟩ : ∃ l, Hid (rowW ys = l) := ⟨_, rfl⟩
    rw [Hl.out] at hF HPp HPq HLm hFm hBm hN0
    obtain ⟨m, hm⟩ : ∃ m, y.toNat = m := ⟨_, rfl⟩
    obtain ⟨R, hR⟩ : ∃ R, z.toNat = R := ⟨_, rfl⟩
    rw [hm, hR] at hF
    have hm2 : 1 ≤ m ∧ m ≤ 40 := by omega
    have hR2 : 1 ≤ R ∧ R ≤ 40 := by omega
    have Hal := Lib.hid (fun r k (hk : k < m) (hp : period l ≤ k) => face_along (l := l) (st := st) (m := m) (r := r) (k := k) (by omega) hk hp)
    have Har := Lib.hid (fun r k (hk : k < m) (hp : againN (period l) st ≤ r) => face_around (l := l) (st := st) (m := m) (r := r) (k := k) (by omega) hst0 hk hp)
    have Hrun := Lib.hid (fun r k (hk : k < m) => lrun_le hFm hBm (st := st) (m := m) (r := r) (k := k) hk)
    have hPb := period_bd (l := l) (by omega)
    have hAb := againN_spec (n := period l) (st := st) (by omega) hst0
    have hA1 := hAb.2.1
    have hA2 := hAb.2.2.1
    have hl12 : l.length ≤ 12 := by rw [← Hl.out]; exact hN1
    have hLb : longRun l ≤ 12 := Nat.le_trans (longRun_le l) hl12
    clear hAb
    obtain ⟨Pn, hPn⟩ : ∃ p, period l = p := ⟨_, rfl⟩
    rw [hPn] at HPp HPq Hal Har hPb hA1 hA2
    obtain ⟨An, hAn⟩ : ∃ p, againN Pn st = p := ⟨_, rfl⟩
    rw [hAn] at HPq Har hA1 hA2
    obtain ⟨Ln, hLn⟩ : ∃ p, longRun l = p := ⟨_, rfl⟩
    rw [hLn] at HLm Hrun hLb
    subst HPp HPq HLm
    have HFl := Lib.hid (show F.length = R by rw [hF, faceTo_len])
    have HFg := Lib.hid (show ∀ r, r < R → (strs F)[r]? = some (.string (str (lineW l st m r))) from fun r hr => by
      rw [hF]
      simp [faceTo, hr])
    have Hrow := Lib.hid (fun r => lineW_len l st m r)
    clear hF hv hiy hy2 hz2 hFm hBm he h7 hN0 hN1 hst1 hm hR hPn hAn hLn HF HP HL HV Hl
    obtain ⟨bf, of, haf, hbf, Hcf⟩ : ∃ b o, a_fs = some ⟨b, o, none⟩ ∧ b < we.heap.size ∧ Hid (∀ r, r < R → we.cell? ⟨b, o + r, none⟩ = some (.string (str (lineW l st m r)))) := by
      obtain ⟨b, o, h1, h2, h3⟩ := Hft.out.cellv (by rw [HFl.out]; omega)
      exact ⟨b, o, h1, h2, Lib.hid (fun r hr => h3 r _ (HFg.out r hr))⟩
    subst haf
    have hFlen : F.length = R := HFl.out
    rw [hFlen]
    clear hFlen HFl HFg Hft
    go_wp2_with fail
    go_loopw [33] (fun i wr => ∃ r q : Nat, r ≤ R ∧ i = .int .i64 r ∧ Hid (wr = we.drewN q)) (fun i _ => R - (intOf i).toNat)
    case atStart => exact ⟨0, 0, by omega, rfl, Lib.hid rfl⟩
    case round =>
      obtain ⟨r, q, hr, rfl, Hw⟩ := hrel
      generalize wr = wy at *
      by_cases hrR : r < R
      · have e1 : wy.cell? ⟨bf, of + r, none⟩ = some (.string (str (lineW l st m r))) := by rw [Hw.out]; exact Hcf.out r hrR
        obtain ⟨S, HS⟩ : ∃ S, Hid (S = str (lineW l st m r)) := ⟨_, rfl⟩
        rw [← HS.out] at e1
        have hSm : S.size = m := by rw [HS.out, str_size, Hrow.out]
        have HSb := Lib.hid (fun j (hj : j < S.size) => show (S[j]'hj).toNat = ((lineW l st m r).getD j 0).toNat by rw [bat_get hj, HS.out, str_list]; rfl)
        have d0 : decide ((r : Int) < R) = true := by simp; omega
        have d0' : decide (r < R) = true := by simp [hrR]
        have hri : (r : Int) < R := by omega
        go_wp2_with fail
        go_loopw [34, 35] (fun run k wr => ∃ k' q' : Nat, k' ≤ m ∧ k = .int .i64 k' ∧ run = .int .i64 (lrun (lineW l st m r) k' : Nat) ∧ Hid (wr = we.drewN q')) (fun _ k _ => m - (intOf k).toNat)
        case atStart => exact ⟨0, q, by omega, rfl, rfl, Hw⟩
        case round =>
          obtain ⟨k, q2, hk, rfl, rfl, Hw2⟩ := hrel
          generalize wr = wz at *
          have e2 : wz.cell? ⟨bf, of + r, none⟩ = some (.string S) := by rw [Hw2.out, HS.out]; exact Hcf.out r hrR
          clear e1
          by_cases hkm : k < m
          · have f0 : decide ((k : Int) < m) = true := by simp; omega
            have f0' : decide (k < m) = true := by simp [hkm]
            have hki : (k : Int) < m := by omega
            have hkS : k < S.size := by omega
            obtain ⟨x, hx⟩ : ∃ x, ((lineW l st m r).getD k 0).toNat = x := ⟨_, rfl⟩
            have b1 : (S[k]'hkS).toNat = x := by rw [HSb.out k hkS]; exact hx
            have Hx := Lib.hid hx
            clear hx
            go_wp2_with fail
            go_cut [253] (fun sq wx => sq = .bool false ∧ ∃ q' : Nat, wx = wz.drewN q')
            case first => as_aux_lemma =>
              by_cases hp : Pn ≤ k
              · obtain ⟨d, hd⟩ : ∃ d, k - Pn = d := ⟨_, rfl⟩
                have hdS : d < S.size := by omega
                have b2 : (S[d]'hdS).toNat = x := by rw [HSb.out d hdS, ← hd, ← Hal.out r k hkm hp]; exact Hx.out
                have w1 : IntKind.i64.wrap ((k : Int) - (Pn : Int)) = (d : Int) := by rw [IntWalk.i64_in _ (by omega)]; omega
                have hdm : d < m := by omega
                have hdi : (d : Int) < m := by omega
                have g1 : decide ((Pn : Int) ≤ k) = true := by simp; omega
                have g1' : decide (Pn ≤ k) = true := by simp [hp]
                clear hd
                by_cases ha : An ≤ r
                · obtain ⟨r2, hr2⟩ : ∃ r2, r - An = r2 := ⟨_, rfl⟩
                  have hr2R : r2 < R := by omega
                  have hr2i : (r2 : Int) < R := by omega
                  obtain ⟨S2, HS2⟩ : ∃ S2, Hid (S2 = str (lineW l st m r2)) := ⟨_, rfl⟩
                  have e4 : wz.cell? ⟨bf, of + r2, none⟩ = some (.string S2) := by rw [Hw2.out, HS2.out]; exact Hcf.out r2 hr2R
                  have hS2m : S2.size = m := by rw [HS2.out, str_size, Hrow.out]
                  have hkS2 : k < S2.size := by omega
                  have b3 : (S2[k]'hkS2).toNat = x := by
                    rw [bat_get hkS2, HS2.out, str_list]
                    show ((lineW l st m r2).getD k 0).toNat = x
                    rw [← hr2, ← Har.out r k hkm ha]; exact Hx.out
                  have w2 : IntKind.i64.wrap ((r : Int) - (An : Int)) = (r2 : Int) := by rw [IntWalk.i64_in _ (by omega)]; omega
                  have g2 : decide ((An : Int) ≤ r) = true := by simp; omega
                  have g2' : decide (An ≤ r) = true := by simp [ha]
                  clear hr2
                  go_quiet (fail)
                  go_wp2_with fail
                  go_meet
                  exact ⟨rfl, _, rfl⟩
                · have g2 : decide ((An : Int) ≤ r) = false := by simp; omega
                  have g2' : decide (An ≤ r) = false := by simp; omega
                  go_quiet (fail)
                  go_wp2_with fail
                  go_meet
                  exact ⟨rfl, _, rfl⟩
              · have g1 : decide ((Pn : Int) ≤ k) = false := by simp; omega
                have g1' : decide (Pn ≤ k) = false := by simp; omega
                by_cases ha : An ≤ r
                · obtain ⟨r2, hr2⟩ : ∃ r2, r - An = r2 := ⟨_, rfl⟩
                  have hr2R : r2 < R := by omega
                  have hr2i : (r2 : Int) < R := by omega
                  obtain ⟨S2, HS2⟩ : ∃ S2, Hid (S2 = str (lineW l st m r2)) := ⟨_, rfl⟩
                  have e4 : wz.cell? ⟨bf, of + r2, none⟩ = some (.string S2) := by rw [Hw2.out, HS2.out]; exact Hcf.out r2 hr2R
                  have hS2m : S2.size = m := by rw [HS2.out, str_size, Hrow.out]
                  have hkS2 : k < S2.size := by omega
                  have b3 : (S2[k]'hkS2).toNat = x := by
                    rw [bat_get hkS2, HS2.out, str_list]
                    show ((lineW l st m r2).getD k 0).toNat = x
                    rw [← hr2, ← Har.out r k hkm ha]; exact Hx.out
                  have w2 : IntKind.i64.wrap ((r : Int) - (An : Int)) = (r2 : Int) := by rw [IntWalk.i64_in _ (by omega)]; omega
                  have g2 : decide ((An : Int) ≤ r) = true := by simp; omega
                  have g2' : decide (An ≤ r) = true := by simp [ha]
                  clear hr2
                  go_quiet (fail)
                  go_wp2_with fail
                  go_meet
                  exact ⟨rfl, _, rfl⟩
                · have g2 : decide ((An : Int) ≤ r) = false := by simp; omega
                  have g2' : decide (An ≤ r) = false := by simp; omega
                  go_quiet (fail)
                  go_wp2_with fail
                  go_meet
                  exact ⟨rfl, _, rfl⟩
            obtain ⟨rfl, q3, hw3⟩ := hcut
            have Hw3 := Lib.hid (show wc = we.drewN (q2 + q3) by rw [hw3, Hw2.out, World.drewN_drewN])
            have e3 : wc.cell? ⟨bf, of + r, none⟩ = some (.string S) := by rw [hw3]; exact e2
            clear hw3 e2
            obtain ⟨wv, hwv⟩ : ∃ x : World, x = wc := ⟨_, rfl⟩
            rw [← hwv] at Hw3 e3 ⊢
            clear hwv
            go_wp2_with fail
            go_cut [271] (fun sq wx => sq = .bool (decide (0 < k ∧ (lineW l st m r).getD k 0 ≠ (lineW l st m r).getD (k - 1) 0)) ∧ ∃ q' : Nat, wx = wv.drewN q')
            case first => as_aux_lemma =>
              by_cases hk0 : k = 0
              · subst hk0
                go_quiet (fail)
                go_wp2_with fail
                go_meet
                exact ⟨by simp, _, rfl⟩
              · obtain ⟨j, hj⟩ : ∃ j, k - 1 = j := ⟨_, rfl⟩
                have hjS : j < S.size := by omega
                obtain ⟨x4, hx4⟩ : ∃ x4, ((lineW l st m r).getD (k - 1) 0).toNat = x4 := ⟨_, rfl⟩
                have b4 : (S[j]'hjS).toNat = x4 := by rw [HSb.out j hjS, ← hj]; exact hx4
                have w4 : IntKind.i64.wrap ((k : Int) - 1) = (j : Int) := by rw [IntWalk.i64_in _ (by omega)]; omega
                have w4' : (k : Int) - 1 = (j : Int) := by omega
                have hjm : j < m := by omega
                have hji : (j : Int) < m := by omega
                have hkp : 0 < k := by omega
                have hkpi : (0 : Int) < k := by omega
                have Hx4 := Lib.hid hx4
                clear hx4 hj
                by_cases hxx : x = x4
                · have HD : Hid (decide (0 < k ∧ (lineW l st m r).getD k 0 ≠ (lineW l st m r).getD (k - 1) 0) = false) := Lib.hid (by
                    refine decide_eq_false fun h => h.2 (UInt8.toNat_inj.1 ?_)
                    rw [Hx.out, Hx4.out]; exact hxx)
                  subst hxx
                  go_quiet (fail)
                  go_wp2_with fail
                  go_meet
                  exact ⟨by rw [HD.out], _, rfl⟩
                · have HD : Hid (decide (0 < k ∧ (lineW l st m r).getD k 0 ≠ (lineW l st m r).getD (k - 1) 0) = true) := Lib.hid (by
                    refine decide_eq_true ⟨hkp, fun h => hxx ?_⟩
                    rw [← Hx.out, ← Hx4.out, h])
                  have n1 : ((x : Int) == (x4 : Int)) = false := by simp; omega
                  have n2 : (x == x4) = false := by simp [hxx]
                  go_quiet (fail)
                  go_wp2_with fail
                  go_meet
                  exact ⟨by rw [HD.out]; exact congrArg Value.bool (by first | (simp [bne, n1]; done) | (simp; omega)), _, rfl⟩
            obtain ⟨rfl, q4, hw4⟩ := hcut
            have Hw4 := Lib.hid (show wc = we.drewN (q2 + q3 + q4) by rw [hw4, Hw3.out, World.drewN_drewN])
            clear hw4 e3
            obtain ⟨wu, hwu⟩ : ∃ x : World, x = wc := ⟨_, rfl⟩
            rw [← hwu] at Hw4 ⊢
            clear hwu
            have hle := Hrun.out r k hkm
            have hst : lrun (lineW l st m r) (k + 1) = (if 0 < k ∧ (lineW l st m r).getD k 0 ≠ (lineW l st m r).getD (k - 1) 0 then 0 else lrun (lineW l st m r) k) + 1 := rfl
            obtain ⟨D, hD⟩ : ∃ D, decide (0 < k ∧ (lineW l st m r).getD k 0 ≠ (lineW l st m r).getD (k - 1) 0) = D := ⟨_, rfl⟩
            rw [hD]
            cases D
            · rw [if_neg (of_decide_eq_false hD)] at hst
              have Hst := Lib.hid hst
              rw [hst] at hle
              obtain ⟨a, ha⟩ : ∃ a, lrun (lineW l st m r) k = a := ⟨_, rfl⟩
              have Ha := Lib.hid ha
              rw [ha] at hle ⊢
              have v0 : decide ((Ln : Int) < (a : Int) + 1) = false := by simp; omega
              have v1 : decide (Ln < a + 1) = false := by simp; omega
              have hLn : Ln ≤ 12 := hLb
              clear hst ha hD
              go_wp2_with fail
              go_roundw
              case rel => exact ⟨k + 1, q2 + q3 + q4, by omega, by go_num, by rw [Hst.out, Ha.out]; go_num, Hw4⟩
              case measure => simp [intOf]; omega
            · rw [if_pos (of_decide_eq_true hD)] at hst
              have Hst := Lib.hid hst
              rw [hst] at hle
              have v0 : decide ((Ln : Int) < 1) = false := by simp; omega
              have v1 : decide (Ln < 1) = false := by simp; omega
              clear hst hD
              go_wp2_with fail
              go_roundw
              case rel => exact ⟨k + 1, q2 + q3 + q4, by omega, by go_num, by rw [Hst.out]; rfl, Hw4⟩
              case measure => simp [intOf]; omega
          · have hkm' : k = m := by omega
            have f0 : decide ((k : Int) < m) = false := by simp; omega
            have f0' : decide (k < m) = false := by simp [hkm]
            go_wp2_with fail
            go_roundw
            case rel => exact ⟨r + 1, q2, by omega, by go_num, Hw2⟩
            case measure => simp [intOf]; omega
      · have d0 : decide ((r : Int) < R) = false := by simp; omega
        have d0' : decide (r < R) = false := by simp [hrR]
        go_wp2_with fail
        go_ret
        exact ⟨rfl, by rw [Hw.out]; exact bdrewN HB.out q⟩
  have z1 : (fc != 0) = true := by simp [hfc]
  go_wp2_with fail
  go_ret
  exact ⟨rfl, HB.out⟩

set_option maxRecDepth 100000 in
theorem lifted (os : Os) (started : os.Started) (H : Type) (enc : TypeId × Value → H) :
    ReturnsInHanded {} Tryz.checked os 3 .any (fun w args => (Rows.fnTwillsSpec.pre enc Tryz.prog Tryz.f3 [] false w args ∧ laidMetH Tryz.prog Rows.fnTwillsRow.laid w) ∧ sizedMet enc Tryz.prog Tryz.f3 (OpenSpec.ofChange Rows.fnTwillsSpec) false w args) (Rows.fnTwillsSpec.post enc Tryz.prog Tryz.f3 false true false false) := by
  refine returnsInHanded_and_shaped (C := Tryz.checked) (X := fun w _ => laidMetH Tryz.prog Rows.fnTwillsRow.laid w) (fun _ _ _ hh h => h.of_heap hh) own started (by kernel_rfl) Tryz.func3
    (ChangeSpec.witness_shaped (enc := enc) (C := Tryz.checked) (os := os) (X := fun w _ => laidMetH Tryz.prog Rows.fnTwillsRow.laid w) false (World.laidAll Tryz.prog os Rows.fnTwillsRow.laid) #[.slice none 0 0] 8 (World.laidAll_os _ _ _)
      (World.shaped_of_ZipB (by kernel_rfl) (by kernel_rfl)) (by kernel_rfl) (by kernel_rfl) (by kernel_rfl)
      (by rw [MakeChecks.laidMetH_plain _ _ _ (by kernel_rfl)]; exact laidMet_laidAll _ (by kernel_rfl) (by kernel_rfl))) ?_
  intro W base args ds gs before hval0 hW _ hL hsh
  obtain ⟨mx, hmx⟩ := Tryz.laysM144.s1_3 W hsh
  have hval : ∀ (j : Nat) t v, Tryz.f3.params[j]? = some t → args[j]? = some v → Value.okWide Tryz.prog W .any base t v := hval0
  have hW' := hW
  obtain ⟨p, q, hA0, hV, rfl, hfz, hnd⟩ := hW
  have hA : DataW.TrodAll enc Tryz.prog W 0 (fun _ => true) true Tryz.f3.params.toList args.toList ds p := hA0
  rw [Tryz.params3] at hA hval
  obtain ⟨v0, vs0, d0, ds0, pP0, qQ0, hargs, rfl, rfl, k0, e0⟩ := trodAll_cons hA
  obtain ⟨rfl, rfl, rfl⟩ := trodAll_nil e0
  obtain rfl : args = #[v0] := by cases args; simp_all
  obtain ⟨rfl, rfl⟩ := trodVars_none hV
  have l0 := arg_lt k0
  obtain ⟨p0, n0, c0, x0, rfl, r0, b0⟩ := arg_bytes (hval 0 _ v0 rfl rfl) k0
  clear hA0 hval0
  refine (walk W p0 n0 c0 x0 r0 b0 mx hmx).mono fun e W' ⟨he, bel⟩ => ?_
  subst he
  exact ⟨_, rfl, _, _, _, [], _, [], hW', trodAll_mk1 (shut_bool Tryz.underlying4 _), (trodAll_cons_mk (Below.trod laidOut (by kernel_rfl) (of_decide_eq_true (by kernel_rfl)) k0 bel l0) trodAll_mk0), rfl, bel.frame _, fun h => by cases h⟩

theorem over : Rows.fnTwillsRow.holds Tryz.pinned (OpenSpec.ofChange Rows.fnTwillsSpec) :=
  OpenClaim.holds_of_wide 3 Tryz.f3 rfl rfl rfl rfl rfl rfl rfl ⟨rfl, rfl, rfl, rfl, rfl⟩ rfl rfl rfl rfl rfl (by kernel_rfl) Tryz.func3 (by kernel_rfl)
    (of_decide_eq_true (by kernel_rfl)) (by unfold Func.isWrapper; first | (rw [if_pos (by decide +kernel)]; kernel_rfl) | (rw [if_neg (by decide +kernel)]; exact ⟨rfl, rfl⟩))
    (fun os started H enc _ => lifted os started H enc)

set_option maxRecDepth 100000 in
/-- the statement -/
theorem proved : Rows.FnTwillsCardSaid :=
  Claim7.holds_tied_plain_at .later [] [.data, .data, .data] true (true, "ff449ef5111802fdc7b42816147f54dbeb3c9e2511a995a5146d4f18e26a66f5") true over (fun _ h => by cases h) (by kernel_rfl) (fun _ h => by cases h) fnTwills_row_tie rfl ⟨rfl, rfl⟩ (by kernel_rfl) rfl
    (fun f fn hf hfn => by
      obtain rfl : f = 3 := Option.some.inj ((show Tryz.prog.funcNamed Rows.fnTwillsRow.func = some 3 by kernel_rfl).symm.trans hf) |>.symm
      obtain rfl : fn = Tryz.f3 := (Option.some.inj (Tryz.func3.symm.trans hfn)).symm
      exact ⟨by kernel_rfl, fun j t ht => by
        rw [Tryz.params3] at ht
        have hm : t ∈ [22] := by simpa using Array.mem_of_getElem? ht
        have hall : ([22].all fun u => !Tryz.prog.wantsStandIn u) = true := by kernel_rfl
        exact (show Tryz.prog.wantsStandIn t = false by simpa using List.all_eq_true.1 hall t hm)⟩)
    (by kernel_rfl)
#print axioms proved
end Go.Proofs.YtflejjfkgkmcgaaGreatDoor.fnTwills
