/-
  Proved here: the law FnDrafts answers true at every input, and leaves its arguments as they were. No condition.
-/
import Derived.Test.YtggbnibdpkblgaaDoorFrame
import Derived.Test.YtggbnibdpkblgaaDoorTie
import Derived.Test.YtggbnibdpkblgaaDoorCards
import Derived.Lay
import Derived.SevenTiedAt
import Derived.LaidMore
import Derived.Stop.Joined
import Derived.Test.YtggbnibdpkblgaaDoorShapedAnd
import Derived.Test.YtggbnibdpkblgaaDoorDraftDraw
import Derived.Test.YtggbnibdpkblgaaDoorDraftLaw
import Derived.Test.YtggbnibdpkblgaaDoorDraft5
import Derived.Test.YtggbnibdpkblgaaDoorTwill7
import Derived.Test.YtggbnibdpkblgaaDoorF6
namespace Go.Proofs.YtggbnibdpkblgaaDoor.fnDrafts
open Go.ChangeShapes Go.WideShapes Go.ChangeAt Go.RowKit
set_option linter.unusedVariables false

set_option maxHeartbeats 16000000 in
set_option maxRecDepth 100000 in
theorem walk (w : World) (p0 : Option Addr) (n0 c0 : Nat) (x0 : List Int) (r0 : RV w p0 n0 c0 (x0.map (.int .u8))) (b0 : ∀ x ∈ x0, 0 ≤ x ∧ x ≤ 255)
    (mx : Int) (hmx : w.cell? ⟨0, 0, none⟩ = some (.int .i64 mx)) : Calls Tryd.prog 3 #[.slice p0 n0 c0] w fun e w' => e = .returned (.bool true) ∧ Below w.heap.size w w' := by
  --SHAPED
  have hm0 : 0 < w.heap.size := World.block_lt_of_cell? w ⟨0, 0, none⟩ hmx
  have Hmx := Lib.hid hmx
  clear hmx
  by_cases hbig : (4096 : Int) < n0
  · go_enter Tryd.func3, Tryd.ntmps3
    go_wp2_with (go_at_call 4; refine (f6big_any _ _ _ _ r0.small).mono ?_; rw [decide_eq_true hbig]; rintro e w' ⟨rfl, rfl⟩)
    go_ret
    exact ⟨rfl, Below.refl _ _⟩
  have hB : Below w.heap.size w w := Below.refl _ _
  have Hr0 := Lib.hid r0
  have Hb0 := Lib.hid b0
  have hsm := r0.small
  clear r0 b0
  go_enter Tryd.func3, Tryd.ntmps3
  go_wp2_with fail
  with_reducible refine (f6big_any _ _ _ _ hsm).mono ?_
  rw [decide_eq_false (show ¬ (4096 : Int) < n0 by omega)]
  rintro e wq ⟨rfl, rfl⟩
  go_wp2_with fail
  with_reducible refine (DrawDraftFor_any _ _ _ _ _ Hr0.out Hb0.out).mono ?_
  rintro e w1 ⟨S, z, rfl, hS, hb⟩
  replace hB := bstep hB hb (Nat.le_refl _)
  clear hb
  obtain ⟨l, Hl⟩ : ∃ l, Hid (S.data.toList = l) := ⟨_, rfl⟩
  have Hll := Lib.hid (show l.length = S.size by rw [← Hl.out, size_list])
  obtain ⟨T, dz, dc, HD⟩ : ∃ p q r, Hid (draftR l z = (p, q, r)) := ⟨_, _, _, rfl⟩
  have Hdi := Lib.hid (fun W => show Calls Tryd.prog 6 #[.string S, .int .i64 z] W (RetTC W 2 (T, dz, dc)) by have h2 := draftFor_any S z W (by unfold maxLen; omega); rw [Hl.out, HD.out] at h2; exact h2)
  have Hds := Lib.hid (fun W => show Calls Tryd.prog 7 #[.string S, .int .i64 z] W (RetTC W 2 (T, dz, dc)) by have h2 := specDraftFor_any S z W (by unfold maxLen; omega); rw [Hl.out, HD.out] at h2; exact h2)
  go_wp2_with fail
  with_reducible refine (Hdi.out _).mono ?_
  rintro e w2 ⟨v_g, rfl, ho_g, hb⟩
  obtain ⟨a_g, c_g, rfl, hrv_g⟩ := ho_g.sliceI
  clear ho_g
  replace hB := bstep hB hb (Nat.le_refl _)
  clear hb
  have hn_g : Blk (w2.alloc (.cells #[.slice a_g T.length c_g, .int .i64 dz] 28)) w2.heap.size [.slice a_g T.length c_g, .int .i64 dz] 28 := Blk.box _ _ _ rfl
  replace hrv_g := hrv_g.below ((Below.refl _ _).alloc (Nat.le_refl _) (.cells #[.slice a_g T.length c_g, .int .i64 dz] 28))
  replace hB := hB.alloc hB.size (.cells #[.slice a_g T.length c_g, .int .i64 dz] 28)
  have hb_g := hn_g
  clear hn_g
  go_wp2_with fail
  with_reducible refine (Hds.out _).mono ?_
  rintro e w3 ⟨v_m, rfl, ho_m, hb⟩
  obtain ⟨a_m, c_m, rfl, hrv_m⟩ := ho_m.sliceI
  clear ho_m
  replace hb_g := hb_g.below hb
  replace hrv_g := hrv_g.below hb
  replace hB := bstep hB hb (Nat.le_refl _)
  clear hb
  have hn_m : Blk (w3.alloc (.cells #[.slice a_m T.length c_m, .int .i64 dz] 28)) w3.heap.size [.slice a_m T.length c_m, .int .i64 dz] 28 := Blk.box _ _ _ rfl
  replace hb_g := hb_g.alloc (.cells #[.slice a_m T.length c_m, .int .i64 dz] 28)
  replace hrv_g := hrv_g.below ((Below.refl _ _).alloc (Nat.le_refl _) (.cells #[.slice a_m T.length c_m, .int .i64 dz] 28))
  replace hrv_m := hrv_m.below ((Below.refl _ _).alloc (Nat.le_refl _) (.cells #[.slice a_m T.length c_m, .int .i64 dz] 28))
  replace hB := hB.alloc hB.size (.cells #[.slice a_m T.length c_m, .int .i64 dz] 28)
  have hb_m := hn_m
  clear hn_m
  go_wp2_with fail
  with_reducible refine (DrawIsPlain_any _ _ _ _ _ (Hr0.out.below hB) Hb0.out).mono ?_
  rintro e w4 ⟨v_p, xsp, stp, rfl, _, ho_p, hb⟩
  obtain ⟨a_p, c_p, rfl, hrv_p⟩ := ho_p.sliceI
  clear ho_p
  replace hb_g := hb_g.below hb
  replace hb_m := hb_m.below hb
  replace hrv_g := hrv_g.below hb
  replace hrv_m := hrv_m.below hb
  replace hB := bstep hB hb (Nat.le_refl _)
  clear hb
  have hn_p : Blk (w4.alloc (.cells #[.slice a_p xsp.length c_p, .int .i64 stp] 28)) w4.heap.size [.slice a_p xsp.length c_p, .int .i64 stp] 28 := Blk.box _ _ _ rfl
  replace hb_g := hb_g.alloc (.cells #[.slice a_p xsp.length c_p, .int .i64 stp] 28)
  replace hb_m := hb_m.alloc (.cells #[.slice a_p xsp.length c_p, .int .i64 stp] 28)
  replace hrv_g := hrv_g.below ((Below.refl _ _).alloc (Nat.le_refl _) (.cells #[.slice a_p xsp.length c_p, .int .i64 stp] 28))
  replace hrv_m := hrv_m.below ((Below.refl _ _).alloc (Nat.le_refl _) (.cells #[.slice a_p xsp.length c_p, .int .i64 stp] 28))
  replace hrv_p := hrv_p.below ((Below.refl _ _).alloc (Nat.le_refl _) (.cells #[.slice a_p xsp.length c_p, .int .i64 stp] 28))
  replace hB := hB.alloc hB.size (.cells #[.slice a_p xsp.length c_p, .int .i64 stp] 28)
  have hb_p := hn_p
  clear hn_p
  obtain ⟨pl, pc, HP⟩ : ∃ p q, Hid (plainR xsp stp = (p, q)) := ⟨_, _, rfl⟩
  have Hpi := Lib.hid (fun W (h : RV W a_p xsp.length c_p (ints xsp)) => show Calls Tryd.prog 9 #[.agg #[.slice a_p xsp.length c_p, .int .i64 stp]] W fun e w' => e = rtb (pl, pc) ∧ Below W.heap.size W w' by have h2 := isPlain_any a_p xsp.length c_p xsp stp W h; rw [HP.out] at h2; exact h2)
  have Hps := Lib.hid (fun W (h : RV W a_p xsp.length c_p (ints xsp)) => show Calls Tryd.prog 10 #[.agg #[.slice a_p xsp.length c_p, .int .i64 stp]] W fun e w' => e = rtb (pl, pc) ∧ Below W.heap.size W w' by have h2 := specIsPlain_any a_p xsp.length c_p xsp stp W h; rw [HP.out] at h2; exact h2)
  go_wp2_with fail
  with_reducible refine (Hpi.out _ hrv_p).mono ?_
  rintro e w5 ⟨rfl, hb⟩
  replace hb_g := hb_g.below hb
  replace hb_m := hb_m.below hb
  replace hb_p := hb_p.below hb
  replace hrv_g := hrv_g.below hb
  replace hrv_m := hrv_m.below hb
  replace hrv_p := hrv_p.below hb
  replace hB := bstep hB hb (Nat.le_refl _)
  clear hb
  have c_p0 := hb_p.cell 0 _ rfl
  have c_p1 := hb_p.cell 1 _ rfl
  go_wp2_with fail
  with_reducible refine (Hps.out _ hrv_p).mono ?_
  rintro e w6 ⟨rfl, hb⟩
  replace hb_g := hb_g.below hb
  replace hb_m := hb_m.below hb
  replace hb_p := hb_p.below hb
  replace hrv_g := hrv_g.below hb
  replace hrv_m := hrv_m.below hb
  replace hrv_p := hrv_p.below hb
  replace hB := bstep hB hb (Nat.le_refl _)
  clear hb
  clear c_p0 c_p1
  go_wp2_with fail
  with_reducible refine (DrawShareFront_any _ _ _ _ _ (Hr0.out.below hB) Hb0.out).mono ?_
  rintro e w7 ⟨v_b, xsb, stb, rfl, _, ho_b, hb⟩
  obtain ⟨a_b, c_b, rfl, hrv_b⟩ := ho_b.sliceI
  clear ho_b
  replace hb_g := hb_g.below hb
  replace hb_m := hb_m.below hb
  replace hb_p := hb_p.below hb
  replace hrv_g := hrv_g.below hb
  replace hrv_m := hrv_m.below hb
  replace hrv_p := hrv_p.below hb
  replace hB := bstep hB hb (Nat.le_refl _)
  clear hb
  have hn_b : Blk (w7.alloc (.cells #[.slice a_b xsb.length c_b, .int .i64 stb] 28)) w7.heap.size [.slice a_b xsb.length c_b, .int .i64 stb] 28 := Blk.box _ _ _ rfl
  replace hb_g := hb_g.alloc (.cells #[.slice a_b xsb.length c_b, .int .i64 stb] 28)
  replace hb_m := hb_m.alloc (.cells #[.slice a_b xsb.length c_b, .int .i64 stb] 28)
  replace hb_p := hb_p.alloc (.cells #[.slice a_b xsb.length c_b, .int .i64 stb] 28)
  replace hrv_g := hrv_g.below ((Below.refl _ _).alloc (Nat.le_refl _) (.cells #[.slice a_b xsb.length c_b, .int .i64 stb] 28))
  replace hrv_m := hrv_m.below ((Below.refl _ _).alloc (Nat.le_refl _) (.cells #[.slice a_b xsb.length c_b, .int .i64 stb] 28))
  replace hrv_p := hrv_p.below ((Below.refl _ _).alloc (Nat.le_refl _) (.cells #[.slice a_b xsb.length c_b, .int .i64 stb] 28))
  replace hrv_b := hrv_b.below ((Below.refl _ _).alloc (Nat.le_refl _) (.cells #[.slice a_b xsb.length c_b, .int .i64 stb] 28))
  replace hB := hB.alloc hB.size (.cells #[.slice a_b xsb.length c_b, .int .i64 stb] 28)
  have hb_b := hn_b
  clear hn_b
  obtain ⟨fa, fd, fc, HF⟩ : ∃ p q r, Hid (shareR xsb stb = (p, q, r)) := ⟨_, _, _, rfl⟩
  have Hfi := Lib.hid (fun W (h : RV W a_b xsb.length c_b (ints xsb)) => show Calls Tryd.prog 12 #[.agg #[.slice a_b xsb.length c_b, .int .i64 stb]] W fun e w' => e = rtF (fa, fd, fc) ∧ Below W.heap.size W w' by have h2 := shareFront_any a_b xsb.length c_b xsb stb W h; rw [HF.out] at h2; exact h2)
  have Hfs := Lib.hid (fun W (h : RV W a_b xsb.length c_b (ints xsb)) => show Calls Tryd.prog 13 #[.agg #[.slice a_b xsb.length c_b, .int .i64 stb]] W fun e w' => e = rtF (fa, fd, fc) ∧ Below W.heap.size W w' by have h2 := specShareFront_any a_b xsb.length c_b xsb stb W h; rw [HF.out] at h2; exact h2)
  go_wp2_with fail
  with_reducible refine (Hfi.out _ hrv_b).mono ?_
  rintro e w8 ⟨rfl, hb⟩
  replace hb_g := hb_g.below hb
  replace hb_m := hb_m.below hb
  replace hb_p := hb_p.below hb
  replace hb_b := hb_b.below hb
  replace hrv_g := hrv_g.below hb
  replace hrv_m := hrv_m.below hb
  replace hrv_p := hrv_p.below hb
  replace hrv_b := hrv_b.below hb
  replace hB := bstep hB hb (Nat.le_refl _)
  clear hb
  have hn_f : Blk (w8.alloc (.cells #[.int .i64 fa, .int .i64 fd] 35)) w8.heap.size [.int .i64 fa, .int .i64 fd] 35 := Blk.box _ _ _ rfl
  replace hb_g := hb_g.alloc (.cells #[.int .i64 fa, .int .i64 fd] 35)
  replace hb_m := hb_m.alloc (.cells #[.int .i64 fa, .int .i64 fd] 35)
  replace hb_p := hb_p.alloc (.cells #[.int .i64 fa, .int .i64 fd] 35)
  replace hb_b := hb_b.alloc (.cells #[.int .i64 fa, .int .i64 fd] 35)
  replace hrv_g := hrv_g.below ((Below.refl _ _).alloc (Nat.le_refl _) (.cells #[.int .i64 fa, .int .i64 fd] 35))
  replace hrv_m := hrv_m.below ((Below.refl _ _).alloc (Nat.le_refl _) (.cells #[.int .i64 fa, .int .i64 fd] 35))
  replace hrv_p := hrv_p.below ((Below.refl _ _).alloc (Nat.le_refl _) (.cells #[.int .i64 fa, .int .i64 fd] 35))
  replace hrv_b := hrv_b.below ((Below.refl _ _).alloc (Nat.le_refl _) (.cells #[.int .i64 fa, .int .i64 fd] 35))
  replace hB := hB.alloc hB.size (.cells #[.int .i64 fa, .int .i64 fd] 35)
  have hb_f := hn_f
  clear hn_f
  have c_b0 := hb_b.cell 0 _ rfl
  have c_b1 := hb_b.cell 1 _ rfl
  go_wp2_with fail
  with_reducible refine (Hfs.out _ hrv_b).mono ?_
  rintro e w9 ⟨rfl, hb⟩
  replace hb_g := hb_g.below hb
  replace hb_m := hb_m.below hb
  replace hb_p := hb_p.below hb
  replace hb_b := hb_b.below hb
  replace hb_f := hb_f.below hb
  replace hrv_g := hrv_g.below hb
  replace hrv_m := hrv_m.below hb
  replace hrv_p := hrv_p.below hb
  replace hrv_b := hrv_b.below hb
  replace hB := bstep hB hb (Nat.le_refl _)
  clear hb
  clear c_b0 c_b1
  have hn_h : Blk (w9.alloc (.cells #[.int .i64 fa, .int .i64 fd] 35)) w9.heap.size [.int .i64 fa, .int .i64 fd] 35 := Blk.box _ _ _ rfl
  replace hb_g := hb_g.alloc (.cells #[.int .i64 fa, .int .i64 fd] 35)
  replace hb_m := hb_m.alloc (.cells #[.int .i64 fa, .int .i64 fd] 35)
  replace hb_p := hb_p.alloc (.cells #[.int .i64 fa, .int .i64 fd] 35)
  replace hb_b := hb_b.alloc (.cells #[.int .i64 fa, .int .i64 fd] 35)
  replace hb_f := hb_f.alloc (.cells #[.int .i64 fa, .int .i64 fd] 35)
  replace hrv_g := hrv_g.below ((Below.refl _ _).alloc (Nat.le_refl _) (.cells #[.int .i64 fa, .int .i64 fd] 35))
  replace hrv_m := hrv_m.below ((Below.refl _ _).alloc (Nat.le_refl _) (.cells #[.int .i64 fa, .int .i64 fd] 35))
  replace hrv_p := hrv_p.below ((Below.refl _ _).alloc (Nat.le_refl _) (.cells #[.int .i64 fa, .int .i64 fd] 35))
  replace hrv_b := hrv_b.below ((Below.refl _ _).alloc (Nat.le_refl _) (.cells #[.int .i64 fa, .int .i64 fd] 35))
  replace hB := hB.alloc hB.size (.cells #[.int .i64 fa, .int .i64 fd] 35)
  have hb_h := hn_h
  clear hn_h
  go_wp2_with fail
  with_reducible refine (DrawSameFace_any _ _ _ _ _ (Hr0.out.below hB) Hb0.out).mono ?_
  rintro e w10 ⟨v_c, v_d, xsc, xsd, stc, std, rfl, ho_c, ho_d, hb⟩
  obtain ⟨a_c, c_c, rfl, hrv_c⟩ := ho_c.sliceI
  obtain ⟨a_d, c_d, rfl, hrv_d⟩ := ho_d.sliceI
  clear ho_c ho_d
  replace hb_g := hb_g.below hb
  replace hb_m := hb_m.below hb
  replace hb_p := hb_p.below hb
  replace hb_b := hb_b.below hb
  replace hb_f := hb_f.below hb
  replace hb_h := hb_h.below hb
  replace hrv_g := hrv_g.below hb
  replace hrv_m := hrv_m.below hb
  replace hrv_p := hrv_p.below hb
  replace hrv_b := hrv_b.below hb
  replace hB := bstep hB hb (Nat.le_refl _)
  clear hb
  have hn_c : Blk (w10.alloc (.cells #[.slice a_c xsc.length c_c, .int .i64 stc] 28)) w10.heap.size [.slice a_c xsc.length c_c, .int .i64 stc] 28 := Blk.box _ _ _ rfl
  replace hb_g := hb_g.alloc (.cells #[.slice a_c xsc.length c_c, .int .i64 stc] 28)
  replace hb_m := hb_m.alloc (.cells #[.slice a_c xsc.length c_c, .int .i64 stc] 28)
  replace hb_p := hb_p.alloc (.cells #[.slice a_c xsc.length c_c, .int .i64 stc] 28)
  replace hb_b := hb_b.alloc (.cells #[.slice a_c xsc.length c_c, .int .i64 stc] 28)
  replace hb_f := hb_f.alloc (.cells #[.slice a_c xsc.length c_c, .int .i64 stc] 28)
  replace hb_h := hb_h.alloc (.cells #[.slice a_c xsc.length c_c, .int .i64 stc] 28)
  replace hrv_g := hrv_g.below ((Below.refl _ _).alloc (Nat.le_refl _) (.cells #[.slice a_c xsc.length c_c, .int .i64 stc] 28))
  replace hrv_m := hrv_m.below ((Below.refl _ _).alloc (Nat.le_refl _) (.cells #[.slice a_c xsc.length c_c, .int .i64 stc] 28))
  replace hrv_p := hrv_p.below ((Below.refl _ _).alloc (Nat.le_refl _) (.cells #[.slice a_c xsc.length c_c, .int .i64 stc] 28))
  replace hrv_b := hrv_b.below ((Below.refl _ _).alloc (Nat.le_refl _) (.cells #[.slice a_c xsc.length c_c, .int .i64 stc] 28))
  replace hrv_c := hrv_c.below ((Below.refl _ _).alloc (Nat.le_refl _) (.cells #[.slice a_c xsc.length c_c, .int .i64 stc] 28))
  replace hrv_d := hrv_d.below ((Below.refl _ _).alloc (Nat.le_refl _) (.cells #[.slice a_c xsc.length c_c, .int .i64 stc] 28))
  replace hB := hB.alloc hB.size (.cells #[.slice a_c xsc.length c_c, .int .i64 stc] 28)
  have hb_c := hn_c
  clear hn_c
  have hn_d : Blk ((w10.alloc (.cells #[.slice a_c xsc.length c_c, .int .i64 stc] 28)).alloc (.cells #[.slice a_d xsd.length c_d, .int .i64 std] 28)) (w10.alloc (.cells #[.slice a_c xsc.length c_c, .int .i64 stc] 28)).heap.size [.slice a_d xsd.length c_d, .int .i64 std] 28 := Blk.box _ _ _ rfl
  replace hb_g := hb_g.alloc (.cells #[.slice a_d xsd.length c_d, .int .i64 std] 28)
  replace hb_m := hb_m.alloc (.cells #[.slice a_d xsd.length c_d, .int .i64 std] 28)
  replace hb_p := hb_p.alloc (.cells #[.slice a_d xsd.length c_d, .int .i64 std] 28)
  replace hb_b := hb_b.alloc (.cells #[.slice a_d xsd.length c_d, .int .i64 std] 28)
  replace hb_f := hb_f.alloc (.cells #[.slice a_d xsd.length c_d, .int .i64 std] 28)
  replace hb_h := hb_h.alloc (.cells #[.slice a_d xsd.length c_d, .int .i64 std] 28)
  replace hb_c := hb_c.alloc (.cells #[.slice a_d xsd.length c_d, .int .i64 std] 28)
  replace hrv_g := hrv_g.below ((Below.refl _ _).alloc (Nat.le_refl _) (.cells #[.slice a_d xsd.length c_d, .int .i64 std] 28))
  replace hrv_m := hrv_m.below ((Below.refl _ _).alloc (Nat.le_refl _) (.cells #[.slice a_d xsd.length c_d, .int .i64 std] 28))
  replace hrv_p := hrv_p.below ((Below.refl _ _).alloc (Nat.le_refl _) (.cells #[.slice a_d xsd.length c_d, .int .i64 std] 28))
  replace hrv_b := hrv_b.below ((Below.refl _ _).alloc (Nat.le_refl _) (.cells #[.slice a_d xsd.length c_d, .int .i64 std] 28))
  replace hrv_c := hrv_c.below ((Below.refl _ _).alloc (Nat.le_refl _) (.cells #[.slice a_d xsd.length c_d, .int .i64 std] 28))
  replace hrv_d := hrv_d.below ((Below.refl _ _).alloc (Nat.le_refl _) (.cells #[.slice a_d xsd.length c_d, .int .i64 std] 28))
  replace hB := hB.alloc hB.size (.cells #[.slice a_d xsd.length c_d, .int .i64 std] 28)
  have hb_d := hn_d
  clear hn_d
  have hzc : (w10.alloc (.cells #[.slice a_c xsc.length c_c, .int .i64 stc] 28)).heap.size = w10.heap.size + 1 := by simp
  rw [hzc] at hb_d
  clear hzc
  obtain ⟨sf, sfc, HS⟩ : ∃ p q, Hid (sameFaceR xsc xsd stc std = (p, q)) := ⟨_, _, rfl⟩
  have Hsi := Lib.hid (fun W (h : RV W a_c xsc.length c_c (ints xsc)) (k : RV W a_d xsd.length c_d (ints xsd)) (hm : W.cell? ⟨0, 0, none⟩ = some (.int .i64 mx)) => show Calls Tryd.prog 15 #[.agg #[.slice a_c xsc.length c_c, .int .i64 stc], .agg #[.slice a_d xsd.length c_d, .int .i64 std]] W fun e w' => e = retBI (sf, sfc) ∧ Below W.heap.size W w' by
    have h2 := sameFace_any a_c a_d xsc.length xsd.length c_c c_d xsc xsd stc std mx W h k hm
    rw [HS.out] at h2; exact h2)
  have Hst := Lib.hid (fun W (h : RV W a_c xsc.length c_c (ints xsc)) (k : RV W a_d xsd.length c_d (ints xsd)) (hm : W.cell? ⟨0, 0, none⟩ = some (.int .i64 mx)) => show Calls Tryd.prog 15 #[.agg #[.slice a_d xsd.length c_d, .int .i64 std], .agg #[.slice a_c xsc.length c_c, .int .i64 stc]] W fun e w' => e = retBI (sf, sfc) ∧ Below W.heap.size W w' by
    have h2 := sameFace_any a_d a_c xsd.length xsc.length c_d c_c xsd xsc std stc mx W k h hm
    rw [← sameFace_symm, HS.out] at h2; exact h2)
  have Hss := Lib.hid (fun W (h : RV W a_c xsc.length c_c (ints xsc)) (k : RV W a_d xsd.length c_d (ints xsd)) => show Calls Tryd.prog 16 #[.agg #[.slice a_c xsc.length c_c, .int .i64 stc], .agg #[.slice a_d xsd.length c_d, .int .i64 std]] W fun e w' => e = retBI (sf, sfc) ∧ Below W.heap.size W w' by
    have h2 := specSameFace_any a_c a_d xsc.length xsd.length c_c c_d xsc xsd stc std W h k
    rw [HS.out] at h2; exact h2)
  have Hsg := Lib.hid (fun W (h : RV W a_g T.length c_g (ints T)) (k : RV W a_m T.length c_m (ints T)) => show Calls Tryd.prog 17 #[.agg #[.slice a_g T.length c_g, .int .i64 dz], .agg #[.slice a_m T.length c_m, .int .i64 dz]] W fun e w' => e = .returned (.bool true) ∧ Below W.heap.size W w' by
    have h2 := specSameTwill_any a_g a_m T.length T.length c_g c_m T T dz dz W h k
    rw [show sameT T T dz dz = true by simp [sameT]] at h2; exact h2)
  go_wp2_with fail
  with_reducible refine (Hsi.out _ hrv_c hrv_d ((hB.cell (p := ⟨0, 0, none⟩) hm0).trans Hmx.out)).mono ?_
  rintro e w11 ⟨rfl, hb⟩
  replace hb_g := hb_g.below hb
  replace hb_m := hb_m.below hb
  replace hb_p := hb_p.below hb
  replace hb_b := hb_b.below hb
  replace hb_f := hb_f.below hb
  replace hb_h := hb_h.below hb
  replace hb_c := hb_c.below hb
  replace hb_d := hb_d.below hb
  replace hrv_g := hrv_g.below hb
  replace hrv_m := hrv_m.below hb
  replace hrv_p := hrv_p.below hb
  replace hrv_b := hrv_b.below hb
  replace hrv_c := hrv_c.below hb
  replace hrv_d := hrv_d.below hb
  replace hB := bstep hB hb (Nat.le_refl _)
  clear hb
  have c_c0 := hb_c.cell 0 _ rfl
  have c_c1 := hb_c.cell 1 _ rfl
  have c_d0 := hb_d.cell 0 _ rfl
  have c_d1 := hb_d.cell 1 _ rfl
  go_wp2_with fail
  with_reducible refine (Hss.out _ hrv_c hrv_d).mono ?_
  rintro e w12 ⟨rfl, hb⟩
  replace hb_g := hb_g.below hb
  replace hb_m := hb_m.below hb
  replace hb_p := hb_p.below hb
  replace hb_b := hb_b.below hb
  replace hb_f := hb_f.below hb
  replace hb_h := hb_h.below hb
  replace hb_c := hb_c.below hb
  replace hb_d := hb_d.below hb
  replace hrv_g := hrv_g.below hb
  replace hrv_m := hrv_m.below hb
  replace hrv_p := hrv_p.below hb
  replace hrv_b := hrv_b.below hb
  replace hrv_c := hrv_c.below hb
  replace hrv_d := hrv_d.below hb
  replace hB := bstep hB hb (Nat.le_refl _)
  clear hb
  clear c_c0 c_c1
  clear c_d0 c_d1
  have c_g0 := hb_g.cell 0 _ rfl
  have c_g1 := hb_g.cell 1 _ rfl
  have c_m0 := hb_m.cell 0 _ rfl
  have c_m1 := hb_m.cell 1 _ rfl
  have c_f0 := hb_f.cell 0 _ rfl
  have c_f1 := hb_f.cell 1 _ rfl
  have c_h0 := hb_h.cell 0 _ rfl
  have c_h1 := hb_h.cell 1 _ rfl
  go_wp2_with fail
  with_reducible refine (Hsg.out _ hrv_g hrv_m).mono ?_
  rintro e w13 ⟨rfl, hb⟩
  replace hb_g := hb_g.below hb
  replace hb_m := hb_m.below hb
  replace hb_p := hb_p.below hb
  replace hb_b := hb_b.below hb
  replace hb_f := hb_f.below hb
  replace hb_h := hb_h.below hb
  replace hb_c := hb_c.below hb
  replace hb_d := hb_d.below hb
  replace hrv_g := hrv_g.below hb
  replace hrv_m := hrv_m.below hb
  replace hrv_p := hrv_p.below hb
  replace hrv_b := hrv_b.below hb
  replace hrv_c := hrv_c.below hb
  replace hrv_d := hrv_d.below hb
  replace hB := bstep hB hb (Nat.le_refl _)
  clear hb
  clear c_g0 c_g1
  clear c_m0 c_m1
  clear c_f0 c_f1
  clear c_h0 c_h1
  have c_f0 := hb_f.cell 0 _ rfl
  have c_f1 := hb_f.cell 1 _ rfl
  have c_h0 := hb_h.cell 0 _ rfl
  have c_h1 := hb_h.cell 1 _ rfl
  go_upto_region 17 with fail
  clear c_f0 c_f1 c_h0 c_h1
  have Hv_g := Lib.hid hrv_g
  clear hrv_g
  have Hv_m := Lib.hid hrv_m
  clear hrv_m
  have Hv_p := Lib.hid hrv_p
  clear hrv_p
  have Hv_b := Lib.hid hrv_b
  clear hrv_b
  have Hv_c := Lib.hid hrv_c
  clear hrv_c
  have Hv_d := Lib.hid hrv_d
  clear hrv_d
  have HX_g := Lib.hid hb_g
  clear hb_g
  have HX_m := Lib.hid hb_m
  clear hb_m
  have HX_p := Lib.hid hb_p
  clear hb_p
  have HX_b := Lib.hid hb_b
  clear hb_b
  have HX_f := Lib.hid hb_f
  clear hb_f
  have HX_h := Lib.hid hb_h
  clear hb_h
  have HX_c := Lib.hid hb_c
  clear hb_c
  have HX_d := Lib.hid hb_d
  clear hb_d
  have HB := Lib.hid hB
  clear hB Hdi Hds Hpi Hps Hfs Hsi Hss Hsg Hv_m HX_m HX_f
  generalize w2.heap.size = gg at *
  generalize w4.heap.size = gp at *
  generalize w7.heap.size = gb at *
  generalize w9.heap.size = gh at *
  generalize w10.heap.size = gc at *
  go_cut [140] (fun sq wx => sq = .bool (decide (pc = 0) && pl) ∧ wx = w13)
  case first => as_aux_lemma =>
    by_cases h0 : pc = 0
    · subst h0
      go_wp2_with fail
      go_meet
      exact ⟨by simp, rfl⟩
    · have z : (pc == 0) = false := by simp [h0]
      go_wp2_with fail
      go_meet
      exact ⟨by simp [h0], rfl⟩
  obtain ⟨rfl, hwc⟩ := hcut
  rw [hwc]
  clear hwc
  go_upto_if 140 with fail
  go_cut [] (fun wx => Below w13.heap.size w13 wx)
  case first => as_aux_lemma =>
    cases hq : (decide (pc = 0) && pl)
    · go_wp2_with fail
      go_meet
      exact Below.refl _ _
    · simp only [Bool.and_eq_true, decide_eq_true_eq] at hq
      obtain ⟨hp0, hp1⟩ := hq
      have hpr := HP.out
      rw [hp0, hp1] at hpr
      cases hv : vTwill xsp stp
      · simp [plainR, hv] at hpr
      · simp only [plainR, hv, if_true] at hpr
        have hfl := plain_floats hv (Prod.mk.inj hpr).1
        have Hfl := Lib.hid (fun W (h : RV W a_p xsp.length c_p (ints xsp)) => show Calls Tryd.prog 18 #[.agg #[.slice a_p xsp.length c_p, .int .i64 stp]] W fun e w' => e = rt3t (1, 1, 0) ∧ Below W.heap.size W w' by
          have h2 := floatsOf_any a_p xsp.length c_p xsp stp W h
          rw [hfl] at h2; exact h2)
        clear hpr hfl hv hp0 hp1
        have k0 := HX_p.out.cell 0 _ rfl
        have k1 := HX_p.out.cell 1 _ rfl
        go_wp2_with fail
        with_reducible refine (Hfl.out _ Hv_p.out).mono ?_
        rintro e u1 ⟨rfl, hb⟩
        have Hb1 := Lib.hid hb
        clear hb k0 k1
        go_wp2_with fail
        go_meet
        exact Hb1.out
  obtain ⟨va, hu⟩ : ∃ x : World, x = wc := ⟨_, rfl⟩
  rw [← hu] at hcut ⊢
  clear hu
  clear Hv_p
  clear HX_p
  replace Hv_g := Lib.hid (Hv_g.out.below hcut)
  replace Hv_b := Lib.hid (Hv_b.out.below hcut)
  replace Hv_c := Lib.hid (Hv_c.out.below hcut)
  replace Hv_d := Lib.hid (Hv_d.out.below hcut)
  replace HX_g := Lib.hid (HX_g.out.below hcut)
  replace HX_b := Lib.hid (HX_b.out.below hcut)
  replace HX_h := Lib.hid (HX_h.out.below hcut)
  replace HX_c := Lib.hid (HX_c.out.below hcut)
  replace HX_d := Lib.hid (HX_d.out.below hcut)
  replace HB := Lib.hid (bstep HB.out hcut (Nat.le_refl _))
  clear hcut
  clear HP
  go_upto_if 158 with fail
  go_cut [] (fun wx => Below va.heap.size va wx)
  case first => as_aux_lemma =>
    by_cases hf0 : fc = 0
    · subst hf0
      cases hv : vTwill xsb stb
      · have h := HF.out
        simp [shareR, hv] at h
      · obtain ⟨x1, x2, x3, hs1, hs2, hs3, hs4, hs5, hs6, hs7⟩ := share_back hv
        rw [HF.out] at hs1
        obtain ⟨rfl, rfl⟩ : fa = x1 ∧ fd = x3 := by
          have h := Prod.mk.inj hs1
          exact ⟨h.1, (Prod.mk.inj h.2).1⟩
        have Hbk := Lib.hid (fun W (h : RV W a_b xsb.length c_b (ints xsb)) => show Calls Tryd.prog 19 #[.agg #[.slice a_b xsb.length c_b, .int .i64 stb]] W (RetTC W 2 (backP xsb, ((rowW xsb).length : Int) - stb, 0)) by
          have h2 := specBackOf_any a_b xsb.length c_b xsb stb W h
          rw [(backR_ok hv).1] at h2; exact h2)
        obtain ⟨ys, hys⟩ : ∃ ys, backP xsb = ys := ⟨_, rfl⟩
        obtain ⟨sy, hsy⟩ : ∃ sy, ((rowW xsb).length : Int) - stb = sy := ⟨_, rfl⟩
        rw [hys, hsy] at Hbk hs2
        have Hsh := Lib.hid (fun W a c (h : RV W a ys.length c (ints ys)) => show Calls Tryd.prog 12 #[.agg #[.slice a ys.length c, .int .i64 sy]] W fun e w' => e = rtF (x2, fd, 0) ∧ Below W.heap.size W w' by
          have h2 := shareFront_any a ys.length c ys sy W h
          rw [hs2] at h2; exact h2)
        have hsum' : x2 + fa = fd := hs3
        have hw1 : IntKind.i64.wrap fd = fd := IntWalk.i64_in _ (by omega)
        have hw2 : wrap64 fd = fd := IntWalk.wrap64_in _ (by omega)
        clear hs1 hs2 hs3 hs4 hs5 hs6 hs7 hys hsy hv
        have k0 := HX_b.out.cell 0 _ rfl
        have k1 := HX_b.out.cell 1 _ rfl
        go_wp2_with fail
        with_reducible refine (Hbk.out _ Hv_b.out).mono ?_
        rintro e u1 ⟨v_z, rfl, ho_z, hb⟩
        obtain ⟨a_z, c_z, rfl, hrv_z⟩ := ho_z.sliceI
        clear ho_z k0 k1
        have Hb1 := Lib.hid (hb.alloc hb.size (.cells #[.slice a_z ys.length c_z, .int .i64 sy] 28))
        have Hz1 := Lib.hid (hrv_z.below ((Below.refl _ _).alloc (Nat.le_refl _) (.cells #[.slice a_z ys.length c_z, .int .i64 sy] 28)))
        clear hb hrv_z
        go_wp2_with fail
        with_reducible refine (Hsh.out _ _ _ Hz1.out).mono ?_
        rintro e u2 ⟨rfl, hb⟩
        have Hb2 := Lib.hid ((bstep Hb1.out hb (Nat.le_refl _)).alloc (by have := (bstep Hb1.out hb (Nat.le_refl _)).size; omega) (.cells #[.int .i64 x2, .int .i64 fd] 35))
        have hX := HX_h.out.below Hb2.out
        have k0 := hX.cell 0 _ rfl
        have k1 := hX.cell 1 _ rfl
        clear hb hX
        go_wp2_with fail
        go_meet
        exact Hb2.out
    · have z : (fc == 0) = false := by simp [hf0]
      go_wp2_with fail
      go_meet
      exact Below.refl _ _
  obtain ⟨vb, hu⟩ : ∃ x : World, x = wc := ⟨_, rfl⟩
  rw [← hu] at hcut ⊢
  clear hu
  clear Hv_b
  clear HX_b
  clear HX_h
  replace Hv_g := Lib.hid (Hv_g.out.below hcut)
  replace Hv_c := Lib.hid (Hv_c.out.below hcut)
  replace Hv_d := Lib.hid (Hv_d.out.below hcut)
  replace HX_g := Lib.hid (HX_g.out.below hcut)
  replace HX_c := Lib.hid (HX_c.out.below hcut)
  replace HX_d := Lib.hid (HX_d.out.below hcut)
  replace HB := Lib.hid (bstep HB.out hcut (Nat.le_refl _))
  clear hcut
  clear HF
  go_upto_if 193 with fail
  go_cut [] (fun wx => Below vb.heap.size vb wx)
  case first => as_aux_lemma =>
    by_cases hs0 : sfc = 0
    · subst hs0
      have k0 := HX_c.out.cell 0 _ rfl
      have k1 := HX_c.out.cell 1 _ rfl
      have k2 := HX_d.out.cell 0 _ rfl
      have k3 := HX_d.out.cell 1 _ rfl
      have Hm1 := Lib.hid (((HB.out).cell (p := ⟨0, 0, none⟩) hm0).trans Hmx.out)
      go_wp2_with fail
      with_reducible refine (Hst.out _ Hv_c.out Hv_d.out Hm1.out).mono ?_
      rintro e u1 ⟨rfl, hb⟩
      have Hb1 := Lib.hid hb
      clear hb k0 k1 k2 k3
      go_wp2_with fail
      go_meet
      exact Hb1.out
    · have z : (sfc == 0) = false := by simp [hs0]
      go_wp2_with fail
      go_meet
      exact Below.refl _ _
  obtain ⟨vd, hu⟩ : ∃ x : World, x = wc := ⟨_, rfl⟩
  rw [← hu] at hcut ⊢
  clear hu
  clear Hv_c
  clear HX_c
  clear Hv_d
  clear HX_d
  replace Hv_g := Lib.hid (Hv_g.out.below hcut)
  replace HX_g := Lib.hid (HX_g.out.below hcut)
  replace HB := Lib.hid (bstep HB.out hcut (Nat.le_refl _))
  clear hcut
  clear HS Hst Hmx hm0
  by_cases hdc : dc = 0
  · subst hdc
    obtain rfl : dz = z := by
      have h := HD.out
      unfold draftR at h
      split at h
      · split at h
        · split at h
          · exact (Prod.mk.inj (Prod.mk.inj h).2).1.symm
          · simp at h
        · simp at h
      · simp at h
    obtain ⟨i0, hi0, hn2, hn12, hface⟩ := draft_face HD.out (by rw [HD.out])
    have Hfa := Lib.hid (fun W (h : RV W a_g T.length c_g (ints T)) => show Calls Tryd.prog 20 #[.agg #[.slice a_g T.length c_g, .int .i64 dz], .int .i64 (S.size : Nat), .int .i64 1] W (RetS W 9 ([turnW l i0], 0)) by
      have h2 := faceOf_any a_g T.length c_g T dz (S.size : Nat) 1 W h
      rw [← Hll.out, hface] at h2
      rw [← Hll.out]; exact h2)
    obtain ⟨Fc, HFc⟩ : ∃ Fc : ByteArray, Hid (Fc = str (turnW l i0)) := ⟨_, Lib.hid rfl⟩
    have hFs : Fc.size = S.size := by rw [HFc.out, str_size, turnW_len, Hll.out]
    rw [Hll.out] at hi0 hn2 hn12
    have Hcmp := Lib.hid (fun k (hk : k ≤ S.size) => show S.extract k S.size ++ S.extract 0 k = str (turnW l k) from turn_ext l S Hl.out k hk)
    have k0 := HX_g.out.cell 0 _ rfl
    have k1 := HX_g.out.cell 1 _ rfl
    clear hface HD
    go_wp2_with fail
    with_reducible refine (Hfa.out _ Hv_g.out).mono ?_
    rintro e u1 ⟨v_z, rfl, ho_z, hb⟩
    obtain ⟨a_z, c_z, rfl, hrv_z⟩ := ho_z.sliceS
    obtain ⟨bz, oz, rfl, hbz, hcz⟩ := hrv_z.cellv (by simp)
    have e0 : u1.cell? ⟨bz, oz + 0, none⟩ = some (.string Fc) := by rw [HFc.out]; exact hcz 0 _ rfl
    rw [Nat.add_zero] at e0
    have HB1 := Lib.hid (bstep HB.out hb (Nat.le_refl _))
    simp only [List.length_singleton]
    obtain ⟨n, hn⟩ : ∃ n, S.size = n := ⟨_, rfl⟩
    have Hn := Lib.hid hn
    rw [hn] at hFs hi0 hn2 hn12
    clear hb hcz hrv_z ho_z k0 k1 hn
    have hSn : S.size = n := Hn.out
    go_wp2_with fail
    go_loopw [36] (fun i wr => ∃ k q : Nat, k ≤ i0 ∧ i = .int .i64 k ∧ Hid (wr = u1.drewN q)) (fun i _ => n - (intOf i).toNat)
    case atStart => exact ⟨0, 0, by omega, rfl, Lib.hid rfl⟩
    case round =>
      obtain ⟨k, q, hk, rfl, Hw⟩ := hrel
      generalize wr = wy at *
      have e1 : wy.cell? ⟨bz, oz, none⟩ = some (.string Fc) := by rw [Hw.out]; exact e0
      have hkn : k < n := by omega
      have hki : (k : Int) < n := by omega
      have hki' : (k : Int) ≤ n := by omega
      have hkn' : k ≤ n := by omega
      have d0 : decide ((k : Int) < n) = true := by simp; omega
      have d0' : decide (k < n) = true := by simp; omega
      have n1 : ¬ (9223372036854775807 < (S.extract k n).size + (S.extract 0 k).size) := by simp; omega
      have Hc := Lib.hid (show S.extract k n ++ S.extract 0 k = str (turnW l k) by have h := Hcmp.out k (by omega); rw [hSn] at h; exact h)
      have Hcl : Hid ((S.extract k n ++ S.extract 0 k).toList = turnW l k) := Lib.hid (by rw [Hc.out, ByteArray.toList_eq, str_list])
      have HFl : Hid (Fc.toList = turnW l i0) := Lib.hid (by rw [HFc.out, ByteArray.toList_eq, str_list])
      by_cases hm : turnW l k = turnW l i0
      · have t1 : ((S.extract k n ++ S.extract 0 k).toList == Fc.toList) = true := by rw [Hcl.out, HFl.out, hm]; simp
        clear hm
        obtain ⟨Z1, hZ1⟩ : ∃ Z, S.extract k n = Z := ⟨_, rfl⟩
        obtain ⟨Z2, hZ2⟩ : ∃ Z, S.extract 0 k = Z := ⟨_, rfl⟩
        rw [hZ1, hZ2] at t1 n1
        go_wp2_with fail
        go_quiet (fail)
        go_wp2_with fail
        go_ret
        exact ⟨rfl, by rw [Hw.out]; exact bdrewN (bdrewN HB1.out q) _⟩
      · have hne : k ≠ i0 := fun h => hm (by rw [h])
        have t1 : ((S.extract k n ++ S.extract 0 k).toList == Fc.toList) = false := by rw [Hcl.out, HFl.out]; simp [hm]
        clear hm
        obtain ⟨Z1, hZ1⟩ : ∃ Z, S.extract k n = Z := ⟨_, rfl⟩
        obtain ⟨Z2, hZ2⟩ : ∃ Z, S.extract 0 k = Z := ⟨_, rfl⟩
        rw [hZ1, hZ2] at t1 n1
        go_wp2_with fail
        go_quiet (fail)
        go_wp2_with fail
        go_roundw
        case rel => exact ⟨k + 1, q + nq, by omega, by go_num, Lib.hid (by rw [Hw.out, World.drewN_drewN])⟩
        case measure => simp [intOf]; omega
  have z1 : (dc != 0) = true := by simp [hdc]
  go_wp2_with fail
  go_ret
  exact ⟨rfl, HB.out⟩

set_option maxRecDepth 100000 in
theorem lifted (os : Os) (started : os.Started) (H : Type) (enc : TypeId × Value → H) :
    ReturnsInHanded {} Tryd.checked os 3 .any (fun w args => (Rows.fnDraftsSpec.pre enc Tryd.prog Tryd.f3 [] false w args ∧ laidMetH Tryd.prog Rows.fnDraftsRow.laid w) ∧ sizedMet enc Tryd.prog Tryd.f3 (OpenSpec.ofChange Rows.fnDraftsSpec) false w args) (Rows.fnDraftsSpec.post enc Tryd.prog Tryd.f3 false true false false) := by
  refine returnsInHanded_and_shaped (C := Tryd.checked) (X := fun w _ => laidMetH Tryd.prog Rows.fnDraftsRow.laid w) (fun _ _ _ hh h => h.of_heap hh) own started (by kernel_rfl) Tryd.func3
    (ChangeSpec.witness_shaped (enc := enc) (C := Tryd.checked) (os := os) (X := fun w _ => laidMetH Tryd.prog Rows.fnDraftsRow.laid w) false (World.laidAll Tryd.prog os Rows.fnDraftsRow.laid) #[.slice none 0 0] 8 (World.laidAll_os _ _ _)
      (World.shaped_of_ZipB (by kernel_rfl) (by kernel_rfl)) (by kernel_rfl) (by kernel_rfl) (by kernel_rfl)
      (by rw [MakeChecks.laidMetH_plain _ _ _ (by kernel_rfl)]; exact laidMet_laidAll _ (by kernel_rfl) (by kernel_rfl))) ?_
  intro W base args ds gs before hval0 hW _ hL hsh
  obtain ⟨mx, hmx⟩ := Tryd.laysM144.s1_3 W hsh
  have hval : ∀ (j : Nat) t v, Tryd.f3.params[j]? = some t → args[j]? = some v → Value.okWide Tryd.prog W .any base t v := hval0
  have hW' := hW
  obtain ⟨p, q, hA0, hV, rfl, hfz, hnd⟩ := hW
  have hA : DataW.TrodAll enc Tryd.prog W 0 (fun _ => true) true Tryd.f3.params.toList args.toList ds p := hA0
  rw [Tryd.params3] at hA hval
  obtain ⟨v0, vs0, d0, ds0, pP0, qQ0, hargs, rfl, rfl, k0, e0⟩ := trodAll_cons hA
  obtain ⟨rfl, rfl, rfl⟩ := trodAll_nil e0
  obtain rfl : args = #[v0] := by cases args; simp_all
  obtain ⟨rfl, rfl⟩ := trodVars_none hV
  have l0 := arg_lt k0
  obtain ⟨p0, n0, c0, x0, rfl, r0, b0⟩ := arg_bytes (hval 0 _ v0 rfl rfl) k0
  clear hA0 hval0
  refine (walk W p0 n0 c0 x0 r0 b0 mx hmx).mono fun e W' ⟨he, bel⟩ => ?_
  subst he
  exact ⟨_, rfl, _, _, _, [], _, [], hW', trodAll_mk1 (shut_bool Tryd.underlying4 _), (trodAll_cons_mk (Below.trod laidOut (by kernel_rfl) (of_decide_eq_true (by kernel_rfl)) k0 bel l0) trodAll_mk0), rfl, bel.frame _, fun h => by cases h⟩

theorem over : Rows.fnDraftsRow.holds Tryd.pinned (OpenSpec.ofChange Rows.fnDraftsSpec) :=
  OpenClaim.holds_of_wide 3 Tryd.f3 rfl rfl rfl rfl rfl rfl rfl ⟨rfl, rfl, rfl, rfl, rfl⟩ rfl rfl rfl rfl rfl (by kernel_rfl) Tryd.func3 (by kernel_rfl)
    (of_decide_eq_true (by kernel_rfl)) (by unfold Func.isWrapper; first | (rw [if_pos (by decide +kernel)]; kernel_rfl) | (rw [if_neg (by decide +kernel)]; exact ⟨rfl, rfl⟩))
    (fun os started H enc _ => lifted os started H enc)

set_option maxRecDepth 100000 in
/-- the statement -/
theorem proved : Rows.FnDraftsCardSaid :=
  Claim7.holds_tied_plain_at .later [] [.data, .pinned] true (true, "3d2729437e89e0742ef3b33def7ca5c008d1a222eaeecba0004e11716672574a") false over (fun _ h => by cases h) (by kernel_rfl) (fun _ h => by cases h) fnDrafts_row_tie rfl ⟨rfl, rfl⟩ (by kernel_rfl) rfl
    (fun f fn hf hfn => by
      obtain rfl : f = 3 := Option.some.inj ((show Tryd.prog.funcNamed Rows.fnDraftsRow.func = some 3 by kernel_rfl).symm.trans hf) |>.symm
      obtain rfl : fn = Tryd.f3 := (Option.some.inj (Tryd.func3.symm.trans hfn)).symm
      exact ⟨by kernel_rfl, fun j t ht => by
        rw [Tryd.params3] at ht
        have hm : t ∈ [22] := by simpa using Array.mem_of_getElem? ht
        have hall : ([22].all fun u => !Tryd.prog.wantsStandIn u) = true := by kernel_rfl
        exact (show Tryd.prog.wantsStandIn t = false by simpa using List.all_eq_true.1 hall t hm)⟩)
    (by kernel_rfl)
#print axioms proved
end Go.Proofs.YtggbnibdpkblgaaDoor.fnDrafts
