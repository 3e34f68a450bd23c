/-
  The back of a twill, by walks.
-/
import Derived.Test.YtflejjfkgkmcgaaGreatDoorTwillBack
import Derived.Test.YtflejjfkgkmcgaaGreatDoorRepl5
import Derived.Test.YtflejjfkgkmcgaaGreatDoorSlicesB
namespace Go.Proofs.YtflejjfkgkmcgaaGreatDoor
open Go Go.RowKit
set_option linter.unusedVariables false
set_option maxRecDepth 100000

theorem swB_oth {c : UInt8} (h : c = 70 ∨ c = 66) : swB c = othB c := by rcases h with rfl | rfl <;> rfl
theorem swapL_back {l : List UInt8} (h : two 70 66 l = true) : (swapL l).reverse = backL l := by
  have e : swapL l = l.map othB := List.map_congr_left fun c hc => swB_oth (two_iff.1 h c hc)
  rw [e]; rfl

theorem turnT_len (l : List UInt8) : (turnT l).length ≤ l.length := by
  unfold turnT
  cases goodI l with
  | none => exact Nat.zero_le _
  | some i => exact Nat.le_of_eq (turnW_len l i)
theorem backR_len (xs : List Int) (st : Int) : (backR xs st).1.length ≤ 1000000 := by
  unfold backR
  split
  · next hv =>
    obtain ⟨he, h7, hN0, hN1, hst0, hst1⟩ := row_factsB hv
    have h1 := partsTo_len (turnT (backL (rowW xs))) (turnT (backL (rowW xs))).length
    have h2 := turnT_len (backL (rowW xs))
    rw [backL_len] at h2
    show (partsTo (turnT (backL (rowW xs))) (turnT (backL (rowW xs))).length).length ≤ 1000000
    omega
  · simp
set_option maxHeartbeats 2000000 in
theorem backOf_any (a : Option Addr) (n c : Nat) (xs : List Int) (st : Int) (w : World) (ha : RV w a n c (ints xs)) :
    Calls Tryz.prog 11 #[.agg #[.slice a n c, .int .i64 st]] w (RetTC w 2 (backR xs st)) := by
  have HB := Lib.hid (show Below w.heap.size w ((w.alloc (.cells #[.slice a n c, .int .i64 st] 26)).alloc (.cells #[.slice none 0 0, .int .i64 0] 26)) from ((Below.refl _ _).alloc (Nat.le_refl _) _).alloc (by simp) _)
  have Hbt := Lib.hid ((Blk.box w [.slice a n c, .int .i64 st] 26 rfl).alloc (.cells #[.slice none 0 0, .int .i64 0] 26))
  have Hbr := Lib.hid (show Blk ((w.alloc (.cells #[.slice a n c, .int .i64 st] 26)).alloc (.cells #[.slice none 0 0, .int .i64 0] 26)) (w.heap.size + 1) [.slice none 0 0, .int .i64 0] 26 by
    have h := Blk.box (w.alloc (.cells #[.slice a n c, .int .i64 st] 26)) [.slice none 0 0, .int .i64 0] 26 rfl
    simpa using h)
  have Hv := Lib.hid (fun W hW => validTwill_any a n c xs st W hW)
  have Ha := Lib.hid ha
  cases hv : vTwill xs st
  · rw [show backR xs st = ([], 0, 1) by simp [backR, hv]]
    rw [hv] at Hv
    clear ha hv
    go_enter Tryz.func11, Tryz.ntmps11
    go_wp2_with fail
    with_reducible refine (Hv.out _ (Ha.out.below HB.out)).mono ?_
    rintro e w1 ⟨rfl, hb⟩
    have Hb1 := Lib.hid (bstep HB.out hb (Nat.le_refl _))
    have Hblk1 := Lib.hid (Hbr.out.below hb)
    have hc0 := Hblk1.out.cell 0 _ rfl
    have hc1 := Hblk1.out.cell 1 _ rfl
    have hf0 := Hblk1.out.frozen 0
    have hf1 := Hblk1.out.frozen 1
    have hz1 := Hblk1.out.lt
    clear hb
    go_wp2_with fail
    have Hblk2 := (Hblk1.out.set 0 (.slice none 0 0)).set 1 (.int .i64 0)
    have g0 := Hblk2.cell 0 _ rfl
    have g1 := Hblk2.cell 1 _ rfl
    refine bodyPost_ret (v := .tuple #[.agg #[.slice none 0 0, .int .i64 0], .int .i64 1]) (by simp [results, Tryz.results11, go_sem, g0, g1]) rfl ⟨_, rfl, Own.nil _ _ _ _, ?_⟩
    exact (Hb1.out.setCell (Nat.le_succ _) _).setCell (Nat.le_succ _) _
  · obtain ⟨he, h7, hN0, hN1, hst0, hst1⟩ := row_factsB hv
    obtain ⟨i0, hi⟩ := back_good he (vTwill_iff hv).2.1
    rw [hv] at Hv
    rw [show backR xs st = (partsW (turnT (backL (rowW xs))), ((rowW xs).length : Int) - st, 0) by simp [backR, hv]]
    have Hrow := Lib.hid (fun W h => rowOf_any a n c xs st W he h7 h)
    obtain ⟨l, Hl⟩ : ∃ l, Hid (l = rowW xs) := ⟨_, rfl⟩
    have htwo := rowTo_two xs xs.length
    rw [show rowTo xs xs.length = l from Hl.out.symm] at htwo
    rw [← Hl.out] at hN0 hN1 hst1 hi Hrow ⊢
    obtain ⟨s, Hs⟩ : ∃ s, Hid (s = str l) := ⟨_, rfl⟩
    obtain ⟨N, hN⟩ : ∃ N, l.length = N := ⟨_, rfl⟩
    have hsN : s.size = N := by rw [Hs.out, str_size, hN]
    rw [← Hs.out] at Hrow
    rw [hN] at hN0 hN1 hst1 ⊢
    obtain ⟨U, HU⟩ : ∃ U, Hid (U = str (swapL l)) := ⟨_, rfl⟩
    have hUl : U.data.toList = swapL l := by rw [HU.out, str_list]
    have hUn : U.size = N := by rw [HU.out, str_size]; simp [swapL, hN]
    have Ho := Lib.hid (fun W => by
      have h := otherSide_any s W (by omega) (by omega) (by rw [Hs.out, str_list]; exact htwo)
      rw [show s.data.toList = l by rw [Hs.out, str_list], ← HU.out] at h
      exact h)
    obtain ⟨R, HR⟩ : ∃ R, Hid (R = str (backL l)) := ⟨_, rfl⟩
    have hRs : R.size = N := by rw [HR.out, str_size, backL_len, hN]
    have Hrev := Lib.hid (fun g cap W hb => by
      have h := slReverseB_any g cap (swapL l) W (by simp [swapL, hN]; omega) (by simp [swapL, hN]; omega) hb
      rw [swapL_back htwo, show (swapL l).length = N by simp [swapL, hN]] at h
      exact h)
    have Hd := Lib.hid (fun W => by
      have h := draftOf_any R ((N : Int) - st) W i0 (by rw [HR.out, str_list]; exact hi) (by omega) (by omega)
      rw [show R.data.toList = backL l by rw [HR.out, str_list]] at h
      exact h)
    have Hcv := Lib.hid (fun W b cp (h : BufAt W b (backL l)) => by
      have h2 := run_buf_string (P := Tryz.prog) 22 9 5 Tryz.underlying22 Tryz.underlying5 Tryz.underlying9 (c := cp) (show (backL l).length = N by rw [backL_len, hN]) h
      rw [← HR.out] at h2
      exact h2)
    obtain ⟨PW, HPW⟩ : ∃ PW, partsW (turnT (backL l)) = PW := ⟨_, rfl⟩
    rw [HPW] at Hd ⊢
    have hws := IntWalk.i64_in ((N : Int) - st) (by omega)
    clear he h7 hi hv htwo HPW ha
    go_enter Tryz.func11, Tryz.ntmps11
    go_wp2_with fail
    with_reducible refine (Hv.out _ (Ha.out.below HB.out)).mono ?_
    rintro e w1 ⟨rfl, hb⟩
    have Hb1 := Lib.hid (bstep HB.out hb (Nat.le_refl _))
    have Hbt1 := Lib.hid (Hbt.out.below hb)
    have Hbr1 := Lib.hid (Hbr.out.below hb)
    have ht0 := Hbt1.out.cell 0 _ rfl
    have ht1 := Hbt1.out.cell 1 _ rfl
    clear hb
    go_wp2_with fail
    with_reducible refine (Hrow.out _ (Ha.out.below Hb1.out)).mono ?_
    rintro e w2 ⟨rfl, hb⟩
    have Hb2 := Lib.hid (bstep Hb1.out hb (Nat.le_refl _))
    have Hbt2 := Lib.hid (Hbt1.out.below hb)
    have Hbr2 := Lib.hid (Hbr1.out.below hb)
    clear hb ht0 ht1
    go_wp2_with fail
    with_reducible refine (Ho.out _).mono ?_
    rintro e w3 ⟨rfl, hb⟩
    have Hb3 := Lib.hid (bstep Hb2.out hb (Nat.le_refl _))
    have Hbt3 := Lib.hid (Hbt2.out.below hb)
    have Hbr3 := Lib.hid (Hbr2.out.below hb)
    clear hb
    have hcv0 := run_bytes_of_string (P := Tryz.prog) w3 9 22 5 U Tryz.underlying9 Tryz.underlying22 Tryz.underlying5
    obtain ⟨cap, hcap⟩ : ∃ cap, grownCap w3 U.size 0 5 = cap := ⟨_, rfl⟩
    rw [hcap] at hcv0
    obtain ⟨OB, hOB⟩ : ∃ OB : Obj, OB = .cells (bytesRow U cap) 5 ((bytesRow U cap).size, (bytesRow U cap).size + 1) := ⟨_, rfl⟩
    rw [← hOB, hUn] at hcv0
    have Hmade := Lib.hid (show BufAt (w3.alloc OB) w3.heap.size (swapL l) by rw [hOB, ← hUl]; exact BufAt.made w3 U _ cap)
    have hbel : Below w3.heap.size w3 (w3.alloc OB) := (Below.refl _ _).alloc (Nat.le_refl _) OB
    have Hb4 := Lib.hid (bstep Hb3.out hbel (Nat.le_refl _))
    have Hbt4 := Lib.hid (Hbt3.out.below hbel)
    have Hbr4 := Lib.hid (Hbr3.out.below hbel)
    have hz3 := Hb3.out.size
    have hzr3 := Hbr3.out.lt
    clear hcap hOB hbel
    go_wp2_with fail
    have Hmade' := Lib.hid (show BufAt (w3.alloc OB).drew w3.heap.size (swapL l) from Hmade.out)
    with_reducible refine (Hrev.out _ _ _ Hmade'.out).mono ?_
    rintro e w5 ⟨rfl, hbuf, hgr⟩
    have hz4 : w.heap.size ≤ (w3.alloc OB).drew.heap.size := by simp; omega
    have Hb5 := Lib.hid (Below.grown (show Below w.heap.size w (w3.alloc OB).drew from bdrewN Hb4.out 1) hgr hz4 (fun k hk => by simp at hk; omega))
    have Hbt5 := Lib.hid (Blk.grown (show Blk (w3.alloc OB).drew w.heap.size [.slice a n c, .int .i64 st] 26 from Hbt4.out) hgr (by simp; omega))
    have Hbr5 := Lib.hid (Blk.grown (show Blk (w3.alloc OB).drew (w.heap.size + 1) [.slice none 0 0, .int .i64 0] 26 from Hbr4.out) hgr (by simp; omega))
    have hcv5 := Hcv.out w5 w3.heap.size cap hbuf
    have ht1 := Hbt5.out.cell 1 _ rfl
    clear hbuf hgr
    go_wp2_with fail
    with_reducible refine (Hd.out _).mono ?_
    rintro e w6 ⟨v, rfl, ho, hb⟩
    have Ho := Lib.hid ho
    have Hb6 := Lib.hid (bstep Hb5.out hb (Nat.le_refl _))
    have Hblk6 := Lib.hid (Hbr5.out.below hb)
    have hsz1 := Hb5.out.size
    obtain ⟨a5, c5, rfl, hr5⟩ := ho.sliceI
    have hk0 := Hblk6.out.cell 0 _ rfl
    have hk1 := Hblk6.out.cell 1 _ rfl
    have hg0 := Hblk6.out.frozen 0
    have hg1 := Hblk6.out.frozen 1
    have hz6 := Hblk6.out.lt
    have hzr := Hbr5.out.lt
    clear hr5 ho hb
    go_wp2_with fail
    have Hblk2 := (Hblk6.out.set 0 (.slice a5 PW.length c5)).set 1 (.int .i64 ((N : Int) - st))
    have g0 := Hblk2.cell 0 _ rfl
    have g1 := Hblk2.cell 1 _ rfl
    refine bodyPost_ret (v := .tuple #[.agg #[.slice a5 PW.length c5, .int .i64 ((N : Int) - st)], .int .i64 0]) (by simp [results, Tryz.results11, go_sem, g0, g1]) rfl ⟨_, rfl, ?_, ?_⟩
    · exact ((Ho.out.set (by omega) 0 _).set (by omega) 1 _).mono hsz1 (by simp)
    · exact (Hb6.out.setCell (Nat.le_succ _) _).setCell (Nat.le_succ _) _
end Go.Proofs.YtflejjfkgkmcgaaGreatDoor
