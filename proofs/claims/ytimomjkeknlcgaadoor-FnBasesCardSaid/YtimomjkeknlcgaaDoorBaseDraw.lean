/-
  The reference's drawing of a base.
-/
import Derived.Test.YtimomjkeknlcgaaDoorBase2
import Derived.Test.YtimomjkeknlcgaaDoorSrc
namespace Go.Proofs.YtimomjkeknlcgaaDoor
open Go.RowKit
set_option linter.unusedVariables false

set_option maxHeartbeats 2000000 in
theorem l07Draw_any (g K : Nat) (w : World) (h : Src w g K) (hK : K ≤ 100000) :
    Calls Tryd.prog 27 #[.pointer (some ⟨g, 0, none⟩)] w fun e w' => ∃ t s r k : Int, e = .returned (.agg #[.int .i64 t, .int .i64 s, .int .i64 r, .int .i64 k]) ∧ Src w' g (K + 20) ∧ w.grownBy w' (some g) := by
  have hgw := h.lt
  have hs := h
  have hg : w.grownBy w (some g) := World.grownBy.refl _ _
  have hn_R : Blk (w.alloc (.cells #[.int .i64 0, .int .i64 0, .int .i64 0, .int .i64 0] 25)) w.heap.size [.int .i64 0, .int .i64 0, .int .i64 0, .int .i64 0] 25 := Blk.box _ _ _ rfl
  replace hs := hs.alloc (.cells #[.int .i64 0, .int .i64 0, .int .i64 0, .int .i64 0] 25)
  replace hg := gtrans hg (World.grownBy_alloc w (.cells #[.int .i64 0, .int .i64 0, .int .i64 0, .int .i64 0] 25) (some g))
  have hb_R := hn_R
  clear hn_R
  go_enter Tryd.func27, Tryd.ntmps27
  go_wp2_with fail
  refine (pick_any _ _ _ _ hs (by omega) (by omega)).mono ?_
  rintro e w1 ⟨x1, rfl, l_x1, u_x1, _, hs', hg'⟩
  replace hb_R := hb_R.grown hg' (by simp; omega)
  replace hg := gtrans hg hg'
  replace hs := hs'
  clear hs' hg'
  have u_x1 := u_x1 (by omega)
  go_wp2_with fail
  refine (pick_any _ _ _ _ hs (by omega) (by omega)).mono ?_
  rintro e w2 ⟨x2, rfl, l_x2, u_x2, _, hs', hg'⟩
  replace hb_R := hb_R.grown hg' (by simp; omega)
  replace hg := gtrans hg hg'
  replace hs := hs'
  clear hs' hg'
  have u_x2 := u_x2 (by omega)
  have q_R_b : w.heap.size < w2.heap.size := hb_R.lt
  have hn_b : Blk (w2.alloc (.cells #[.int .i64 (1 + x1), .int .i64 (1 + x2), .int .i64 0, .int .i64 0] 25)) w2.heap.size [.int .i64 (1 + x1), .int .i64 (1 + x2), .int .i64 0, .int .i64 0] 25 := Blk.box _ _ _ rfl
  replace hb_R := hb_R.alloc (.cells #[.int .i64 (1 + x1), .int .i64 (1 + x2), .int .i64 0, .int .i64 0] 25)
  replace hs := hs.alloc (.cells #[.int .i64 (1 + x1), .int .i64 (1 + x2), .int .i64 0, .int .i64 0] 25)
  replace hg := gtrans hg (World.grownBy_alloc w2 (.cells #[.int .i64 (1 + x1), .int .i64 (1 + x2), .int .i64 0, .int .i64 0] 25) (some g))
  have hb_b := hn_b
  clear hn_b
  go_wp2_with fail
  refine (pick_any _ _ _ _ hs (by omega) (by omega)).mono ?_
  rintro e w3 ⟨x3, rfl, l_x3, u_x3, _, hs', hg'⟩
  replace hb_R := hb_R.grown hg' (by simp; omega)
  replace hb_b := hb_b.grown hg' (by simp; omega)
  replace hg := gtrans hg hg'
  replace hs := hs'
  clear hs' hg'
  have u_x3 := u_x3 (by omega)
  have c_b2 := hb_b.cell 2 _ rfl
  have f_b2 := hb_b.frozen 2
  replace hb_R := hb_R.other (g := w2.heap.size) (i := 2) (by have := hb_b.lt; omega) (.int .i64 (60 + 10 * x3))
  replace hs := hs.set (b := w2.heap.size) (by omega) 2 (.int .i64 (60 + 10 * x3))
  replace hg : w.grownBy (w3.setCell ⟨w2.heap.size, 2, none⟩ (.int .i64 (60 + 10 * x3))) (some g) := gset_past hg (by omega) 2 (.int .i64 (60 + 10 * x3))
  replace hb_b := hb_b.set 2 (.int .i64 (60 + 10 * x3))
  simp only [List.set_cons_zero, List.set_cons_succ] at hb_b
  go_wp2_with fail
  refine (pick_any _ _ _ _ hs (by omega) (by omega)).mono ?_
  rintro e w4 ⟨x4, rfl, l_x4, u_x4, _, hs', hg'⟩
  replace hb_R := hb_R.grown hg' (by simp; omega)
  replace hb_b := hb_b.grown hg' (by simp; omega)
  replace hg := gtrans hg hg'
  replace hs := hs'
  clear hs' hg'
  have u_x4 := u_x4 (by omega)
  clear c_b2 f_b2
  have c_b3 := hb_b.cell 3 _ rfl
  have f_b3 := hb_b.frozen 3
  replace hb_R := hb_R.other (g := w2.heap.size) (i := 3) (by have := hb_b.lt; omega) (.int .i64 (2 + x4))
  replace hs := hs.set (b := w2.heap.size) (by omega) 3 (.int .i64 (2 + x4))
  replace hg : w.grownBy (w4.setCell ⟨w2.heap.size, 3, none⟩ (.int .i64 (2 + x4))) (some g) := gset_past hg (by omega) 3 (.int .i64 (2 + x4))
  replace hb_b := hb_b.set 3 (.int .i64 (2 + x4))
  simp only [List.set_cons_zero, List.set_cons_succ] at hb_b
  go_wp2_with fail
  refine (pick_any _ _ _ _ hs (by omega) (by omega)).mono ?_
  rintro e w5 ⟨x5, rfl, l_x5, u_x5, _, hs', hg'⟩
  replace hb_R := hb_R.grown hg' (by simp; omega)
  replace hb_b := hb_b.grown hg' (by simp; omega)
  replace hg := gtrans hg hg'
  replace hs := hs'
  clear hs' hg'
  have u_x5 := u_x5 (by omega)
  clear c_b3 f_b3
  by_cases e0 : x5 = 0
  · subst e0
    obtain ⟨L, hL⟩ : ∃ L : Obj, L = .cells #[.int .i64 (-1), .int .i64 0, .int .i64 1, .int .i64 12, .int .i64 13, .int .i64 (-9223372036854775808)] 2 := ⟨_, rfl⟩
    have hrv : RV (w5.alloc L) (some ⟨w5.heap.size, 0, none⟩) 6 6 (ints [-1, 0, 1, 12, 13, -9223372036854775808]) := by subst hL; exact rv_lit _ _ _ rfl (by simp) (by simp [maxLen])
    have hgw5 : g < w5.heap.size := hs.lt
    have q_b_L : w2.heap.size < w5.heap.size := hb_b.lt
    replace hs := hs.alloc L
    replace hg := gtrans hg (World.grownBy_alloc w5 L (some g))
    replace hb_R := hb_R.alloc L
    replace hb_b := hb_b.alloc L
    subst hL
    go_wp2_with fail
    refine (among_any _ _ _ _ _ _ _ hs (by omega) (by omega) (by omega) hrv (by intro b o hb; simp at hb; omega)).mono ?_
    rintro e w6 ⟨y, rfl, hy, hs', hg'⟩
    replace hb_R := hb_R.grown hg' (by simp; omega)
    replace hb_b := hb_b.grown hg' (by simp; omega)
    replace hg := gtrans hg hg'
    replace hs := hs'
    clear hs' hg'
    have c_R0 := hb_R.cell 0 _ rfl
    have f_R0 := hb_R.frozen 0
    have c_R1 := hb_R.cell 1 _ rfl
    have f_R1 := hb_R.frozen 1
    have c_R2 := hb_R.cell 2 _ rfl
    have f_R2 := hb_R.frozen 2
    have c_R3 := hb_R.cell 3 _ rfl
    have f_R3 := hb_R.frozen 3
    have c_b0 := hb_b.cell 0 _ rfl
    have f_b0 := hb_b.frozen 0
    have c_b1 := hb_b.cell 1 _ rfl
    have f_b1 := hb_b.frozen 1
    have c_b2 := hb_b.cell 2 _ rfl
    have f_b2 := hb_b.frozen 2
    have c_b3 := hb_b.cell 3 _ rfl
    have f_b3 := hb_b.frozen 3
    replace hb_R := hb_R.other (g := w2.heap.size) (i := 0) (by have := hb_b.lt; omega) (.int .i64 y)
    replace hs := hs.set (b := w2.heap.size) (by omega) 0 (.int .i64 y)
    replace hg : w.grownBy (w6.setCell ⟨w2.heap.size, 0, none⟩ (.int .i64 y)) (some g) := gset_past hg (by omega) 0 (.int .i64 y)
    replace hb_b := hb_b.set 0 (.int .i64 y)
    simp only [List.set_cons_zero] at hb_b
    go_wp2
    refine bodyPost_ret (v := .agg #[.int .i64 y, .int .i64 (1 + x2), .int .i64 (60 + 10 * x3), .int .i64 (2 + x4)]) (by simp [results, Tryd.results27, go_sem, c_R0, c_R1, c_R2, c_R3]) rfl ⟨_, _, _, _, rfl, ?_, ?_⟩
    · exact (((hs.set (by omega) 0 _).set (by omega) 1 _).set (by omega) 2 _).set (by omega) 3 _ |>.mono (by omega)
    · exact gset_past (gset_past (gset_past (gset_past hg (by omega) 0 _) (by omega) 1 _) (by omega) 2 _) (by omega) 3 _
  by_cases e1 : x5 = 1
  · subst e1
    obtain ⟨L, hL⟩ : ∃ L : Obj, L = .cells #[.int .i64 (-1), .int .i64 0, .int .i64 1, .int .i64 12, .int .i64 13] 2 := ⟨_, rfl⟩
    have hrv : RV (w5.alloc L) (some ⟨w5.heap.size, 0, none⟩) 5 5 (ints [-1, 0, 1, 12, 13]) := by subst hL; exact rv_lit _ _ _ rfl (by simp) (by simp [maxLen])
    have hgw5 : g < w5.heap.size := hs.lt
    have q_b_L : w2.heap.size < w5.heap.size := hb_b.lt
    replace hs := hs.alloc L
    replace hg := gtrans hg (World.grownBy_alloc w5 L (some g))
    replace hb_R := hb_R.alloc L
    replace hb_b := hb_b.alloc L
    subst hL
    go_wp2_with fail
    refine (among_any _ _ _ _ _ _ _ hs (by omega) (by omega) (by omega) hrv (by intro b o hb; simp at hb; omega)).mono ?_
    rintro e w6 ⟨y, rfl, hy, hs', hg'⟩
    replace hb_R := hb_R.grown hg' (by simp; omega)
    replace hb_b := hb_b.grown hg' (by simp; omega)
    replace hg := gtrans hg hg'
    replace hs := hs'
    clear hs' hg'
    have c_R0 := hb_R.cell 0 _ rfl
    have f_R0 := hb_R.frozen 0
    have c_R1 := hb_R.cell 1 _ rfl
    have f_R1 := hb_R.frozen 1
    have c_R2 := hb_R.cell 2 _ rfl
    have f_R2 := hb_R.frozen 2
    have c_R3 := hb_R.cell 3 _ rfl
    have f_R3 := hb_R.frozen 3
    have c_b0 := hb_b.cell 0 _ rfl
    have f_b0 := hb_b.frozen 0
    have c_b1 := hb_b.cell 1 _ rfl
    have f_b1 := hb_b.frozen 1
    have c_b2 := hb_b.cell 2 _ rfl
    have f_b2 := hb_b.frozen 2
    have c_b3 := hb_b.cell 3 _ rfl
    have f_b3 := hb_b.frozen 3
    replace hb_R := hb_R.other (g := w2.heap.size) (i := 1) (by have := hb_b.lt; omega) (.int .i64 y)
    replace hs := hs.set (b := w2.heap.size) (by omega) 1 (.int .i64 y)
    replace hg : w.grownBy (w6.setCell ⟨w2.heap.size, 1, none⟩ (.int .i64 y)) (some g) := gset_past hg (by omega) 1 (.int .i64 y)
    replace hb_b := hb_b.set 1 (.int .i64 y)
    simp only [List.set_cons_zero, List.set_cons_succ] at hb_b
    go_wp2
    refine bodyPost_ret (v := .agg #[.int .i64 (1 + x1), .int .i64 y, .int .i64 (60 + 10 * x3), .int .i64 (2 + x4)]) (by simp [results, Tryd.results27, go_sem, c_R0, c_R1, c_R2, c_R3]) rfl ⟨_, _, _, _, rfl, ?_, ?_⟩
    · exact (((hs.set (by omega) 0 _).set (by omega) 1 _).set (by omega) 2 _).set (by omega) 3 _ |>.mono (by omega)
    · exact gset_past (gset_past (gset_past (gset_past hg (by omega) 0 _) (by omega) 1 _) (by omega) 2 _) (by omega) 3 _
  by_cases e2 : x5 = 2
  · subst e2
    obtain ⟨L, hL⟩ : ∃ L : Obj, L = .cells #[.int .i64 (-1), .int .i64 9, .int .i64 10, .int .i64 1000, .int .i64 1001] 2 := ⟨_, rfl⟩
    have hrv : RV (w5.alloc L) (some ⟨w5.heap.size, 0, none⟩) 5 5 (ints [-1, 9, 10, 1000, 1001]) := by subst hL; exact rv_lit _ _ _ rfl (by simp) (by simp [maxLen])
    have hgw5 : g < w5.heap.size := hs.lt
    have q_b_L : w2.heap.size < w5.heap.size := hb_b.lt
    replace hs := hs.alloc L
    replace hg := gtrans hg (World.grownBy_alloc w5 L (some g))
    replace hb_R := hb_R.alloc L
    replace hb_b := hb_b.alloc L
    subst hL
    go_wp2_with fail
    refine (among_any _ _ _ _ _ _ _ hs (by omega) (by omega) (by omega) hrv (by intro b o hb; simp at hb; omega)).mono ?_
    rintro e w6 ⟨y, rfl, hy, hs', hg'⟩
    replace hb_R := hb_R.grown hg' (by simp; omega)
    replace hb_b := hb_b.grown hg' (by simp; omega)
    replace hg := gtrans hg hg'
    replace hs := hs'
    clear hs' hg'
    have c_R0 := hb_R.cell 0 _ rfl
    have f_R0 := hb_R.frozen 0
    have c_R1 := hb_R.cell 1 _ rfl
    have f_R1 := hb_R.frozen 1
    have c_R2 := hb_R.cell 2 _ rfl
    have f_R2 := hb_R.frozen 2
    have c_R3 := hb_R.cell 3 _ rfl
    have f_R3 := hb_R.frozen 3
    have c_b0 := hb_b.cell 0 _ rfl
    have f_b0 := hb_b.frozen 0
    have c_b1 := hb_b.cell 1 _ rfl
    have f_b1 := hb_b.frozen 1
    have c_b2 := hb_b.cell 2 _ rfl
    have f_b2 := hb_b.frozen 2
    have c_b3 := hb_b.cell 3 _ rfl
    have f_b3 := hb_b.frozen 3
    replace hb_R := hb_R.other (g := w2.heap.size) (i := 2) (by have := hb_b.lt; omega) (.int .i64 y)
    replace hs := hs.set (b := w2.heap.size) (by omega) 2 (.int .i64 y)
    replace hg : w.grownBy (w6.setCell ⟨w2.heap.size, 2, none⟩ (.int .i64 y)) (some g) := gset_past hg (by omega) 2 (.int .i64 y)
    replace hb_b := hb_b.set 2 (.int .i64 y)
    simp only [List.set_cons_zero, List.set_cons_succ] at hb_b
    go_wp2
    refine bodyPost_ret (v := .agg #[.int .i64 (1 + x1), .int .i64 (1 + x2), .int .i64 y, .int .i64 (2 + x4)]) (by simp [results, Tryd.results27, go_sem, c_R0, c_R1, c_R2, c_R3]) rfl ⟨_, _, _, _, rfl, ?_, ?_⟩
    · exact (((hs.set (by omega) 0 _).set (by omega) 1 _).set (by omega) 2 _).set (by omega) 3 _ |>.mono (by omega)
    · exact gset_past (gset_past (gset_past (gset_past hg (by omega) 0 _) (by omega) 1 _) (by omega) 2 _) (by omega) 3 _
  by_cases e3 : x5 = 3
  · subst e3
    obtain ⟨L, hL⟩ : ∃ L : Obj, L = .cells #[.int .i64 (-1), .int .i64 0, .int .i64 1, .int .i64 50, .int .i64 51] 2 := ⟨_, rfl⟩
    have hrv : RV (w5.alloc L) (some ⟨w5.heap.size, 0, none⟩) 5 5 (ints [-1, 0, 1, 50, 51]) := by subst hL; exact rv_lit _ _ _ rfl (by simp) (by simp [maxLen])
    have hgw5 : g < w5.heap.size := hs.lt
    have q_b_L : w2.heap.size < w5.heap.size := hb_b.lt
    replace hs := hs.alloc L
    replace hg := gtrans hg (World.grownBy_alloc w5 L (some g))
    replace hb_R := hb_R.alloc L
    replace hb_b := hb_b.alloc L
    subst hL
    go_wp2_with fail
    refine (among_any _ _ _ _ _ _ _ hs (by omega) (by omega) (by omega) hrv (by intro b o hb; simp at hb; omega)).mono ?_
    rintro e w6 ⟨y, rfl, hy, hs', hg'⟩
    replace hb_R := hb_R.grown hg' (by simp; omega)
    replace hb_b := hb_b.grown hg' (by simp; omega)
    replace hg := gtrans hg hg'
    replace hs := hs'
    clear hs' hg'
    have c_R0 := hb_R.cell 0 _ rfl
    have f_R0 := hb_R.frozen 0
    have c_R1 := hb_R.cell 1 _ rfl
    have f_R1 := hb_R.frozen 1
    have c_R2 := hb_R.cell 2 _ rfl
    have f_R2 := hb_R.frozen 2
    have c_R3 := hb_R.cell 3 _ rfl
    have f_R3 := hb_R.frozen 3
    have c_b0 := hb_b.cell 0 _ rfl
    have f_b0 := hb_b.frozen 0
    have c_b1 := hb_b.cell 1 _ rfl
    have f_b1 := hb_b.frozen 1
    have c_b2 := hb_b.cell 2 _ rfl
    have f_b2 := hb_b.frozen 2
    have c_b3 := hb_b.cell 3 _ rfl
    have f_b3 := hb_b.frozen 3
    replace hb_R := hb_R.other (g := w2.heap.size) (i := 3) (by have := hb_b.lt; omega) (.int .i64 y)
    replace hs := hs.set (b := w2.heap.size) (by omega) 3 (.int .i64 y)
    replace hg : w.grownBy (w6.setCell ⟨w2.heap.size, 3, none⟩ (.int .i64 y)) (some g) := gset_past hg (by omega) 3 (.int .i64 y)
    replace hb_b := hb_b.set 3 (.int .i64 y)
    simp only [List.set_cons_zero, List.set_cons_succ] at hb_b
    go_wp2
    refine bodyPost_ret (v := .agg #[.int .i64 (1 + x1), .int .i64 (1 + x2), .int .i64 (60 + 10 * x3), .int .i64 y]) (by simp [results, Tryd.results27, go_sem, c_R0, c_R1, c_R2, c_R3]) rfl ⟨_, _, _, _, rfl, ?_, ?_⟩
    · exact (((hs.set (by omega) 0 _).set (by omega) 1 _).set (by omega) 2 _).set (by omega) 3 _ |>.mono (by omega)
    · exact gset_past (gset_past (gset_past (gset_past hg (by omega) 0 _) (by omega) 1 _) (by omega) 2 _) (by omega) 3 _
  have n0 : (x5 == 0) = false := by simp [e0]
  have n1 : (x5 == 1) = false := by simp [e1]
  have n2 : (x5 == 2) = false := by simp [e2]
  have n3 : (x5 == 3) = false := by simp [e3]
  have c_R0 := hb_R.cell 0 _ rfl
  have f_R0 := hb_R.frozen 0
  have c_R1 := hb_R.cell 1 _ rfl
  have f_R1 := hb_R.frozen 1
  have c_R2 := hb_R.cell 2 _ rfl
  have f_R2 := hb_R.frozen 2
  have c_R3 := hb_R.cell 3 _ rfl
  have f_R3 := hb_R.frozen 3
  have c_b0 := hb_b.cell 0 _ rfl
  have c_b1 := hb_b.cell 1 _ rfl
  have c_b2 := hb_b.cell 2 _ rfl
  have c_b3 := hb_b.cell 3 _ rfl
  go_wp2
  refine bodyPost_ret (v := .agg #[.int .i64 (1 + x1), .int .i64 (1 + x2), .int .i64 (60 + 10 * x3), .int .i64 (2 + x4)]) (by simp [results, Tryd.results27, go_sem, c_R0, c_R1, c_R2, c_R3]) rfl ⟨_, _, _, _, rfl, ?_, ?_⟩
  · exact (((hs.set (by omega) 0 _).set (by omega) 1 _).set (by omega) 2 _).set (by omega) 3 _ |>.mono (by omega)
  · exact gset_past (gset_past (gset_past (gset_past hg (by omega) 0 _) (by omega) 1 _) (by omega) 2 _) (by omega) 3 _
end Go.Proofs.YtimomjkeknlcgaaDoor
