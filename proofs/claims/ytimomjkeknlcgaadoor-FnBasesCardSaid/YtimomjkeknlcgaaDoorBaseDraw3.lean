/-
  The reference's drawings of a base, of stakes, and of a base with stakes.
-/
import Derived.Test.YtimomjkeknlcgaaDoorBaseDraw2
namespace Go.Proofs.YtimomjkeknlcgaaDoor
open Go.RowKit
set_option linter.unusedVariables false

theorem DrawRingsOf_any (p : Option Addr) (n c : Nat) (xs : List Int) (w : World) (hr : RV w p n c (xs.map (.int .u8))) (hb : ∀ x ∈ xs, 0 ≤ x ∧ x ≤ 255) :
    Calls Tryd.prog 9 #[.slice p n c] w fun e w' => ∃ t s r k : Int, e = .returned (.agg #[.int .i64 t, .int .i64 s, .int .i64 r, .int .i64 k]) ∧ Below w.heap.size w w' := by
  have hB : Below w.heap.size w w := Below.refl _ _
  obtain ⟨OB, hOB⟩ : ∃ OB : Obj, OB = .cells #[.int .i64 0, .int .i64 0, .int .i64 0, .int .i64 0] 25 := ⟨_, rfl⟩
  have hb_R : Blk (w.alloc OB) w.heap.size [.int .i64 0, .int .i64 0, .int .i64 0, .int .i64 0] 25 := by subst hOB; exact Blk.box _ _ _ rfl
  replace hB := hB.alloc (Nat.le_refl _) OB
  replace hr := hr.below ((Below.refl _ _).alloc (Nat.le_refl _) OB)
  subst hOB
  go_enter Tryd.func9, Tryd.ntmps9
  go_wp2_with fail
  refine (l00From_any _ _ _ _ _ hr hb).mono ?_
  rintro e w1 ⟨rfl, hs, hB1⟩
  have hz1 := hB1.size
  have hz0 : w.heap.size < w1.heap.size := by simp at hz1; omega
  replace hb_R := hb_R.below hB1
  replace hB := hB.trans (hB1.mono (by simp))
  clear hB1 hr hz1
  simp only [World.size_alloc] at hs
  go_wp2_with fail
  refine (l07Draw_any _ _ _ hs (by omega)).mono ?_
  rintro e w2 ⟨t, s, r, k, rfl, hs', hg'⟩
  replace hb_R := hb_R.grown hg' (by simp)
  replace hB := hB.grown hg' hB.size (by intro k hk; simp at hk; omega)
  have hz2 : w.heap.size < w2.heap.size := hb_R.lt
  replace hs := hs'
  have hz3 := hs.lt
  clear hs' hg'
  have c_R0 := hb_R.cell 0 _ rfl
  have f_R0 := hb_R.frozen 0
  have c_R1 := hb_R.cell 1 _ rfl
  have f_R1 := hb_R.frozen 1
  have c_R2 := hb_R.cell 2 _ rfl
  have f_R2 := hb_R.frozen 2
  have c_R3 := hb_R.cell 3 _ rfl
  have f_R3 := hb_R.frozen 3
  go_wp2
  refine bodyPost_ret (v := .agg #[.int .i64 t, .int .i64 s, .int .i64 r, .int .i64 k]) (by simp [results, Tryd.results9, go_sem, c_R0, c_R1, c_R2, c_R3]) rfl ⟨_, _, _, _, rfl, ?_⟩
  exact (((hB.setCell (p := ⟨w.heap.size, 0, none⟩) (Nat.le_refl _) _).setCell (p := ⟨w.heap.size, 1, none⟩) (Nat.le_refl _) _).setCell (p := ⟨w.heap.size, 2, none⟩) (Nat.le_refl _) _).setCell (p := ⟨w.heap.size, 3, none⟩) (Nat.le_refl _) _

set_option maxHeartbeats 1000000 in
theorem DrawBaseFor_any (p : Option Addr) (n c : Nat) (xs : List Int) (w : World) (hr : RV w p n c (xs.map (.int .u8))) (hb : ∀ x ∈ xs, 0 ≤ x ∧ x ≤ 255) :
    Calls Tryd.prog 14 #[.slice p n c] w fun e w' => ∃ i : Int, e = .returned (.int .i64 i) ∧ Below w.heap.size w w' := by
  have hB : Below w.heap.size w w := Below.refl _ _
  go_enter Tryd.func14, Tryd.ntmps14
  go_wp2_with fail
  refine (l00From_any _ _ _ _ _ hr hb).mono ?_
  rintro e w1 ⟨rfl, hs, hB1⟩
  replace hB := hB.trans hB1
  clear hB1 hr
  have hz3 := hs.lt
  go_wp2_with fail
  refine (one_any _ _ _ _ hs (by omega) (by omega)).mono ?_
  rintro e w2 ⟨x, rfl, hs', hg'⟩
  replace hB := hB.grown hg' hB.size (by intro k hk; simp at hk; omega)
  replace hs := hs'
  clear hs' hg'
  cases x
  · go_wp2_with fail
    refine (pick_any _ _ _ _ hs (by omega) (by omega)).mono ?_
    rintro e w3 ⟨y, rfl, l_y, u_y, _, hs', hg'⟩
    replace hB := hB.grown hg' hB.size (by intro k hk; simp at hk; omega)
    go_wp2
    go_ret
    exact ⟨_, rfl, hB⟩
  · obtain ⟨L, hL⟩ : ∃ L : Obj, L = .cells #[.int .i64 (-1), .int .i64 2, .int .i64 3, .int .i64 4, .int .i64 96, .int .i64 97, .int .i64 100, .int .i64 101, .int .i64 (-9223372036854775808)] 2 := ⟨_, rfl⟩
    have hrv : RV (w2.alloc L) (some ⟨w2.heap.size, 0, none⟩) 9 9 (ints [-1, 2, 3, 4, 96, 97, 100, 101, -9223372036854775808]) := by subst hL; exact rv_lit _ _ _ rfl (by simp) (by simp [maxLen])
    have hgw := hs.lt
    replace hs := hs.alloc L
    replace hB := hB.alloc hB.size L
    subst hL
    go_wp2_with fail
    with_reducible refine (among_any _ _ _ _ _ _ _ hs (by omega) (by omega) (by omega) hrv (by intro b o hb; simp at hb; omega)).mono ?_
    rintro e w3 ⟨y, rfl, hy, hs', hg'⟩
    replace hB := hB.grown hg' hB.size (by intro k hk; simp at hk; omega)
    go_wp2
    go_ret
    exact ⟨_, rfl, hB⟩

set_option maxHeartbeats 2000000 in
theorem DrawStakesFrom_any (p : Option Addr) (n c : Nat) (xs : List Int) (w : World) (hr : RV w p n c (xs.map (.int .u8))) (hb : ∀ x ∈ xs, 0 ≤ x ∧ x ≤ 255) :
    Calls Tryd.prog 17 #[.slice p n c] w fun e w' => ∃ t s r k a f : Int, e = .returned (.tuple #[.agg #[.int .i64 t, .int .i64 s, .int .i64 r, .int .i64 k], .int .i64 a, .int .i64 f]) ∧ Below w.heap.size w w' := by
  have hB : Below w.heap.size w w := Below.refl _ _
  obtain ⟨OB, hOB⟩ : ∃ OB : Obj, OB = .cells #[.int .i64 0, .int .i64 0, .int .i64 0, .int .i64 0] 25 := ⟨_, rfl⟩
  have hb_R : Blk (w.alloc OB) w.heap.size [.int .i64 0, .int .i64 0, .int .i64 0, .int .i64 0] 25 := by subst hOB; exact Blk.box _ _ _ rfl
  replace hB := hB.alloc (Nat.le_refl _) OB
  replace hr := hr.below ((Below.refl _ _).alloc (Nat.le_refl _) OB)
  subst hOB
  go_enter Tryd.func17, Tryd.ntmps17
  go_wp2_with fail
  refine (l00From_any _ _ _ _ _ hr hb).mono ?_
  rintro e w1 ⟨rfl, hs, hB1⟩
  have hz1 := hB1.size
  have hz0 : w.heap.size < w1.heap.size := by simp at hz1; omega
  replace hb_R := hb_R.below hB1
  replace hB := hB.trans (hB1.mono (by simp))
  clear hB1 hr hz1
  simp only [World.size_alloc] at hs
  go_wp2_with fail
  refine (l07Draw_any _ _ _ hs (by omega)).mono ?_
  rintro e w2 ⟨t, s, r, k, rfl, hs', hg'⟩
  replace hb_R := hb_R.grown hg' (by simp)
  replace hB := hB.grown hg' hB.size (by intro k hk; simp at hk; omega)
  have hz2 : w.heap.size < w2.heap.size := hb_R.lt
  replace hs := hs'
  have hz3 := hs.lt
  clear hs' hg'
  have hb_b : Blk (w2.alloc (.cells #[.int .i64 0, .int .i64 0, .int .i64 0, .int .i64 0] 25)) w2.heap.size [.int .i64 0, .int .i64 0, .int .i64 0, .int .i64 0] 25 := Blk.box _ _ _ rfl
  have c_b0 := hb_b.cell 0 _ rfl
  have f_b0 := hb_b.frozen 0
  have c_b1 := hb_b.cell 1 _ rfl
  have f_b1 := hb_b.frozen 1
  have c_b2 := hb_b.cell 2 _ rfl
  have f_b2 := hb_b.frozen 2
  have c_b3 := hb_b.cell 3 _ rfl
  have f_b3 := hb_b.frozen 3
  go_wp2_with fail
  clear c_b0 f_b0 c_b1 f_b1 c_b2 f_b2 c_b3 f_b3
  have hb_b : Blk (w2.alloc (.cells #[.int .i64 t, .int .i64 s, .int .i64 r, .int .i64 k] 25)) w2.heap.size [.int .i64 t, .int .i64 s, .int .i64 r, .int .i64 k] 25 := Blk.box _ _ _ rfl
  replace hb_R := hb_R.alloc (.cells #[.int .i64 t, .int .i64 s, .int .i64 r, .int .i64 k] 25)
  replace hs := hs.alloc (.cells #[.int .i64 t, .int .i64 s, .int .i64 r, .int .i64 k] 25)
  replace hB := hB.alloc hB.size (.cells #[.int .i64 t, .int .i64 s, .int .i64 r, .int .i64 k] 25)
  refine (one_any _ _ _ _ hs (by omega) (by omega)).mono ?_
  rintro e w3 ⟨x, rfl, hs', hg'⟩
  have hgw0 := hs.lt
  replace hb_R := hb_R.grown hg' (by first | (simp; done) | (simp; omega))
  replace hb_b := hb_b.grown hg' (by first | (simp; done) | (simp; omega))
  replace hB := hB.grown hg' hB.size (by intro k hk; simp at hk; omega)
  replace hs := hs'
  clear hs' hg'
  cases x
  · obtain ⟨L, hL⟩ : ∃ L : Obj, L = .cells #[.int .i64 1, .int .i64 2, .int .i64 2, .int .i64 0, .int .i64 3] 2 := ⟨_, rfl⟩
    obtain ⟨wx, hwx⟩ : ∃ x : World, x = w3 := ⟨_, rfl⟩
    rw [← hwx] at hs hb_R hb_b hB ⊢
    clear hwx
    have hrv : RV (wx.alloc L) (some ⟨wx.heap.size, 0, none⟩) 5 5 (ints [1, 2, 2, 0, 3]) := by subst hL; exact rv_lit _ _ _ rfl (by simp) (by simp [maxLen])
    have hgx := hs.lt
    replace hs := hs.alloc L
    replace hb_R := hb_R.alloc L
    replace hb_b := hb_b.alloc L
    replace hB := hB.alloc hB.size L
    subst hL
    go_wp2_with fail
    with_reducible refine (among_any _ _ _ _ _ _ _ hs (by omega) (by omega) (by omega) hrv (by intro b o hb; simp at hb; omega)).mono ?_
    rintro e w5 ⟨each, rfl, hy, hs', hg'⟩
    replace hb_R := hb_R.grown hg' (by first | (simp; done) | (simp; omega))
    replace hb_b := hb_b.grown hg' (by first | (simp; done) | (simp; omega))
    replace hB := hB.grown hg' hB.size (by intro k hk; simp at hk; omega)
    replace hs := hs'
    clear hs' hg' hrv hy
    go_wp2_with fail
    have HS0 := Lib.hid (b4cells hb_b.drew)
    replace hs := hs.drew
    replace hb_R := hb_R.drew
    replace hb_b := hb_b.drew
    replace hB := hB.drew
    refine wp_region_head (fun w' => w'.cell? ⟨w2.heap.size, 0, none⟩ = some (.int .i64 t) ∧ w'.cell? ⟨w2.heap.size, 1, none⟩ = some (.int .i64 s) ∧ w'.cell? ⟨w2.heap.size, 2, none⟩ = some (.int .i64 r) ∧ w'.cell? ⟨w2.heap.size, 3, none⟩ = some (.int .i64 k)) 6 (by kernel_rfl) (by decide) ?_
    generalize hwd : World.drew w5 = wd at hs hb_R hb_b hB HS0 ⊢
    have hgw := hs.lt
    have hR2 : w.heap.size < w2.heap.size := hz2
    clear hwd
    refine wpHead_take (i := 0) (v := ?_) rfl (by kernel_rfl) (fun _ _ _ h => h) (Or.inl ⟨by rfl, ?_⟩) HS0.out ?_
    rotate_left
    · intro w hSw; (try dsimp only at hSw); go_simp; (try with_reducible rfl)
    (try simp only [Act.put, List.setIfInBounds_toArray, List.set_cons_zero, List.set_cons_succ])
    refine wpHead_take (i := 1) (v := ?_) rfl (by kernel_rfl) (fun _ _ _ h => h) (Or.inl ⟨by rfl, ?_⟩) HS0.out ?_
    rotate_left
    · intro w hSw; (try dsimp only at hSw); go_simp; (try with_reducible rfl)
    (try simp only [Act.put, List.setIfInBounds_toArray, List.set_cons_zero, List.set_cons_succ])
    refine wpHead_take (i := 2) (v := ?_) rfl (by kernel_rfl) (fun _ _ _ h => h) (Or.inl ⟨by rfl, ?_⟩) HS0.out ?_
    rotate_left
    · intro w hSw; (try dsimp only at hSw); go_simp; (try with_reducible rfl)
    (try simp only [Act.put, List.setIfInBounds_toArray, List.set_cons_zero, List.set_cons_succ])
    refine wpHead_one (i := 3) (by kernel_rfl) (by decide) rfl (fun K hK => ?_)
    go_simp
    obtain ⟨L, hL⟩ : ∃ L : Obj, L = .cells #[.int .i64 0, .int .i64 1, .int .i64 2, .int .i64 4, .int .i64 (-1), .int .i64 5] 2 := ⟨_, rfl⟩
    have hrv : RV (wd.alloc L) (some ⟨wd.heap.size, 0, none⟩) 6 6 (ints [0, 1, 2, 4, -1, 5]) := by subst hL; exact rv_lit _ _ _ rfl (by simp) (by simp [maxLen])
    replace hs := hs.alloc L
    replace hb_R := hb_R.alloc L
    replace hb_b := hb_b.alloc L
    replace hB := hB.alloc hB.size L
    subst hL
    have HS1 := Lib.hid (b4cells hb_b)
    refine hK.out _ _ HS1.out ?_
    clear hK K
    (try simp only [Act.put, List.setIfInBounds_toArray, List.set_cons_zero, List.set_cons_succ])
    refine wpHead_one (i := 4) (by kernel_rfl) (by decide) rfl (fun K hK => ?_)
    go_simp
    with_reducible refine (among_any _ _ _ _ _ _ _ hs (by omega) (by omega) (by omega) hrv (by intro b o hb; simp at hb; omega)).mono ?_
    rintro e w6 ⟨y, rfl, hy, hs', hg'⟩
    replace hb_R := hb_R.grown hg' (by first | (simp; done) | (simp; omega))
    replace hb_b := hb_b.grown hg' (by first | (simp; done) | (simp; omega))
    replace hB := hB.grown hg' hB.size (by intro k hk; simp at hk; omega)
    replace hs := hs'
    clear hs' hg'
    have HS2 := Lib.hid (b4cells hb_b)
    refine hK.out _ _ HS2.out ?_
    clear hK K
    (try simp only [Act.put, List.setIfInBounds_toArray, List.set_cons_zero, List.set_cons_succ])
    have c_R0 := hb_R.cell 0 _ rfl
    have f_R0 := hb_R.frozen 0
    have c_R1 := hb_R.cell 1 _ rfl
    have f_R1 := hb_R.frozen 1
    have c_R2 := hb_R.cell 2 _ rfl
    have f_R2 := hb_R.frozen 2
    have c_R3 := hb_R.cell 3 _ rfl
    have f_R3 := hb_R.frozen 3
    refine wpHead_one (i := 5) (by kernel_rfl) (by decide) rfl (fun K hK => ?_)
    go_simp
    have hb_b2 := (((hb_b.other (g := w.heap.size) (i := 0) (by omega) (.int .i64 t)).other (g := w.heap.size) (i := 1) (by omega) (.int .i64 s)).other (g := w.heap.size) (i := 2) (by omega) (.int .i64 r)).other (g := w.heap.size) (i := 3) (by omega) (.int .i64 k)
    refine hK.out _ _ (b4cells hb_b2) ?_
    clear hK K hb_b2
    (try simp only [Act.put, List.setIfInBounds_toArray, List.set_cons_zero, List.set_cons_succ])
    refine wpHead_done (by kernel_rfl) ?_
    simp only [List.drop_succ_cons, List.drop_zero]
    go_wp2
    refine bodyPost_ret (v := .tuple #[.agg #[.int .i64 t, .int .i64 s, .int .i64 r, .int .i64 k], .int .i64 each, .int .i64 y]) (by simp [results, Tryd.results17, go_sem, c_R0, c_R1, c_R2, c_R3]) rfl ⟨_, _, _, _, _, _, rfl, ?_⟩
    exact (((hB.setCell (p := ⟨w.heap.size, 0, none⟩) (Nat.le_refl _) _).setCell (p := ⟨w.heap.size, 1, none⟩) (Nat.le_refl _) _).setCell (p := ⟨w.heap.size, 2, none⟩) (Nat.le_refl _) _).setCell (p := ⟨w.heap.size, 3, none⟩) (Nat.le_refl _) _
  · have c_b0 := hb_b.cell 0 _ rfl
    have f_b0 := hb_b.frozen 0
    have c_b1 := hb_b.cell 1 _ rfl
    have f_b1 := hb_b.frozen 1
    replace hb_R := (hb_R.other (g := w2.heap.size) (i := 0) (by omega) (.int .i64 1)).other (g := w2.heap.size) (i := 1) (by omega) (.int .i64 1)
    replace hs := (hs.set (b := w2.heap.size) (by omega) 0 (.int .i64 1)).set (b := w2.heap.size) (by omega) 1 (.int .i64 1)
    replace hB := (Below.setCell (p := ⟨w2.heap.size, 0, none⟩) hB (by simp; omega) (.int .i64 1)).setCell (p := ⟨w2.heap.size, 1, none⟩) (by simp; omega) (.int .i64 1)
    replace hb_b := (hb_b.set 0 (.int .i64 1)).set 1 (.int .i64 1)
    simp only [List.set_cons_zero, List.set_cons_succ] at hb_b
    obtain ⟨L, hL⟩ : ∃ L : Obj, L = .cells #[.int .i64 1, .int .i64 2, .int .i64 2, .int .i64 0, .int .i64 3] 2 := ⟨_, rfl⟩
    obtain ⟨wx, hwx⟩ : ∃ x : World, x = ((w3.setCell ⟨w2.heap.size, 0, none⟩ (.int .i64 1)).setCell ⟨w2.heap.size, 1, none⟩ (.int .i64 1)) := ⟨_, rfl⟩
    rw [← hwx] at hs hb_R hb_b hB
    have hrv : RV (wx.alloc L) (some ⟨wx.heap.size, 0, none⟩) 5 5 (ints [1, 2, 2, 0, 3]) := by subst hL; exact rv_lit _ _ _ rfl (by simp) (by simp [maxLen])
    have hgx := hs.lt
    replace hs := hs.alloc L
    replace hb_R := hb_R.alloc L
    replace hb_b := hb_b.alloc L
    replace hB := hB.alloc hB.size L
    subst hL
    have hwz : wx.heap.size = w3.heap.size := by rw [hwx]; simp
    rw [hwz] at hrv
    go_wp2_with fail
    clear c_b0 f_b0 c_b1 f_b1
    rw [← hwx]
    with_reducible refine (among_any _ _ _ _ _ _ _ hs (by omega) (by omega) (by omega) hrv (by intro b o hb; simp at hb; omega)).mono ?_
    rintro e w5 ⟨each, rfl, hy, hs', hg'⟩
    replace hb_R := hb_R.grown hg' (by first | (simp; done) | (simp; omega))
    replace hb_b := hb_b.grown hg' (by first | (simp; done) | (simp; omega))
    replace hB := hB.grown hg' hB.size (by intro k hk; simp at hk; omega)
    replace hs := hs'
    clear hs' hg' hrv hy
    go_wp2_with fail
    have HS0 := Lib.hid (b4cells hb_b.drew)
    replace hs := hs.drew
    replace hb_R := hb_R.drew
    replace hb_b := hb_b.drew
    replace hB := hB.drew
    refine wp_region_head (fun w' => w'.cell? ⟨w2.heap.size, 0, none⟩ = some (.int .i64 1) ∧ w'.cell? ⟨w2.heap.size, 1, none⟩ = some (.int .i64 1) ∧ w'.cell? ⟨w2.heap.size, 2, none⟩ = some (.int .i64 r) ∧ w'.cell? ⟨w2.heap.size, 3, none⟩ = some (.int .i64 k)) 6 (by kernel_rfl) (by decide) ?_
    generalize hwd : World.drew w5 = wd at hs hb_R hb_b hB HS0 ⊢
    have hgw := hs.lt
    have hR2 : w.heap.size < w2.heap.size := hz2
    clear hwd
    refine wpHead_take (i := 0) (v := ?_) rfl (by kernel_rfl) (fun _ _ _ h => h) (Or.inl ⟨by rfl, ?_⟩) HS0.out ?_
    rotate_left
    · intro w hSw; (try dsimp only at hSw); go_simp; (try with_reducible rfl)
    (try simp only [Act.put, List.setIfInBounds_toArray, List.set_cons_zero, List.set_cons_succ])
    refine wpHead_take (i := 1) (v := ?_) rfl (by kernel_rfl) (fun _ _ _ h => h) (Or.inl ⟨by rfl, ?_⟩) HS0.out ?_
    rotate_left
    · intro w hSw; (try dsimp only at hSw); go_simp; (try with_reducible rfl)
    (try simp only [Act.put, List.setIfInBounds_toArray, List.set_cons_zero, List.set_cons_succ])
    refine wpHead_take (i := 2) (v := ?_) rfl (by kernel_rfl) (fun _ _ _ h => h) (Or.inl ⟨by rfl, ?_⟩) HS0.out ?_
    rotate_left
    · intro w hSw; (try dsimp only at hSw); go_simp; (try with_reducible rfl)
    (try simp only [Act.put, List.setIfInBounds_toArray, List.set_cons_zero, List.set_cons_succ])
    refine wpHead_one (i := 3) (by kernel_rfl) (by decide) rfl (fun K hK => ?_)
    go_simp
    obtain ⟨L, hL⟩ : ∃ L : Obj, L = .cells #[.int .i64 0, .int .i64 1, .int .i64 2, .int .i64 4, .int .i64 (-1), .int .i64 5] 2 := ⟨_, rfl⟩
    have hrv : RV (wd.alloc L) (some ⟨wd.heap.size, 0, none⟩) 6 6 (ints [0, 1, 2, 4, -1, 5]) := by subst hL; exact rv_lit _ _ _ rfl (by simp) (by simp [maxLen])
    replace hs := hs.alloc L
    replace hb_R := hb_R.alloc L
    replace hb_b := hb_b.alloc L
    replace hB := hB.alloc hB.size L
    subst hL
    have HS1 := Lib.hid (b4cells hb_b)
    refine hK.out _ _ HS1.out ?_
    clear hK K
    (try simp only [Act.put, List.setIfInBounds_toArray, List.set_cons_zero, List.set_cons_succ])
    refine wpHead_one (i := 4) (by kernel_rfl) (by decide) rfl (fun K hK => ?_)
    go_simp
    with_reducible refine (among_any _ _ _ _ _ _ _ hs (by omega) (by omega) (by omega) hrv (by intro b o hb; simp at hb; omega)).mono ?_
    rintro e w6 ⟨y, rfl, hy, hs', hg'⟩
    replace hb_R := hb_R.grown hg' (by first | (simp; done) | (simp; omega))
    replace hb_b := hb_b.grown hg' (by first | (simp; done) | (simp; omega))
    replace hB := hB.grown hg' hB.size (by intro k hk; simp at hk; omega)
    replace hs := hs'
    clear hs' hg'
    have HS2 := Lib.hid (b4cells hb_b)
    refine hK.out _ _ HS2.out ?_
    clear hK K
    (try simp only [Act.put, List.setIfInBounds_toArray, List.set_cons_zero, List.set_cons_succ])
    have c_R0 := hb_R.cell 0 _ rfl
    have f_R0 := hb_R.frozen 0
    have c_R1 := hb_R.cell 1 _ rfl
    have f_R1 := hb_R.frozen 1
    have c_R2 := hb_R.cell 2 _ rfl
    have f_R2 := hb_R.frozen 2
    have c_R3 := hb_R.cell 3 _ rfl
    have f_R3 := hb_R.frozen 3
    refine wpHead_one (i := 5) (by kernel_rfl) (by decide) rfl (fun K hK => ?_)
    go_simp
    have hb_b2 := (((hb_b.other (g := w.heap.size) (i := 0) (by omega) (.int .i64 1)).other (g := w.heap.size) (i := 1) (by omega) (.int .i64 1)).other (g := w.heap.size) (i := 2) (by omega) (.int .i64 r)).other (g := w.heap.size) (i := 3) (by omega) (.int .i64 k)
    refine hK.out _ _ (b4cells hb_b2) ?_
    clear hK K hb_b2
    (try simp only [Act.put, List.setIfInBounds_toArray, List.set_cons_zero, List.set_cons_succ])
    refine wpHead_done (by kernel_rfl) ?_
    simp only [List.drop_succ_cons, List.drop_zero]
    go_wp2
    refine bodyPost_ret (v := .tuple #[.agg #[.int .i64 1, .int .i64 1, .int .i64 r, .int .i64 k], .int .i64 each, .int .i64 y]) (by simp [results, Tryd.results17, go_sem, c_R0, c_R1, c_R2, c_R3]) rfl ⟨_, _, _, _, _, _, rfl, ?_⟩
    exact (((hB.setCell (p := ⟨w.heap.size, 0, none⟩) (Nat.le_refl _) _).setCell (p := ⟨w.heap.size, 1, none⟩) (Nat.le_refl _) _).setCell (p := ⟨w.heap.size, 2, none⟩) (Nat.le_refl _) _).setCell (p := ⟨w.heap.size, 3, none⟩) (Nat.le_refl _) _
end Go.Proofs.YtimomjkeknlcgaaDoor
