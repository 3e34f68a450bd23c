/-
  Drawn arguments of the functions over twills.
-/
import Derived.Test.YtflejjfkgkmcgaaGreatDoorTwillDraw
namespace Go.Proofs.YtflejjfkgkmcgaaGreatDoor
open Go Go.RowKit
set_option linter.unusedVariables false
set_option maxRecDepth 100000

/-- a drawn twill, the world left as it was -/
def DrawnB (w : World) (e : Ending) (w' : World) : Prop :=
  ∃ (v : Value) (ys : List Int) (st : Int), e = .returned (.agg #[v, .int .i64 st]) ∧ ys.length ≤ 12 ∧ Own w' w.heap.size w'.heap.size 2 v (ints ys) ∧ Below w.heap.size w w'

set_option maxHeartbeats 1000000 in
theorem DrawBackOf_any (p : Option Addr) (n c : Nat) (xs : List Int) (w : World) (hr : RV w p n c (xs.map (.int .u8))) (hb : ∀ x ∈ xs, 0 ≤ x ∧ x ≤ 255) :
    Calls Tryz.prog 10 #[.slice p n c] w (DrawnB w) := by
  have hB := (Below.refl w.heap.size w).alloc (Nat.le_refl _) (.cells #[.slice none 0 0, .int .i64 0] 26)
  have hb_R : Blk (w.alloc (.cells #[.slice none 0 0, .int .i64 0] 26)) w.heap.size [.slice none 0 0, .int .i64 0] 26 := Blk.box _ _ _ rfl
  replace hr := hr.below hB
  go_enter Tryz.func10, Tryz.ntmps10
  go_wp2_with fail
  with_reducible refine (l00From_any _ _ _ _ _ hr hb).mono ?_
  rintro e w1 ⟨rfl, hs, hB1⟩
  have hz1 := hB1.size
  have hz0 : w.heap.size < w1.heap.size := by simp at hz1; omega
  replace hb_R := hb_R.below hB1
  replace hB := hB.trans (hB1.mono (by simp))
  clear hB1 hr hz1
  simp only [World.size_alloc] at hs
  go_wp2_with fail
  with_reducible refine (l09Draw_any _ _ _ hs (by omega)).mono ?_
  rintro e w2 ⟨v, ys, st, rfl, hl, ho, hs2, hg⟩
  replace hb_R := hb_R.grown hg (by simp)
  have hzz := hB.size
  replace hB := hB.grown hg hB.size (by intro k hk; simp at hk; omega)
  have hz2 : w.heap.size < w2.heap.size := hb_R.lt
  obtain ⟨a, c1, rfl, _⟩ := ho.sliceI
  have c_R0 := hb_R.cell 0 _ rfl
  have f_R0 := hb_R.frozen 0
  have c_R1 := hb_R.cell 1 _ rfl
  have f_R1 := hb_R.frozen 1
  have HO := Lib.hid ho
  clear ho hg hs hs2
  go_wp2_with fail
  have Hblk2 := (hb_R.set 0 (.slice a ys.length c1)).set 1 (.int .i64 st)
  have g0 := Hblk2.cell 0 _ rfl
  have g1 := Hblk2.cell 1 _ rfl
  refine bodyPost_ret (v := .agg #[.slice a ys.length c1, .int .i64 st]) (by simp [results, Tryz.results10, go_sem, g0, g1]) rfl ⟨_, ys, _, rfl, hl, ?_, ?_⟩
  · exact ((HO.out.set (by omega) 0 _).set (by omega) 1 _).mono (by omega) (by simp)
  · exact (hB.setCell (Nat.le_refl _) _).setCell (Nat.le_refl _) _
/-! ### a drawn twill in a box, the source that drew it and the box of the result besides -/
def FD (w : World) (lo g rb b K : Nat) (v : Value) (ys : List Int) (st : Int) (wx : World) : Prop :=
  Src wx g K ∧ Below w.heap.size w wx ∧ Blk wx rb [.slice none 0 0, .int .i64 0] 26 ∧ Blk wx b [v, .int .i64 st] 26 ∧ wx.ownsRow lo 2 1 v ys.length (ints ys) ∧ g < lo ∧ w.heap.size ≤ rb ∧ rb < g ∧ lo ≤ b
theorem FD.next {w wx w' : World} {lo g rb b K K' : Nat} {v : Value} {ys : List Int} {st : Int} (h : FD w lo g rb b K v ys st wx) (hs : Src w' g K') (hg : wx.grownBy w' (some g)) : FD w lo g rb b K' v ys st w' := by
  obtain ⟨h1, h2, h3, h4, h5, h6, h7, h8, h9⟩ := h
  exact ⟨hs, h2.grown hg h2.size (by intro k hk; simp at hk; omega), h3.grown hg (by simp; omega), h4.grown hg (by simp; omega), owns_past' h5 hg h6, h6, h7, h8, h9⟩
theorem FD.alloc {w wx : World} {lo g rb b K : Nat} {v : Value} {ys : List Int} {st : Int} (h : FD w lo g rb b K v ys st wx) (o : Obj) : FD w lo g rb b K v ys st (wx.alloc o) := h.next (h.1.alloc o) (World.grownBy_alloc wx o (some g))
theorem FD.drew {w wx : World} {lo g rb b K : Nat} {v : Value} {ys : List Int} {st : Int} (h : FD w lo g rb b K v ys st wx) : FD w lo g rb b K v ys st wx.drew := h.next h.1.drew (gbelow (bdrewN (Below.refl _ _) 1) _)
theorem FD.src {w wx : World} {lo g rb b K : Nat} {v : Value} {ys : List Int} {st : Int} (h : FD w lo g rb b K v ys st wx) : Src wx g K := h.1
theorem FD.cell0 {w wx : World} {lo g rb b K : Nat} {v : Value} {ys : List Int} {st : Int} (h : FD w lo g rb b K v ys st wx) : wx.cell? ⟨b, 0, none⟩ = some v := h.2.2.2.1.cell 0 _ rfl
theorem FD.cell1 {w wx : World} {lo g rb b K : Nat} {v : Value} {ys : List Int} {st : Int} (h : FD w lo g rb b K v ys st wx) : wx.cell? ⟨b, 1, none⟩ = some (.int .i64 st) := h.2.2.2.1.cell 1 _ rfl
theorem FD.res {w wx : World} {lo g rb b K : Nat} {v : Value} {ys : List Int} {st : Int} (h : FD w lo g rb b K v ys st wx) : wx.cell? ⟨rb, 0, none⟩ = some (.slice none 0 0) ∧ wx.cell? ⟨rb, 1, none⟩ = some (.int .i64 0) ∧ wx.frozen? ⟨rb, 0, none⟩ = false ∧ wx.frozen? ⟨rb, 1, none⟩ = false ∧ rb ≠ b ∧ rb < wx.heap.size ∧ b < wx.heap.size :=
  ⟨h.2.2.1.cell 0 _ rfl, h.2.2.1.cell 1 _ rfl, h.2.2.1.frozen 0, h.2.2.1.frozen 1, by obtain ⟨_, _, _, _, _, h6, _, h8, h9⟩ := h; omega, h.2.2.1.lt, h.2.2.2.1.lt⟩
theorem FD.out {w wx : World} {lo g rb b K : Nat} {v : Value} {ys : List Int} {st : Int} (h : FD w lo g rb b K v ys st wx) :
    ((wx.setCell ⟨rb, 0, none⟩ v).setCell ⟨rb, 1, none⟩ (.int .i64 st)).cell? ⟨rb, 0, none⟩ = some v ∧ ((wx.setCell ⟨rb, 0, none⟩ v).setCell ⟨rb, 1, none⟩ (.int .i64 st)).cell? ⟨rb, 1, none⟩ = some (.int .i64 st) ∧
    Own ((wx.setCell ⟨rb, 0, none⟩ v).setCell ⟨rb, 1, none⟩ (.int .i64 st)) w.heap.size ((wx.setCell ⟨rb, 0, none⟩ v).setCell ⟨rb, 1, none⟩ (.int .i64 st)).heap.size 2 v (ints ys) ∧
    Below w.heap.size w ((wx.setCell ⟨rb, 0, none⟩ v).setCell ⟨rb, 1, none⟩ (.int .i64 st)) := by
  obtain ⟨h1, h2, h3, h4, h5, h6, h7, h8, h9⟩ := h
  have hk := (h3.set 0 v).set 1 (.int .i64 st)
  have ho := (h5.kept (gsetK wx rb 0 v) (.inr (owns_noblk' h5 h3 (by decide)))).kept (gsetK _ rb 1 (.int .i64 st)) (.inr (owns_noblk' h5 h3 (by decide)))
  have hO : Own ((wx.setCell ⟨rb, 0, none⟩ v).setCell ⟨rb, 1, none⟩ (.int .i64 st)) w.heap.size ((wx.setCell ⟨rb, 0, none⟩ v).setCell ⟨rb, 1, none⟩ (.int .i64 st)).heap.size 2 v (ints ys) := (by simpa using Own.of ho : Own ((wx.setCell ⟨rb, 0, none⟩ v).setCell ⟨rb, 1, none⟩ (.int .i64 st)) lo ((wx.setCell ⟨rb, 0, none⟩ v).setCell ⟨rb, 1, none⟩ (.int .i64 st)).heap.size 2 v (ints ys)).mono (by omega) (Nat.le_refl _)
  exact ⟨hk.cell 0 _ rfl, hk.cell 1 _ rfl, hO, (h2.setCell h7 _).setCell h7 _⟩

theorem tw2_set {w : World} {b rb : Nat} {v st x y : Value} (h : w.cell? ⟨b, 0, none⟩ = some v ∧ w.cell? ⟨b, 1, none⟩ = some st) (hne : rb ≠ b) : ((w.setCell ⟨rb, 0, none⟩ x).setCell ⟨rb, 1, none⟩ y).cell? ⟨b, 0, none⟩ = some v ∧ ((w.setCell ⟨rb, 0, none⟩ x).setCell ⟨rb, 1, none⟩ y).cell? ⟨b, 1, none⟩ = some st := by
  refine ⟨?_, ?_⟩
  · rw [World.cell?_setCell_other _ _ _ _ (by first | (simp; done) | (simp; omega)), World.cell?_setCell_other _ _ _ _ (by first | (simp; done) | (simp; omega))]; exact h.1
  · rw [World.cell?_setCell_other _ _ _ _ (by first | (simp; done) | (simp; omega)), World.cell?_setCell_other _ _ _ _ (by first | (simp; done) | (simp; omega))]; exact h.2

set_option maxHeartbeats 4000000 in
theorem DrawFaceOf_any (p : Option Addr) (n c : Nat) (xs : List Int) (w : World) (hr : RV w p n c (xs.map (.int .u8))) (hb : ∀ x ∈ xs, 0 ≤ x ∧ x ≤ 255) :
    Calls Tryz.prog 5 #[.slice p n c] w fun e w' => ∃ (v : Value) (ys : List Int) (st y z : Int), e = .returned (.tuple #[.agg #[v, .int .i64 st], .int .i64 y, .int .i64 z]) ∧ ys.length ≤ 12 ∧ Own w' w.heap.size w'.heap.size 2 v (ints ys) ∧ Below w.heap.size w w' := by
  have hB := (Below.refl w.heap.size w).alloc (Nat.le_refl _) (.cells #[.slice none 0 0, .int .i64 0] 26)
  have hb_R : Blk (w.alloc (.cells #[.slice none 0 0, .int .i64 0] 26)) w.heap.size [.slice none 0 0, .int .i64 0] 26 := Blk.box _ _ _ rfl
  replace hr := hr.below hB
  go_enter Tryz.func5, Tryz.ntmps5
  go_wp2_with fail
  with_reducible refine (l00From_any _ _ _ _ _ hr hb).mono ?_
  rintro e w1 ⟨rfl, hs, hB1⟩
  have hz1 := hB1.size
  have hz0 : w.heap.size < w1.heap.size := by simp at hz1; omega
  replace hb_R := hb_R.below hB1
  replace hB := hB.trans (hB1.mono (by simp))
  clear hB1 hr hz1
  simp only [World.size_alloc] at hs
  have hgl := hs.lt
  go_wp2_with fail
  with_reducible refine (l09Draw_any _ _ _ hs (by omega)).mono ?_
  rintro e w2 ⟨v, ys, st, rfl, hl, ho, hs2, hg⟩
  obtain ⟨a, c1, rfl, _⟩ := ho.sliceI
  obtain ⟨G, hG⟩ : ∃ G, w.heap.size + 1 = G := ⟨_, rfl⟩
  have HF : Hid (FD w w1.heap.size G w.heap.size w2.heap.size 40 (.slice a ys.length c1) ys st (w2.alloc (.cells #[.slice a ys.length c1, .int .i64 st] 26))) := Lib.hid (by
    rw [hG] at hs2 hg hgl
    have h2 := hB.grown hg hB.size (by intro k hk; simp at hk; omega)
    have h5 := ho.1
    rw [List.length_map] at h5
    exact ⟨hs2.alloc _, h2.alloc h2.size _, (hb_R.grown hg (by simp; omega)).alloc _, Blk.box _ [_, _] _ rfl, h5.alloc _, hgl, Nat.le_refl _, by omega, hg.size⟩)
  obtain ⟨B, hBB⟩ : ∃ B, w2.heap.size = B := ⟨_, rfl⟩
  rw [hBB] at HF
  clear ho hg hs hs2 hB hb_R
  go_wp2_with fail
  clear hG hBB
  with_reducible refine (pick_any _ _ _ _ HF.out.src (by omega) (by omega)).mono ?_
  rintro e w3 ⟨x, rfl, hx0, hx1, _, hs3, hg3⟩
  replace hx1 := hx1 (by omega)
  replace HF := Lib.hid (HF.out.next hs3 hg3)
  clear hs3 hg3
  go_wp2_with fail
  with_reducible refine (one_any _ _ _ _ HF.out.src (by omega) (by omega)).mono ?_
  rintro e w4 ⟨b1, rfl, hs4, hg4⟩
  replace HF := Lib.hid (HF.out.next hs4 hg4)
  clear hs4 hg4
  go_upto_if 16 with fail
  go_cut [7] (fun s7 wx => ∃ y : Int, s7 = .int .i64 y ∧ Hid (FD w w1.heap.size G w.heap.size B 50 (.slice a ys.length c1) ys st wx))
  case first =>
    cases b1
    · go_wp2_with fail
      go_meet
      exact ⟨_, rfl, Lib.hid (HF.out.next (HF.out.src.mono (by omega)) (World.grownBy.refl _ _))⟩
    · obtain ⟨L, hL⟩ : ∃ L : Obj, L = .cells #[.int .i64 (-1), .int .i64 0, .int .i64 1, .int .i64 40, .int .i64 41] 2 := ⟨_, rfl⟩
      have HL := Lib.hid (show RV (w4.alloc L) (some ⟨w4.heap.size, 0, none⟩) 5 5 (ints [-1, 0, 1, 40, 41]) by subst hL; exact rv_lit _ _ _ rfl (by simp) (by simp [maxLen]))
      have HF3 := Lib.hid (HF.out.alloc L)
      have hzg := HF.out.src.lt
      subst hL
      go_wp2_with fail
      with_reducible refine (among_any _ _ _ _ _ _ _ HF3.out.src (by omega) (by omega) (by omega) HL.out (by intro b o hb; simp at hb; omega)).mono ?_
      rintro e w5 ⟨y, rfl, _, hs5, hg5⟩
      have HF5 := Lib.hid (HF3.out.next hs5 hg5)
      clear HF3 HL hs5 hg5
      go_wp2_with fail
      go_meet
      exact ⟨_, rfl, Lib.hid (HF5.out.next (HF5.out.src.mono (by omega)) (World.grownBy.refl _ _))⟩
  clear HF
  obtain ⟨y, rfl, HF⟩ := hcut
  go_wp2_with fail
  with_reducible refine (one_any _ _ _ _ HF.out.src (by omega) (by omega)).mono ?_
  rintro e w6 ⟨b2, rfl, hs6, hg6⟩
  replace HF := Lib.hid (HF.out.next hs6 hg6)
  clear hs6 hg6
  cases b2
  · go_wp2_with fail
    have HS : Hid (w6.drew.cell? ⟨B, 0, none⟩ = some (.slice a ys.length c1) ∧ w6.drew.cell? ⟨B, 1, none⟩ = some (.int .i64 st)) := Lib.hid ⟨HF.out.drew.cell0, HF.out.drew.cell1⟩
    have hrbB := HF.out.res.2.2.2.2.1
    go_region_held3 (fun w' => w'.cell? ⟨B, 0, none⟩ = some (.slice a ys.length c1) ∧ w'.cell? ⟨B, 1, none⟩ = some (.int .i64 st)) (first | exact HS.out | exact HS7.out | exact tw2_set HS7.out hrbB | assumption) (first | (go_at_call 26; (with_reducible refine (pick_any _ _ _ _ HF.out.drew.src (by omega) (by omega)).mono ?_); rintro e w7 ⟨z, rfl, hz0, hz1, _, hs7, hg7⟩; have hz2 := hz1 (by omega); have HF7 := Lib.hid (HF.out.drew.next hs7 hg7); have HS7 : Hid (w7.cell? ⟨B, 0, none⟩ = some (.slice a ys.length c1) ∧ w7.cell? ⟨B, 1, none⟩ = some (.int .i64 st)) := Lib.hid ⟨HF7.out.cell0, HF7.out.cell1⟩; have hr := HF7.out.res; clear hs7 hg7 hz1))
    go_wp2_with fail
    obtain ⟨o0, o1, o2, o3⟩ := HF7.out.out
    exact bodyPost_ret (v := .tuple #[.agg #[.slice a ys.length c1, .int .i64 st], .int .i64 y, .int .i64 (IntKind.i64.wrap (1 + z))]) (by simp [results, Tryz.results5, go_sem, o0, o1]) rfl ⟨_, ys, _, _, _, rfl, hl, o2, o3⟩
  · go_wp2_with fail
    have HS : Hid (w6.drew.cell? ⟨B, 0, none⟩ = some (.slice a ys.length c1) ∧ w6.drew.cell? ⟨B, 1, none⟩ = some (.int .i64 st)) := Lib.hid ⟨HF.out.drew.cell0, HF.out.drew.cell1⟩
    have HL := Lib.hid (show RV (w6.alloc (.cells #[.int .i64 (-1), .int .i64 0, .int .i64 1, .int .i64 40, .int .i64 41] 2)).drew (some ⟨w6.heap.size, 0, none⟩) 5 5 (ints [-1, 0, 1, 40, 41]) from rv_lit w6 _ _ rfl (by simp) (by simp [maxLen]))
    have HF3 := Lib.hid (HF.out.alloc (.cells #[.int .i64 (-1), .int .i64 0, .int .i64 1, .int .i64 40, .int .i64 41] 2)).drew
    have HS3 := Lib.hid (show (w6.alloc (.cells #[.int .i64 (-1), .int .i64 0, .int .i64 1, .int .i64 40, .int .i64 41] 2)).drew.cell? ⟨B, 0, none⟩ = some (.slice a ys.length c1) ∧ (w6.alloc (.cells #[.int .i64 (-1), .int .i64 0, .int .i64 1, .int .i64 40, .int .i64 41] 2)).drew.cell? ⟨B, 1, none⟩ = some (.int .i64 st) from ⟨HF3.out.cell0, HF3.out.cell1⟩)
    have hzg := HF.out.src.lt
    have hrbB := HF.out.res.2.2.2.2.1
    go_region_held3 (fun w' => w'.cell? ⟨B, 0, none⟩ = some (.slice a ys.length c1) ∧ w'.cell? ⟨B, 1, none⟩ = some (.int .i64 st)) (first | exact HS.out | exact HS3.out | exact HS7.out | exact tw2_set HS7.out hrbB | assumption) (first | (go_at_call 28; (with_reducible refine (among_any _ _ _ _ _ _ _ HF3.out.src (by omega) (by omega) (by omega) HL.out (by intro b o hb; simp at hb; omega)).mono ?_); rintro e w7 ⟨z, rfl, _, hs7, hg7⟩; have HF7 := Lib.hid (HF3.out.next hs7 hg7); have HS7 : Hid (w7.cell? ⟨B, 0, none⟩ = some (.slice a ys.length c1) ∧ w7.cell? ⟨B, 1, none⟩ = some (.int .i64 st)) := Lib.hid ⟨HF7.out.cell0, HF7.out.cell1⟩; have hr := HF7.out.res; clear hs7 hg7))
    go_wp2_with fail
    obtain ⟨o0, o1, o2, o3⟩ := HF7.out.out
    exact bodyPost_ret (v := .tuple #[.agg #[.slice a ys.length c1, .int .i64 st], .int .i64 y, .int .i64 (z)]) (by simp [results, Tryz.results5, go_sem, o0, o1]) rfl ⟨_, ys, _, _, _, rfl, hl, o2, o3⟩
end Go.Proofs.YtflejjfkgkmcgaaGreatDoor
