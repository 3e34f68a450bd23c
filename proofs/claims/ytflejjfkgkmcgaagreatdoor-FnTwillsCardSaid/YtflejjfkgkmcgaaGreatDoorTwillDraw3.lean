/-
  Two drawn twills: one and its copy, changed or not.
-/
import Derived.Test.YtflejjfkgkmcgaaGreatDoorTwillDraw2
import Derived.BigRegion
namespace Go.Proofs.YtflejjfkgkmcgaaGreatDoor
open Go Go.RowKit
set_option linter.unusedVariables false
set_option maxRecDepth 100000

/-- a copy: it lies in a block of its own -/
theorem l00OwnT_any (a : Option Addr) (n c : Nat) (xs : List Int) (w : World) (hn : n ≤ 1000000) (hnil : a = none → n = 0 ∧ c = 0) (ha : RV w a n c (ints xs)) :
    Calls Tryz.prog 49 #[.slice a n c] w fun e w' => ∃ v : Value, e = .returned v ∧ Own w' w.heap.size w'.heap.size 2 v (ints xs) ∧ Below w.heap.size w w' := by
  have hown := owns_empty (w := w) (e := 2) (size := 1) rfl (Nat.le_refl _)
  have ha2 : RV (w.alloc (.cells #[] 2)) a n c (ints xs) := ha.below ((Below.refl _ _).alloc (Nat.le_refl _) _)
  have Ha := Lib.hid ha2
  clear ha ha2
  go_enter Tryz.func49, Tryz.ntmps49
  go_wp2_with (at_builtin; refine wpList_appN rfl _ _ 24 rfl w.heap.size 2 _ 8 Tryz.underlying24 info_i64 (by decide) rfl _ 0 _ rfl hown a n c (ints xs) rfl Ha.out hnil ?c1 ?c2 ?c3 ?_)
  case c1 => intro u hu; obtain ⟨x, _, rfl⟩ := List.mem_map.1 hu; rfl
  case c2 => omega
  case c3 => simp
  intro v1 w1 hown1 hgrow _
  have hb1 := below_app ((Below.refl w.heap.size w).alloc (Nat.le_refl _) (.cells #[] 2)) hown hgrow (Nat.le_refl _) (by simp)
  clear hgrow
  go_wp2
  go_ret
  exact ⟨_, rfl, Own.of hown1, hb1⟩
theorem own_nilT {w : World} {lo hi n c : Nat} {a : Option Addr} {e : TypeId} {vs : List Value} (h : Own w lo hi e (.slice a n c) vs) : a = none → n = 0 ∧ c = 0 := by
  intro ha
  rcases h.1.2 with ⟨h1, _⟩ | ⟨g, cap, cur, h1, _⟩
  · simp only [Value.slice.injEq] at h1; exact ⟨h1.2.1, h1.2.2⟩
  · simp only [Value.slice.injEq] at h1; rw [ha] at h1; exact absurd h1.1 (by simp)

/-- two twills in their boxes, the second with a row of its own, and the boxes of the results -/
def SD (w : World) (lo H g rb A B K : Nat) (va vc vb : Value) (xs ys : List Int) (st st' : Int) (wx : World) : Prop :=
  Src wx g K ∧ Below w.heap.size w wx ∧ Blk wx rb [.slice none 0 0, .int .i64 0] 26 ∧ Blk wx (rb + 1) [.slice none 0 0, .int .i64 0] 26 ∧ Blk wx A [va, .int .i64 st] 26 ∧ Blk wx B [vc, .int .i64 st'] 26 ∧
    Own wx lo H 2 va (ints xs) ∧ wx.ownsRow H 2 1 vb ys.length (ints ys) ∧ g < lo ∧ lo ≤ H ∧ w.heap.size ≤ rb ∧ rb + 1 < g ∧ lo ≤ A ∧ lo ≤ B ∧ A ≠ B
section
variable {w wx w' : World} {lo H g rb A B K K' : Nat} {va vc vb : Value} {xs ys : List Int} {st st' : Int}
theorem SD.next (h : SD w lo H g rb A B K va vc vb xs ys st st' wx) (hs : Src w' g K') (hg : wx.grownBy w' (some g)) : SD w lo H g rb A B K' va vc vb xs ys st st' w' := by
  obtain ⟨h1, h2, h3, h4, h5, h6, h7, h8, h9, h10, h11, h12, h13, h14, h15⟩ := h
  exact ⟨hs, h2.grown hg h2.size (by intro k hk; simp at hk; omega), h3.grown hg (by simp; omega), h4.grown hg (by simp; omega), h5.grown hg (by simp; omega), h6.grown hg (by simp; omega), h7.kept hg (by intro k hk; simp at hk; omega), owns_past' h8 hg (by omega), h9, h10, h11, h12, h13, h14, h15⟩
theorem SD.alloc (h : SD w lo H g rb A B K va vc vb xs ys st st' wx) (o : Obj) : SD w lo H g rb A B K va vc vb xs ys st st' (wx.alloc o) := h.next (h.1.alloc o) (World.grownBy_alloc wx o (some g))
theorem SD.src (h : SD w lo H g rb A B K va vc vb xs ys st st' wx) : Src wx g K := h.1
theorem SD.mono (h : SD w lo H g rb A B K va vc vb xs ys st st' wx) (hk : K ≤ K') : SD w lo H g rb A B K' va vc vb xs ys st st' wx := h.next (h.1.mono hk) (World.grownBy.refl _ _)
theorem SD.own (h : SD w lo H g rb A B K va vc vb xs ys st st' wx) : wx.ownsRow H 2 1 vb ys.length (ints ys) := h.2.2.2.2.2.2.2.1
theorem owns_setT {w : World} {lo n b : Nat} {e : TypeId} {v : Value} {vs : List Value} (h : w.ownsRow lo e 1 v n vs) (hb : v.ownBlock ≠ some b) (i : Nat) (u : Value) : (w.setCell ⟨b, i, none⟩ u).ownsRow lo e 1 v n vs := h.kept (gsetK w b i u) (.inr hb)
theorem SD.app {vb' : Value} {zs : List Int} (h : SD w lo H g rb A B K va vc vb xs ys st st' wx) (ho : w'.ownsRow H 2 1 vb' zs.length (ints zs)) (hg : wx.grownBy w' vb.ownBlock) : SD w lo H g rb A B K va vc vb' xs zs st st' w' := by
  obtain ⟨h1, h2, h3, h4, h5, h6, h7, h8, h9, h10, h11, h12, h13, h14, h15⟩ := h
  have hlo : ∀ k, vb.ownBlock = some k → H ≤ k := fun k hk => (h8.lt k hk).1
  have hs3 := h3.lt
  have hB : Below lo wx w' := (Below.refl _ _).grown hg (by have := h5.lt; omega) (fun k hk => by have := hlo k hk; omega)
  exact ⟨h1.keptB hB h9, h2.grown hg h2.size (fun k hk => by have := hlo k hk; omega), h3.grown hg (owns_noblk' h8 h3 (by decide)).symm, h4.grown hg (owns_noblk' h8 h4 (by decide)).symm, h5.grown hg (owns_noblk' h8 h5 (by decide)).symm, h6.grown hg (owns_noblk' h8 h6 (by decide)).symm, h7.kept hg (fun k hk => by have := hlo k hk; omega), ho, h9, h10, h11, h12, h13, h14, h15⟩
theorem SD.put0 (h : SD w lo H g rb A B K va vc vb xs ys st st' wx) : SD w lo H g rb A B K va vb vb xs ys st st' (wx.setCell ⟨B, 0, none⟩ vb) := by
  obtain ⟨h1, h2, h3, h4, h5, h6, h7, h8, h9, h10, h11, h12, h13, h14, h15⟩ := h
  exact ⟨h1.set (by omega) 0 _, h2.setCell (p := ⟨B, 0, none⟩) (show w.heap.size ≤ B by omega) _, h3.other (by omega) _, h4.other (by omega) _, h5.other h15 _, h6.set 0 _, ⟨h7.1.kept (gsetK wx B 0 _) (.inr (owns_noblk' h7.1 h6 (by decide))), h7.2⟩, h8.kept (gsetK wx B 0 _) (.inr (owns_noblk' h8 h6 (by decide))), h9, h10, h11, h12, h13, h14, h15⟩
theorem SD.put1 (h : SD w lo H g rb A B K va vc vb xs ys st st' wx) (s : Int) : SD w lo H g rb A B K va vc vb xs ys st s (wx.setCell ⟨B, 1, none⟩ (.int .i64 s)) := by
  obtain ⟨h1, h2, h3, h4, h5, h6, h7, h8, h9, h10, h11, h12, h13, h14, h15⟩ := h
  exact ⟨h1.set (by omega) 1 _, h2.setCell (p := ⟨B, 1, none⟩) (show w.heap.size ≤ B by omega) _, h3.other (by omega) _, h4.other (by omega) _, h5.other h15 _, h6.set 1 _, ⟨h7.1.kept (gsetK wx B 1 _) (.inr (owns_noblk' h7.1 h6 (by decide))), h7.2⟩, h8.kept (gsetK wx B 1 _) (.inr (owns_noblk' h8 h6 (by decide))), h9, h10, h11, h12, h13, h14, h15⟩
/-- what a walk reads -/
theorem SD.facts (h : SD w lo H g rb A B K va vc vb xs ys st st' wx) : (wx.cell? ⟨A, 0, none⟩ = some va ∧ wx.cell? ⟨A, 1, none⟩ = some (.int .i64 st) ∧ wx.cell? ⟨B, 0, none⟩ = some vc ∧ wx.cell? ⟨B, 1, none⟩ = some (.int .i64 st') ∧ wx.frozen? ⟨B, 0, none⟩ = false ∧ wx.frozen? ⟨B, 1, none⟩ = false) ∧
    (wx.cell? ⟨rb, 0, none⟩ = some (.slice none 0 0) ∧ wx.cell? ⟨rb, 1, none⟩ = some (.int .i64 0) ∧ wx.frozen? ⟨rb, 0, none⟩ = false ∧ wx.frozen? ⟨rb, 1, none⟩ = false ∧ wx.cell? ⟨rb + 1, 0, none⟩ = some (.slice none 0 0) ∧ wx.cell? ⟨rb + 1, 1, none⟩ = some (.int .i64 0) ∧ wx.frozen? ⟨rb + 1, 0, none⟩ = false ∧ wx.frozen? ⟨rb + 1, 1, none⟩ = false) ∧
    (A ≠ B ∧ rb ≠ A ∧ rb ≠ B ∧ rb + 1 ≠ A ∧ rb + 1 ≠ B ∧ rb < wx.heap.size ∧ rb + 1 < wx.heap.size ∧ A < wx.heap.size ∧ B < wx.heap.size) := by
  obtain ⟨h1, h2, h3, h4, h5, h6, h7, h8, h9, h10, h11, h12, h13, h14, h15⟩ := h
  exact ⟨⟨h5.cell 0 _ rfl, h5.cell 1 _ rfl, h6.cell 0 _ rfl, h6.cell 1 _ rfl, h6.frozen 0, h6.frozen 1⟩, ⟨h3.cell 0 _ rfl, h3.cell 1 _ rfl, h3.frozen 0, h3.frozen 1, h4.cell 0 _ rfl, h4.cell 1 _ rfl, h4.frozen 0, h4.frozen 1⟩, h15, by omega, by omega, by omega, by omega, h3.lt, h4.lt, h5.lt, h6.lt⟩
/-- the results are stored and read -/
theorem SD.fin0 (h : SD w lo H g rb A B K va vc vb xs ys st st' wx) : ∃ Y, Y = ((((wx.setCell ⟨rb, 0, none⟩ va).setCell ⟨rb, 1, none⟩ (.int .i64 st)).setCell ⟨rb + 1, 0, none⟩ vb).setCell ⟨rb + 1, 1, none⟩ (.int .i64 st')) ∧
    Blk Y rb [va, .int .i64 st] 26 ∧ Blk Y (rb + 1) [vb, .int .i64 st'] 26 ∧ Own Y w.heap.size Y.heap.size 2 va (ints xs) ∧ Own Y w.heap.size Y.heap.size 2 vb (ints ys) ∧ Below w.heap.size w Y := by
  obtain ⟨h1, h2, h3, h4, h5, h6, h7, h8, h9, h10, h11, h12, h13, h14, h15⟩ := h
  have na3 := owns_noblk' h7.1 h3 (by decide)
  have na4 := owns_noblk' h7.1 h4 (by decide)
  have nb3 := owns_noblk' h8 h3 (by decide)
  have nb4 := owns_noblk' h8 h4 (by decide)
  have n1 : rb ≠ rb + 1 := by omega
  have n2 : rb + 1 ≠ rb := by omega
  have hz := h2.size
  have oa := owns_mono h7.1 (show w.heap.size ≤ lo by omega)
  have ob := owns_mono h8 (show w.heap.size ≤ H by omega)
  clear h1 h5 h6 h7 h8
  have a1 := h3.set 0 va
  have b1 := h4.other n2 (i := 0) va
  have c1 := owns_setT oa na3 0 va
  have d1 := owns_setT ob nb3 0 va
  have e1 := h2.setCell (p := ⟨rb, 0, none⟩) h11 va
  clear h2 h3 h4 oa ob
  generalize wx.setCell ⟨rb, 0, none⟩ va = w1 at *
  have a2 := a1.set 1 (.int .i64 st)
  have b2 := b1.other n2 (i := 1) (.int .i64 st)
  have c2 := owns_setT c1 na3 1 (.int .i64 st)
  have d2 := owns_setT d1 nb3 1 (.int .i64 st)
  have e2 := e1.setCell (p := ⟨rb, 1, none⟩) h11 (.int .i64 st)
  clear a1 b1 c1 d1 e1
  generalize w1.setCell ⟨rb, 1, none⟩ (.int .i64 st) = w2 at *
  have a3 := a2.other n1 (i := 0) vb
  have b3 := b2.set 0 vb
  have c3 := owns_setT c2 na4 0 vb
  have d3 := owns_setT d2 nb4 0 vb
  have e3 := e2.setCell (p := ⟨rb + 1, 0, none⟩) (show w.heap.size ≤ rb + 1 by omega) vb
  clear a2 b2 c2 d2 e2
  generalize w2.setCell ⟨rb + 1, 0, none⟩ vb = w3 at *
  have a4 := a3.other n1 (i := 1) (.int .i64 st')
  have b4 := b3.set 1 (.int .i64 st')
  have c4 := owns_setT c3 na4 1 (.int .i64 st')
  have d4 := owns_setT d3 nb4 1 (.int .i64 st')
  have e4 := e3.setCell (p := ⟨rb + 1, 1, none⟩) (show w.heap.size ≤ rb + 1 by omega) (.int .i64 st')
  clear a3 b3 c3 d3 e3
  generalize w3.setCell ⟨rb + 1, 1, none⟩ (.int .i64 st') = w4 at *
  exact ⟨w4, rfl, a4, b4, Own.of c4, Own.of d4, e4⟩
theorem SD.fin {W : World} (h : SD w lo H g rb A B K va vc vb xs ys st st' wx) (hW : W = ((((wx.setCell ⟨rb, 0, none⟩ va).setCell ⟨rb, 1, none⟩ (.int .i64 st)).setCell ⟨rb + 1, 0, none⟩ vb).setCell ⟨rb + 1, 1, none⟩ (.int .i64 st')).drew) :
    (W.cell? ⟨rb, 0, none⟩ = some va ∧ W.cell? ⟨rb, 1, none⟩ = some (.int .i64 st) ∧ W.cell? ⟨rb + 1, 0, none⟩ = some vb ∧ W.cell? ⟨rb + 1, 1, none⟩ = some (.int .i64 st')) ∧ Own W w.heap.size W.heap.size 2 va (ints xs) ∧ Own W w.heap.size W.heap.size 2 vb (ints ys) ∧ Below w.heap.size w W := by
  obtain ⟨Y, hY, a, b, c, d, e⟩ := h.fin0
  rw [← hY] at hW
  clear hY h
  subst hW
  exact ⟨⟨a.cell 0 _ rfl, a.cell 1 _ rfl, b.cell 0 _ rfl, b.cell 1 _ rfl⟩, c.drewN 1, d.drewN 1, bdrewN e 1⟩
end

set_option maxHeartbeats 4000000 in
theorem DrawSameTwill_any (p : Option Addr) (n c : Nat) (xs : List Int) (w : World) (hr : RV w p n c (xs.map (.int .u8))) (hb : ∀ x ∈ xs, 0 ≤ x ∧ x ≤ 255) :
    Calls Tryz.prog 15 #[.slice p n c] w fun e w' => ∃ (va vb : Value) (ys zs : List Int) (st st' : Int), e = .returned (.tuple #[.agg #[va, .int .i64 st], .agg #[vb, .int .i64 st']]) ∧ Own w' w.heap.size w'.heap.size 2 va (ints ys) ∧ Own w' w.heap.size w'.heap.size 2 vb (ints zs) ∧ Below w.heap.size w w' := by
  have hB := ((Below.refl w.heap.size w).alloc (Nat.le_refl _) (.cells #[.slice none 0 0, .int .i64 0] 26)).alloc (by simp) (.cells #[.slice none 0 0, .int .i64 0] 26)
  have hb_R : Blk ((w.alloc (.cells #[.slice none 0 0, .int .i64 0] 26)).alloc (.cells #[.slice none 0 0, .int .i64 0] 26)) w.heap.size [.slice none 0 0, .int .i64 0] 26 := (Blk.box w [.slice none 0 0, .int .i64 0] 26 rfl).alloc _
  have hb_S : Blk ((w.alloc (.cells #[.slice none 0 0, .int .i64 0] 26)).alloc (.cells #[.slice none 0 0, .int .i64 0] 26)) (w.heap.size + 1) [.slice none 0 0, .int .i64 0] 26 := Blk.box (w.alloc (.cells #[.slice none 0 0, .int .i64 0] 26)) [.slice none 0 0, .int .i64 0] 26 (by simp)
  replace hr := hr.below hB
  go_enter Tryz.func15, Tryz.ntmps15
  go_wp2_with fail
  with_reducible refine (l00From_any _ _ _ _ _ hr hb).mono ?_
  rintro e w1 ⟨rfl, hs, hB1⟩
  have hz1 := hB1.size
  have hz0 : w.heap.size + 1 < w1.heap.size := by simp at hz1; omega
  replace hb_R := hb_R.below hB1
  replace hb_S := hb_S.below hB1
  replace hB := hB.trans (hB1.mono (by simp; omega))
  clear hB1 hr hz1
  simp only [World.size_alloc] at hs
  obtain ⟨G, hG⟩ : ∃ G, w.heap.size + 1 + 1 = G := ⟨_, rfl⟩
  rw [hG] at hs
  have hgl := hs.lt
  have hGw : w.heap.size + 1 < G := by omega
  go_wp2_with fail
  with_reducible refine (l09Draw_any _ _ _ hs (by omega)).mono ?_
  rintro e w2 ⟨v, ys, st, rfl, hl, ho, hs2, hg⟩
  obtain ⟨a, c1, rfl, _⟩ := ho.sliceI
  obtain ⟨A, hA⟩ : ∃ A, w2.heap.size = A := ⟨_, rfl⟩
  have hg2 := hg.size
  replace hb_R := (hb_R.grown hg (by simp; omega)).alloc (.cells #[.slice a ys.length c1, .int .i64 st] 26)
  replace hb_S := (hb_S.grown hg (by simp; omega)).alloc (.cells #[.slice a ys.length c1, .int .i64 st] 26)
  replace hB := hB.grown hg hB.size (by intro k hk; simp at hk; omega)
  replace hB := hB.alloc hB.size (.cells #[.slice a ys.length c1, .int .i64 st] 26)
  have hA0 : Blk (w2.alloc (.cells #[.slice a ys.length c1, .int .i64 st] 26)) A [.slice a ys.length c1, .int .i64 st] 26 := Blk.box _ [_, _] _ hA.symm
  have hO := ho.below ((Below.refl _ _).alloc (Nat.le_refl _) (.cells #[.slice a ys.length c1, .int .i64 st] 26))
  replace hs2 := hs2.alloc (.cells #[.slice a ys.length c1, .int .i64 st] 26)
  have Hsz : Hid ((w2.alloc (.cells #[.slice a ys.length c1, .int .i64 st] 26)).heap.size = A + 1) := Lib.hid (by simp [hA])
  rw [hA] at hO
  have hlo : w1.heap.size ≤ A := by omega
  clear hg ho hs hg2
  go_upto_region 3 with fail
  clear hA hG
  obtain ⟨wy, hwy⟩ : ∃ wy, wy = (w2.alloc (.cells #[.slice a ys.length c1, .int .i64 st] 26)) := ⟨_, rfl⟩
  rw [← hwy] at hb_R hb_S hB hA0 hO hs2 Hsz ⊢
  clear hwy
  go_cut [6] (fun s6 wx => ∃ (B : Nat) (vb : Value), s6 = .pointer (some ⟨B, 0, none⟩) ∧ Hid (SD w w1.heap.size (A + 1) G w.heap.size A B 40 (.slice a ys.length c1) vb vb ys ys st st wx))
  case first =>
    refine wp_region_head (fun w' => w'.cell? ⟨A, 0, none⟩ = some (.slice a ys.length c1) ∧ w'.cell? ⟨A, 1, none⟩ = some (.int .i64 st)) 7 (by kernel_rfl) (by decide) ?_
    have HS : Hid (wy.drew.cell? ⟨A, 0, none⟩ = some (.slice a ys.length c1) ∧ wy.drew.cell? ⟨A, 1, none⟩ = some (.int .i64 st)) := Lib.hid ⟨hA0.cell 0 _ rfl, hA0.cell 1 _ rfl⟩
    have Hsz' : Hid (wy.drew.heap.size = A + 1) := Hsz
    replace hb_R : Blk wy.drew w.heap.size [.slice none 0 0, .int .i64 0] 26 := hb_R
    replace hb_S : Blk wy.drew (w.heap.size + 1) [.slice none 0 0, .int .i64 0] 26 := hb_S
    replace hA0 : Blk wy.drew A [.slice a ys.length c1, .int .i64 st] 26 := hA0
    replace hO : Own wy.drew w1.heap.size A 2 (.slice a ys.length c1) (ints ys) := hO
    replace hs2 : Src wy.drew G 40 := hs2
    replace hB : Below w.heap.size w wy.drew := bdrewN hB 1
    clear Hsz
    generalize wy.drew = wy at *
    have Hz := Hsz'
    have Hown := Lib.hid (fun W (h : Below wy.heap.size wy W) => l00OwnT_any a ys.length c1 ys W (by omega) (own_nilT hO) (hO.rv.below h))
    refine wpHead_take (i := 0) (v := ?_) rfl (by kernel_rfl) (fun _ _ _ h => h) (Or.inl ⟨by rfl, ?_⟩) HS.out ?_
    rotate_left
    · intro w hSw; (try dsimp only at hSw); go_simp; (try with_reducible rfl)
    (try simp only [Act.put, List.setIfInBounds_toArray, List.set_cons_zero, List.set_cons_succ])
    refine wpHead_take (i := 1) (v := ?_) rfl (by kernel_rfl) (fun _ _ _ h => h) (Or.inl ⟨by rfl, ?_⟩) HS.out ?_
    rotate_left
    · intro w hSw; (try dsimp only at hSw); go_simp; (try with_reducible rfl)
    (try simp only [Act.put, List.setIfInBounds_toArray, List.set_cons_zero, List.set_cons_succ])
    refine wpHead_take (i := 3) (v := ?_) rfl (by kernel_rfl) (fun _ _ _ h => h) (Or.inl ⟨by rfl, ?_⟩) HS.out ?_
    rotate_left
    · intro w hSw; (try dsimp only at hSw); go_simp; (try with_reducible rfl)
    (try simp only [Act.put, List.setIfInBounds_toArray, List.set_cons_zero, List.set_cons_succ])
    refine wpHead_take (i := 4) (v := ?_) rfl (by kernel_rfl) (fun _ _ _ h => h) (Or.inl ⟨by rfl, ?_⟩) HS.out ?_
    rotate_left
    · intro w hSw; (try dsimp only at hSw); go_simp; (try with_reducible rfl)
    (try simp only [Act.put, List.setIfInBounds_toArray, List.set_cons_zero, List.set_cons_succ])
    refine wpHead_two (i := 2) (j := 6) (by kernel_rfl) (by decide) (by decide) rfl rfl (fun K hK => ?_) (fun K hK => ?_)
    · go_simp
      with_reducible refine (Hown.out _ (Below.refl _ _)).mono ?_
      rintro e w3 ⟨v3, rfl, ho3, hb3⟩
      obtain ⟨a3, c3, rfl, _⟩ := ho3.sliceI
      have hA3 := hA0.below hb3
      have HS3 : Hid (w3.cell? ⟨A, 0, none⟩ = some (.slice a ys.length c1) ∧ w3.cell? ⟨A, 1, none⟩ = some (.int .i64 st)) := Lib.hid ⟨hA3.cell 0 _ rfl, hA3.cell 1 _ rfl⟩
      refine hK.out _ _ HS3.out ?_
      clear hK K HS
      (try simp only [Act.put, List.setIfInBounds_toArray, List.set_cons_zero, List.set_cons_succ])
      refine wpHead_take (i := 5) (v := ?_) rfl (by kernel_rfl) (fun _ _ _ h => h) (Or.inl ⟨by rfl, ?_⟩) HS3.out ?_
      rotate_left
      · intro w hSw; (try dsimp only at hSw); go_simp; (try with_reducible rfl)
      (try simp only [Act.put, List.setIfInBounds_toArray, List.set_cons_zero, List.set_cons_succ])
      refine wpHead_one (i := 6) (by kernel_rfl) (by decide) rfl (fun K hK => ?_)
      go_simp
      have HS4 := Lib.hid (show _ ∧ _ from ⟨cell_keep HS3.out.1 (.cells #[.slice none 0 0, .int .i64 0] 26), cell_keep HS3.out.2 (.cells #[.slice none 0 0, .int .i64 0] 26)⟩)
      refine hK.out _ _ HS4.out ?_
      clear hK K
      (try simp only [Act.put, List.setIfInBounds_toArray, List.set_cons_zero, List.set_cons_succ])
      refine wpHead_done (by kernel_rfl) ?_
      simp only [List.drop_succ_cons, List.drop_zero]
      go_wp2_with fail
      go_meet
      have hz3 := hb3.size
      have hzy := Hz.out
      have hx := Own.below (hO.below hb3) ((Below.refl _ _).alloc (Nat.le_refl _) (.cells #[.slice a3 ys.length c3, .int .i64 st] 26))
      have h8 := (ho3.1.alloc (.cells #[.slice a3 ys.length c3, .int .i64 st] 26))
      rw [List.length_map, hzy] at h8
      exact ⟨_, .slice a3 ys.length c3, rfl, Lib.hid ⟨(hs2.kept hb3).alloc _, (hB.trans (hb3.mono hB.size)).alloc (by have := hB.size; omega) _, (hb_R.below hb3).alloc _, (hb_S.below hb3).alloc _, hA3.alloc _, Blk.box _ [_, _] _ rfl, hx.mono (Nat.le_refl _) (by omega), h8, hgl, by omega, Nat.le_refl _, hGw, hlo, by omega, by omega⟩⟩
    · go_simp
      have HS3 := Lib.hid (show wy.cell? ⟨A, 0, none⟩ = some (.slice a ys.length c1) ∧ wy.cell? ⟨A, 1, none⟩ = some (.int .i64 st) from HS.out)
      have HS4 : Hid ((wy.alloc (.cells #[.slice none 0 0, .int .i64 0] 26)).cell? ⟨A, 0, none⟩ = some (.slice a ys.length c1) ∧ (wy.alloc (.cells #[.slice none 0 0, .int .i64 0] 26)).cell? ⟨A, 1, none⟩ = some (.int .i64 st)) := Lib.hid ⟨cell_keep HS3.out.1 _, cell_keep HS3.out.2 _⟩
      refine hK.out _ _ HS4.out ?_
      clear hK K
      (try simp only [Act.put, List.setIfInBounds_toArray, List.set_cons_zero, List.set_cons_succ])
      obtain ⟨B, hBB⟩ : ∃ B, wy.heap.size = B := ⟨_, rfl⟩
      have hba := (Below.refl wy.heap.size wy).alloc (Nat.le_refl _) (.cells #[.slice none 0 0, .int .i64 0] 26)
      have hBk := Blk.box wy [.slice none 0 0, .int .i64 0] 26 hBB.symm
      refine wpHead_one (i := 2) (by kernel_rfl) (by decide) rfl (fun K hK => ?_)
      go_simp
      with_reducible refine (Hown.out _ hba).mono ?_
      rintro e w3 ⟨v3, rfl, ho3, hb3⟩
      obtain ⟨a3, c3, rfl, _⟩ := ho3.sliceI
      have hb2 := hba.trans (hb3.mono (by simp))
      have hA3 := hA0.below hb2
      have hB3 := hBk.below hb3
      have HS5 : Hid (w3.cell? ⟨A, 0, none⟩ = some (.slice a ys.length c1) ∧ w3.cell? ⟨A, 1, none⟩ = some (.int .i64 st)) := Lib.hid ⟨hA3.cell 0 _ rfl, hA3.cell 1 _ rfl⟩
      refine hK.out _ _ HS5.out ?_
      clear hK K
      (try simp only [Act.put, List.setIfInBounds_toArray, List.set_cons_zero, List.set_cons_succ])
      refine wpHead_take (i := 5) (v := ?_) rfl (by kernel_rfl) (fun _ _ _ h => h) (Or.inl ⟨by rfl, ?_⟩) HS5.out ?_
      rotate_left
      · intro w hSw; (try dsimp only at hSw); go_simp; (try with_reducible rfl)
      (try simp only [Act.put, List.setIfInBounds_toArray, List.set_cons_zero, List.set_cons_succ])
      refine wpHead_done (by kernel_rfl) ?_
      simp only [List.drop_succ_cons, List.drop_zero]
      have d0 := hB3.cell 0 _ rfl
      have d1 := hB3.cell 1 _ rfl
      have e0 := hB3.frozen 0
      have e1 := hB3.frozen 1
      go_wp2_with fail
      go_meet
      have hz3 := hb3.size
      have hzy := Hz.out
      simp only [World.size_alloc] at hz3
      have hsd : SD w w1.heap.size (A + 1) G w.heap.size A B 40 (.slice a ys.length c1) (.slice none 0 0) (.slice a3 ys.length c3) ys ys st 0 w3 := by
        have h8 := ho3.1
        rw [List.length_map] at h8
        exact ⟨hs2.kept hb2, hB.trans (hb2.mono hB.size), hb_R.below hb2, hb_S.below hb2, hA3, hB3, (hO.below hb2).mono (Nat.le_refl _) (by omega), owns_mono h8 (by simp; omega), hgl, by omega, Nat.le_refl _, hGw, hlo, by omega, by omega⟩
      exact ⟨_, .slice a3 ys.length c3, rfl, Lib.hid (hsd.put0.put1 st)⟩
  clear hO hb_R hb_S hA0 hB hs2
  obtain ⟨B, vb, rfl, HD⟩ := hcut
  go_wp2_with fail
  with_reducible refine (pick_any _ _ _ _ HD.out.src (by omega) (by omega)).mono ?_
  rintro e w4 ⟨x, rfl, hx0, hx1, _, hs4, hg4⟩
  replace hx1 := hx1 (by omega)
  replace HD := Lib.hid (HD.out.next hs4 hg4)
  clear hs4 hg4
  by_cases e0 : x = 0
  · subst e0
    obtain ⟨ab, cb, rfl⟩ := owns_slice HD.out.own
    obtain ⟨⟨k0, k1, k2, k3, k4, k5⟩, ⟨q0, q1, q2, q3, q4, q5, q6, q7⟩, ⟨n1, n2, n3, n4, n5, n6, n7, n8, n9⟩⟩ := HD.out.facts
    replace HD := Lib.hid (HD.out.put1 (wrap64 (st + 1)))
    have n2' := n2.symm
    have n3' := n3.symm
    have n4' := n4.symm
    have n5' := n5.symm
    go_wp2_with fail
    go_region
    go_wp2_with fail
    obtain ⟨⟨o0, o1, o2, o3⟩, p1, p2, p3⟩ := HD.out.fin rfl
    exact bodyPost_ret (v := .tuple #[.agg #[.slice a ys.length c1, .int .i64 st], .agg #[.slice ab ys.length cb, .int .i64 (wrap64 (st + 1))]]) (by simp [results, Tryz.results15, go_sem, o0, o1, o2, o3]) rfl ⟨_, _, _, _, _, _, rfl, p1, p2, p3⟩
  by_cases e1 : x = 1
  · subst e1
    obtain ⟨ab, cb, rfl⟩ := owns_slice HD.out.own
    obtain ⟨⟨k0, k1, k2, k3, k4, k5⟩, _, _⟩ := HD.out.facts
    have ho := HD.out.own.alloc (.cells #[.int .i64 1] 2)
    have hHz : A + 1 ≤ w4.heap.size := by have := (HD.out.facts).2.2; omega
    go_wp2_with (at_builtin; refine wpList_app1 rfl _ _ 24 rfl (A + 1) 2 _ 8 Tryz.underlying24 info_i64 (by decide) rfl _ ys.length _ rfl ho w4.heap.size (.int .i64 1) rfl ?c1 rfl ?c2 ?c3 ?_)
    case c1 => exact cell_boxed rfl
    case c2 => omega
    case c3 => simp; omega
    intro v7 w7 ho7 hg7
    obtain ⟨a7, c7, rfl⟩ := owns_slice ho7
    have happ := (HD.out.alloc (.cells #[.int .i64 1] 2)).app (vb' := .slice a7 (ys.length + 1) c7) (zs := ys ++ [1]) (by simpa using ho7) hg7
    clear k0 k1 k2 k3 k4 k5 ho ho7 hg7
    obtain ⟨⟨k0, k1, k2, k3, k4, k5⟩, ⟨q0, q1, q2, q3, q4, q5, q6, q7⟩, ⟨n1, n2, n3, n4, n5, n6, n7, n8, n9⟩⟩ := happ.facts
    replace HD := Lib.hid happ.put0
    clear happ
    have n2' := n2.symm
    have n3' := n3.symm
    have n4' := n4.symm
    have n5' := n5.symm
    go_wp2_with fail
    go_region
    go_wp2_with fail
    obtain ⟨⟨o0, o1, o2, o3⟩, p1, p2, p3⟩ := HD.out.fin rfl
    exact bodyPost_ret (v := .tuple #[.agg #[.slice a ys.length c1, .int .i64 st], .agg #[.slice a7 (ys.length + 1) c7, .int .i64 (st)]]) (by simp [results, Tryz.results15, go_sem, o0, o1, o2, o3]) rfl ⟨_, _, _, _, _, _, rfl, p1, p2, p3⟩
  have b0 : (x == 0) = false := by simp [e0]
  have b1 : (x == 1) = false := by simp [e1]
  obtain ⟨ab, cb, rfl⟩ := owns_slice HD.out.own
  obtain ⟨⟨k0, k1, k2, k3, k4, k5⟩, ⟨q0, q1, q2, q3, q4, q5, q6, q7⟩, ⟨n1, n2, n3, n4, n5, n6, n7, n8, n9⟩⟩ := HD.out.facts
  have n2' := n2.symm
  have n3' := n3.symm
  have n4' := n4.symm
  have n5' := n5.symm
  go_wp2_with fail
  go_region
  go_wp2_with fail
  obtain ⟨⟨o0, o1, o2, o3⟩, p1, p2, p3⟩ := HD.out.fin rfl
  exact bodyPost_ret (v := .tuple #[.agg #[.slice a ys.length c1, .int .i64 st], .agg #[.slice ab ys.length cb, .int .i64 (st)]]) (by simp [results, Tryz.results15, go_sem, o0, o1, o2, o3]) rfl ⟨_, _, _, _, _, _, rfl, p1, p2, p3⟩
end Go.Proofs.YtflejjfkgkmcgaaGreatDoor
