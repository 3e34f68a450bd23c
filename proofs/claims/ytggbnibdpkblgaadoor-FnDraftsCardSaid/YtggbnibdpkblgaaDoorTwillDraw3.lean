/-
  Two drawn twills: one and its copy, changed or not.
-/
import Derived.Test.YtggbnibdpkblgaaDoorTwillDraw2
import Derived.BigRegion
namespace Go.Proofs.YtggbnibdpkblgaaDoor
open Go Go.RowKit
set_option linter.unusedVariables false
set_option maxRecDepth 100000

/-- a copy: it lies in a block of its own -/
theorem l00OwnT_any (a : Option Addr) (n c : Nat) (xs : List Int) (w : World) (hn : n ≤ 1000000) (hnil : a = none → n = 0 ∧ c = 0) (ha : RV w a n c (ints xs)) :
    Calls Tryd.prog 46 #[.slice a n c] w fun e w' => ∃ v : Value, e = .returned v ∧ Own w' w.heap.size w'.heap.size 2 v (ints xs) ∧ Below w.heap.size w w' := by
  have hown := owns_empty (w := w) (e := 2) (size := 1) rfl (Nat.le_refl _)
  have ha2 : RV (w.alloc (.cells #[] 2)) a n c (ints xs) := ha.below ((Below.refl _ _).alloc (Nat.le_refl _) _)
  have Ha := Lib.hid ha2
  clear ha ha2
  go_enter Tryd.func46, Tryd.ntmps46
  go_wp2_with (at_builtin; refine wpList_appN rfl _ _ 26 rfl w.heap.size 2 _ 8 Tryd.underlying26 info_i64 (by decide) rfl _ 0 _ rfl hown a n c (ints xs) rfl Ha.out hnil ?c1 ?c2 ?c3 ?_)
  case c1 => intro u hu; obtain ⟨x, _, rfl⟩ := List.mem_map.1 hu; rfl
  case c2 => omega
  case c3 => simp
  intro v1 w1 hown1 hgrow _
  have hb1 := below_app ((Below.refl w.heap.size w).alloc (Nat.le_refl _) (.cells #[] 2)) hown hgrow (Nat.le_refl _) (by simp)
  clear hgrow
  go_wp2
  go_ret
  exact ⟨_, rfl, Own.of hown1, hb1⟩
theorem own_nilT {w : World} {lo hi n c : Nat} {a : Option Addr} {e : TypeId} {vs : List Value} (h : Own w lo hi e (.slice a n c) vs) : a = none → n = 0 ∧ c = 0 := by
  intro ha
  rcases h.1.2 with ⟨h1, _⟩ | ⟨g, cap, cur, h1, _⟩
  · simp only [Value.slice.injEq] at h1; exact ⟨h1.2.1, h1.2.2⟩
  · simp only [Value.slice.injEq] at h1; rw [ha] at h1; exact absurd h1.1 (by simp)

/-- two twills in their boxes, the second with a row of its own, and the boxes of the results -/
def SD (w : World) (lo H g rb A B K : Nat) (va vc vb : Value) (xs ys : List Int) (st st' : Int) (wx : World) : Prop :=
  Src wx g K ∧ Below w.heap.size w wx ∧ Blk wx rb [.slice none 0 0, .int .i64 0] 28 ∧ Blk wx (rb + 1) [.slice none 0 0, .int .i64 0] 28 ∧ Blk wx A [va, .int .i64 st] 28 ∧ Blk wx B [vc, .int .i64 st'] 28 ∧
    Own wx lo H 2 va (ints xs) ∧ wx.ownsRow H 2 1 vb ys.length (ints ys) ∧ g < lo ∧ lo ≤ H ∧ w.heap.size ≤ rb ∧ rb + 1 < g ∧ lo ≤ A ∧ lo ≤ B ∧ A ≠ B
section
variable {w wx w' : World} {lo H g rb A B K K' : Nat} {va vc vb : Value} {xs ys : List Int} {st st' : Int}
theorem SD.next (h : SD w lo H g rb A B K va vc vb xs ys st st' wx) (hs : Src w' g K') (hg : wx.grownBy w' (some g)) : SD w lo H g rb A B K' va vc vb xs ys st st' w' := by
  obtain ⟨h1, h2, h3, h4, h5, h6, h7, h8, h9, h10, h11, h12, h13, h14, h15⟩ := h
  exact ⟨hs, h2.grown hg h2.size (by intro k hk; simp at hk; omega), h3.grown hg (by simp; omega), h4.grown hg (by simp; omega), h5.grown hg (by simp; omega), h6.grown hg (by simp; omega), h7.kept hg (by intro k hk; simp at hk; omega), owns_past' h8 hg (by omega), h9, h10, h11, h12, h13, h14, h15⟩
theorem SD.alloc (h : SD w lo H g rb A B K va vc vb xs ys st st' wx) (o : Obj) : SD w lo H g rb A B K va vc vb xs ys st st' (wx.alloc o) := h.next (h.1.alloc o) (World.grownBy_alloc wx o (some g))
theorem SD.src (h : SD w lo H g rb A B K va vc vb xs ys st st' wx) : Src wx g K := h.1
theorem SD.mono (h : SD w lo H g rb A B K va vc vb xs ys st st' wx) (hk : K ≤ K') : SD w lo H g rb A B K' va vc vb xs ys st st' wx := h.next (h.1.mono hk) (World.grownBy.refl _ _)
theorem SD.own (h : SD w lo H g rb A B K va vc vb xs ys st st' wx) : wx.ownsRow H 2 1 vb ys.length (ints ys) := h.2.2.2.2.2.2.2.1
theorem owns_setT {w : World} {lo n b : Nat} {e : TypeId} {v : Value} {vs : List Value} (h : w.ownsRow lo e 1 v n vs) (hb : v.ownBlock ≠ some b) (i : Nat) (u : Value) : (w.setCell ⟨b, i, none⟩ u).ownsRow lo e 1 v n vs := h.kept (gsetK w b i u) (.inr hb)
theorem SD.app {vb' : Value} {zs : List Int} (h : SD w lo H g rb A B K va vc vb xs ys st st' wx) (ho : w'.ownsRow H 2 1 vb' zs.length (ints zs)) (hg : wx.grownBy w' vb.ownBlock) : SD w lo H g rb A B K va vc vb' xs zs st st' w' := by
  obtain ⟨h1, h2, h3, h4, h5, h6, h7, h8, h9, h10, h11, h12, h13, h14, h15⟩ := h
  have hlo : ∀ k, vb.ownBlock = some k → H ≤ k := fun k hk => (h8.lt k hk).1
  have hs3 := h3.lt
  have hB : Below lo wx w' := (Below.refl _ _).grown hg (by have := h5.lt; omega) (fun k hk => by have := hlo k hk; omega)
  exact ⟨h1.keptB hB h9, h2.grown hg h2.size (fun k hk => by have := hlo k hk; omega), h3.grown hg (owns_noblk' h8 h3 (by decide)).symm, h4.grown hg (owns_noblk' h8 h4 (by decide)).symm, h5.grown hg (owns_noblk' h8 h5 (by decide)).symm, h6.grown hg (owns_noblk' h8 h6 (by decide)).symm, h7.kept hg (fun k hk => by have := hlo k hk; omega), ho, h9, h10, h11, h12, h13, h14, h15⟩
theorem SD.put0 (h : SD w lo H g rb A B K va vc vb xs ys st st' wx) : SD w lo H g rb A B K va vb vb xs ys st st' (wx.setCell ⟨B, 0, none⟩ vb) := by
  obtain ⟨h1, h2, h3, h4, h5, h6, h7, h8, h9, h10, h11, h12, h13, h14, h15⟩ := h
  exact ⟨h1.set (by omega) 0 _, h2.setCell (p := ⟨B, 0, none⟩) (show w.heap.size ≤ B by omega) _, h3.other (by omega) _, h4.other (by omega) _, h5.other h15 _, h6.set 0 _, ⟨h7.1.kept (gsetK wx B 0 _) (.inr (owns_noblk' h7.1 h6 (by decide))), h7.2⟩, h8.kept (gsetK wx B 0 _) (.inr (owns_noblk' h8 h6 (by decide))), h9, h10, h11, h12, h13, h14, h15⟩
theorem SD.put1 (h : SD w lo H g rb A B K va vc vb xs ys st st' wx) (s : Int) : SD w lo H g rb A B K va vc vb xs ys st s (wx.setCell ⟨B, 1, none⟩ (.int .i64 s)) := by
  obtain ⟨h1, h2, h3, h4, h5, h6, h7, h8, h9, h10, h11, h12, h13, h14, h15⟩ := h
  exact ⟨h1.set (by omega) 1 _, h2.setCell (p := ⟨B, 1, none⟩) (show w.heap.size ≤ B by omega) _, h3.other (by omega) _, h4.other (by omega) _, h5.other h15 _, h6.set 1 _, ⟨h7.1.kept (gsetK wx B 1 _) (.inr (owns_noblk' h7.1 h6 (by decide))), h7.2⟩, h8.kept (gsetK wx B 1 _) (.inr (owns_noblk' h8 h6 (by decide))), h9, h10, h11, h12, h13, h14, h15⟩
/-- what a walk reads -/
theorem SD.facts (h : SD w lo H g rb A B K va vc vb xs ys st st' wx) : (wx.cell? ⟨A, 0, none⟩ = some va ∧ wx.cell? ⟨A, 1, none⟩ = some (.int .i64 st) ∧ wx.cell? ⟨B, 0, none⟩ = some vc ∧ wx.cell? ⟨B, 1, none⟩ = some (.int .i64 st') ∧ wx.frozen? ⟨B, 0, none⟩ = false ∧ wx.frozen? ⟨B, 1, none⟩ = false) ∧
    (wx.cell? ⟨rb, 0, none⟩ = some (.slice none 0 0) ∧ wx.cell? ⟨rb, 1, none⟩ = some (.int .i64 0) ∧ wx.frozen? ⟨rb, 0, none⟩ = false ∧ wx.frozen? ⟨rb, 1, none⟩ = false ∧ wx.cell? ⟨rb + 1, 0, none⟩ = some (.slice none 0 0) ∧ wx.cell? ⟨rb + 1, 1, none⟩ = some (.int .i64 0) ∧ wx.frozen? ⟨rb + 1, 0, none⟩ = false ∧ wx.frozen? ⟨rb + 1, 1, none⟩ = false) ∧
    (A ≠ B ∧ rb ≠ A ∧ rb ≠ B ∧ rb + 1 ≠ A ∧ rb + 1 ≠ B ∧ rb < wx.heap.size ∧ rb + 1 < wx.heap.size ∧ A < wx.heap.size ∧ B < wx.heap.size) := by
  obtain ⟨h1, h2, h3, h4, h5, h6, h7, h8, h9, h10, h11, h12, h13, h14, h15⟩ := h
  exact ⟨⟨h5.cell 0 _ rfl, h5.cell 1 _ rfl, h6.cell 0 _ rfl, h6.cell 1 _ rfl, h6.frozen 0, h6.frozen 1⟩, ⟨h3.cell 0 _ rfl, h3.cell 1 _ rfl, h3.frozen 0, h3.frozen 1, h4.cell 0 _ rfl, h4.cell 1 _ rfl, h4.frozen 0, h4.frozen 1⟩, h15, by omega, by omega, by omega, by omega, h3.lt, h4.lt, h5.lt, h6.lt⟩
/-- the results are stored and read -/
theorem SD.fin0 (h : SD w lo H g rb A B K va vc vb xs ys st st' wx) : ∃ Y, Y = ((((wx.setCell ⟨rb, 0, none⟩ va).setCell ⟨rb, 1, none⟩ (.int .i64 st)).setCell ⟨rb + 1, 0, none⟩ vb).setCell ⟨rb + 1, 1, none⟩ (.int .i64 st')) ∧
    Blk Y rb [va, .int .i64 st] 28 ∧ Blk Y (rb + 1) [vb, .int .i64 st'] 28 ∧ Own Y w.heap.size Y.heap.size 2 va (ints xs) ∧ Own Y w.heap.size Y.heap.size 2 vb (ints ys) ∧ Below w.heap.size w Y := by
  obtain ⟨h1, h2, h3, h4, h5, h6, h7, h8, h9, h10, h11, h12, h13, h14, h15⟩ := h
  have na3 := owns_noblk' h7.1 h3 (by decide)
  have na4 := owns_noblk' h7.1 h4 (by decide)
  have nb3 := owns_noblk' h8 h3 (by decide)
  have nb4 := owns_noblk' h8 h4 (by decide)
  have n1 : rb ≠ rb + 1 := by omega
  have n2 : rb + 1 ≠ rb := by omega
  have hz := h2.size
  have oa := owns_mono h7.1 (show w.heap.size ≤ lo by omega)
  have ob := owns_mono h8 (show w.heap.size ≤ H by omega)
  clear h1 h5 h6 h7 h8
  have a1 := h3.set 0 va
  have b1 := h4.other n2 (i := 0) va
  have c1 := owns_setT oa na3 0 va
  have d1 := owns_setT ob nb3 0 va
  have e1 := h2.setCell (p := ⟨rb, 0, none⟩) h11 va
  clear h2 h3 h4 oa ob
  generalize wx.setCell ⟨rb, 0, none⟩ va = w1 at *
  have a2 := a1.set 1 (.int .i64 st)
  have b2 := b1.other n2 (i := 1) (.int .i64 st)
  have c2 := owns_setT c1 na3 1 (.int .i64 st)
  have d2 := owns_setT d1 nb3 1 (.int .i64 st)
  have e2 := e1.setCell (p := ⟨rb, 1, none⟩) h11 (.int .i64 st)
  clear a1 b1 c1 d1 e1
  generalize w1.setCell ⟨rb, 1, none⟩ (.int .i64 st) = w2 at *
  have a3 := a2.other n1 (i := 0) vb
  have b3 := b2.set 0 vb
  have c3 := owns_setT c2 na4 0 vb
  have d3 := owns_setT d2 nb4 0 vb
  have e3 := e2.setCell (p := ⟨rb + 1, 0, none⟩) (show w.heap.size ≤ rb + 1 by omega) vb
  clear a2 b2 c2 d2 e2
  generalize w2.setCell ⟨rb + 1, 0, none⟩ vb = w3 at *
  have a4 := a3.other n1 (i := 1) (.int .i64 st')
  have b4 := b3.set 1 (.int .i64 st')
  have c4 := owns_setT c3 na4 1 (.int .i64 st')
  have d4 := owns_setT d3 nb4 1 (.int .i64 st')
  have e4 := e3.setCell (p := ⟨rb + 1, 1, none⟩) (show w.heap.size ≤ rb + 1 by omega) (.int .i64 st')
  clear a3 b3 c3 d3 e3
  generalize w3.setCell ⟨rb + 1, 1, none⟩ (.int .i64 st') = w4 at *
  exact ⟨w4, rfl, a4, b4, Own.of c4, Own.of d4, e4⟩
theorem SD.fin {W : World} (h : SD w lo H g rb A B K va vc vb xs ys st st' wx) (hW : W = ((((wx.setCell ⟨rb, 0, none⟩ va).setCell ⟨rb, 1, none⟩ (.int .i64 st)).setCell ⟨rb + 1, 0, none⟩ vb).setCell ⟨rb + 1, 1, none⟩ (.int .i64 st')).drew) :
    (W.cell? ⟨rb, 0, none⟩ = some va ∧ W.cell? ⟨rb, 1, none⟩ = some (.int .i64 st) ∧ W.cell? ⟨rb + 1, 0, none⟩ = some vb ∧ W.cell? ⟨rb + 1, 1, none⟩ = some (.int .i64 st')) ∧ Own W w.heap.size W.heap.size 2 va (ints xs) ∧ Own W w.heap.size W.heap.size 2 vb (ints ys) ∧ Below w.heap.size w W := by
  obtain ⟨Y, hY, a, b, c, d, e⟩ := h.fin0
  rw [← hY] at hW
  clear hY h
  subst hW
  exact ⟨⟨a.cell 0 _ rfl, a.cell 1 _ rfl, b.cell 0 _ rfl, b.cell 1 _ rfl⟩, c.drewN 1, d.drewN 1, bdrewN e 1⟩
end

end Go.Proofs.YtggbnibdpkblgaaDoor
