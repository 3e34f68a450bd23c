/-
  Drawn arguments of the functions over twills.
-/
import Derived.Test.YtggbnibdpkblgaaDoorTwillDraw
namespace Go.Proofs.YtggbnibdpkblgaaDoor
open Go Go.RowKit
set_option linter.unusedVariables false
set_option maxRecDepth 100000

/-- a drawn twill, the world left as it was -/
def DrawnB (w : World) (e : Ending) (w' : World) : Prop :=
  ∃ (v : Value) (ys : List Int) (st : Int), e = .returned (.agg #[v, .int .i64 st]) ∧ ys.length ≤ 12 ∧ Own w' w.heap.size w'.heap.size 2 v (ints ys) ∧ Below w.heap.size w w'

/-! ### a drawn twill in a box, the source that drew it and the box of the result besides -/
def FD (w : World) (lo g rb b K : Nat) (v : Value) (ys : List Int) (st : Int) (wx : World) : Prop :=
  Src wx g K ∧ Below w.heap.size w wx ∧ Blk wx rb [.slice none 0 0, .int .i64 0] 28 ∧ Blk wx b [v, .int .i64 st] 28 ∧ wx.ownsRow lo 2 1 v ys.length (ints ys) ∧ g < lo ∧ w.heap.size ≤ rb ∧ rb < g ∧ lo ≤ b
theorem FD.next {w wx w' : World} {lo g rb b K K' : Nat} {v : Value} {ys : List Int} {st : Int} (h : FD w lo g rb b K v ys st wx) (hs : Src w' g K') (hg : wx.grownBy w' (some g)) : FD w lo g rb b K' v ys st w' := by
  obtain ⟨h1, h2, h3, h4, h5, h6, h7, h8, h9⟩ := h
  exact ⟨hs, h2.grown hg h2.size (by intro k hk; simp at hk; omega), h3.grown hg (by simp; omega), h4.grown hg (by simp; omega), owns_past' h5 hg h6, h6, h7, h8, h9⟩
theorem FD.alloc {w wx : World} {lo g rb b K : Nat} {v : Value} {ys : List Int} {st : Int} (h : FD w lo g rb b K v ys st wx) (o : Obj) : FD w lo g rb b K v ys st (wx.alloc o) := h.next (h.1.alloc o) (World.grownBy_alloc wx o (some g))
theorem FD.drew {w wx : World} {lo g rb b K : Nat} {v : Value} {ys : List Int} {st : Int} (h : FD w lo g rb b K v ys st wx) : FD w lo g rb b K v ys st wx.drew := h.next h.1.drew (gbelow (bdrewN (Below.refl _ _) 1) _)
theorem FD.src {w wx : World} {lo g rb b K : Nat} {v : Value} {ys : List Int} {st : Int} (h : FD w lo g rb b K v ys st wx) : Src wx g K := h.1
theorem FD.cell0 {w wx : World} {lo g rb b K : Nat} {v : Value} {ys : List Int} {st : Int} (h : FD w lo g rb b K v ys st wx) : wx.cell? ⟨b, 0, none⟩ = some v := h.2.2.2.1.cell 0 _ rfl
theorem FD.cell1 {w wx : World} {lo g rb b K : Nat} {v : Value} {ys : List Int} {st : Int} (h : FD w lo g rb b K v ys st wx) : wx.cell? ⟨b, 1, none⟩ = some (.int .i64 st) := h.2.2.2.1.cell 1 _ rfl
theorem FD.res {w wx : World} {lo g rb b K : Nat} {v : Value} {ys : List Int} {st : Int} (h : FD w lo g rb b K v ys st wx) : wx.cell? ⟨rb, 0, none⟩ = some (.slice none 0 0) ∧ wx.cell? ⟨rb, 1, none⟩ = some (.int .i64 0) ∧ wx.frozen? ⟨rb, 0, none⟩ = false ∧ wx.frozen? ⟨rb, 1, none⟩ = false ∧ rb ≠ b ∧ rb < wx.heap.size ∧ b < wx.heap.size :=
  ⟨h.2.2.1.cell 0 _ rfl, h.2.2.1.cell 1 _ rfl, h.2.2.1.frozen 0, h.2.2.1.frozen 1, by obtain ⟨_, _, _, _, _, h6, _, h8, h9⟩ := h; omega, h.2.2.1.lt, h.2.2.2.1.lt⟩
theorem FD.out {w wx : World} {lo g rb b K : Nat} {v : Value} {ys : List Int} {st : Int} (h : FD w lo g rb b K v ys st wx) :
    ((wx.setCell ⟨rb, 0, none⟩ v).setCell ⟨rb, 1, none⟩ (.int .i64 st)).cell? ⟨rb, 0, none⟩ = some v ∧ ((wx.setCell ⟨rb, 0, none⟩ v).setCell ⟨rb, 1, none⟩ (.int .i64 st)).cell? ⟨rb, 1, none⟩ = some (.int .i64 st) ∧
    Own ((wx.setCell ⟨rb, 0, none⟩ v).setCell ⟨rb, 1, none⟩ (.int .i64 st)) w.heap.size ((wx.setCell ⟨rb, 0, none⟩ v).setCell ⟨rb, 1, none⟩ (.int .i64 st)).heap.size 2 v (ints ys) ∧
    Below w.heap.size w ((wx.setCell ⟨rb, 0, none⟩ v).setCell ⟨rb, 1, none⟩ (.int .i64 st)) := by
  obtain ⟨h1, h2, h3, h4, h5, h6, h7, h8, h9⟩ := h
  have hk := (h3.set 0 v).set 1 (.int .i64 st)
  have ho := (h5.kept (gsetK wx rb 0 v) (.inr (owns_noblk' h5 h3 (by decide)))).kept (gsetK _ rb 1 (.int .i64 st)) (.inr (owns_noblk' h5 h3 (by decide)))
  have hO : Own ((wx.setCell ⟨rb, 0, none⟩ v).setCell ⟨rb, 1, none⟩ (.int .i64 st)) w.heap.size ((wx.setCell ⟨rb, 0, none⟩ v).setCell ⟨rb, 1, none⟩ (.int .i64 st)).heap.size 2 v (ints ys) := (by simpa using Own.of ho : Own ((wx.setCell ⟨rb, 0, none⟩ v).setCell ⟨rb, 1, none⟩ (.int .i64 st)) lo ((wx.setCell ⟨rb, 0, none⟩ v).setCell ⟨rb, 1, none⟩ (.int .i64 st)).heap.size 2 v (ints ys)).mono (by omega) (Nat.le_refl _)
  exact ⟨hk.cell 0 _ rfl, hk.cell 1 _ rfl, hO, (h2.setCell h7 _).setCell h7 _⟩

theorem tw2_set {w : World} {b rb : Nat} {v st x y : Value} (h : w.cell? ⟨b, 0, none⟩ = some v ∧ w.cell? ⟨b, 1, none⟩ = some st) (hne : rb ≠ b) : ((w.setCell ⟨rb, 0, none⟩ x).setCell ⟨rb, 1, none⟩ y).cell? ⟨b, 0, none⟩ = some v ∧ ((w.setCell ⟨rb, 0, none⟩ x).setCell ⟨rb, 1, none⟩ y).cell? ⟨b, 1, none⟩ = some st := by
  refine ⟨?_, ?_⟩
  · rw [World.cell?_setCell_other _ _ _ _ (by first | (simp; done) | (simp; omega)), World.cell?_setCell_other _ _ _ _ (by first | (simp; done) | (simp; omega))]; exact h.1
  · rw [World.cell?_setCell_other _ _ _ _ (by first | (simp; done) | (simp; omega)), World.cell?_setCell_other _ _ _ _ (by first | (simp; done) | (simp; omega))]; exact h.2

end Go.Proofs.YtggbnibdpkblgaaDoor
