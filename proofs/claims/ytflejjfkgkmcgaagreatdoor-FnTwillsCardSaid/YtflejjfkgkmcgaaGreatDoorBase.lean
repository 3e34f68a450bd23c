/-
  Bases: what the program's and the reference's functions compute (chapter P7), by walks.
-/
import Derived.Test.YtflejjfkgkmcgaaGreatDoorBasePlain
namespace Go.Proofs.YtflejjfkgkmcgaaGreatDoor
open Go.RowKit
set_option linter.unusedVariables false

/-- a base in memory -/
def BaseAt (w : World) (b : Nat) (t s r k : Int) : Prop :=
  w.cell? ⟨b, 0, none⟩ = some (.int .i64 t) ∧ w.cell? ⟨b, 1, none⟩ = some (.int .i64 s) ∧ w.cell? ⟨b, 2, none⟩ = some (.int .i64 r) ∧ w.cell? ⟨b, 3, none⟩ = some (.int .i64 k)
theorem BaseAt.below {w w' : World} {B b : Nat} {t s r k : Int} (h : BaseAt w b t s r k) (hb : Below B w w') (hB : b < B) : BaseAt w' b t s r k :=
  ⟨(hb.cell (p := ⟨b, 0, none⟩) hB).trans h.1, (hb.cell (p := ⟨b, 1, none⟩) hB).trans h.2.1, (hb.cell (p := ⟨b, 2, none⟩) hB).trans h.2.2.1, (hb.cell (p := ⟨b, 3, none⟩) hB).trans h.2.2.2⟩
theorem BaseAt.drewN {w : World} {b : Nat} {t s r k : Int} (h : BaseAt w b t s r k) (m : Nat) : BaseAt (w.drewN m) b t s r k := h
theorem BaseAt.drew {w : World} {b : Nat} {t s r k : Int} (h : BaseAt w b t s r k) : BaseAt w.drew b t s r k := h
theorem BaseAt.boxed (w : World) (t s r k : Int) (e : TypeId) : BaseAt (w.alloc (.cells #[.int .i64 t, .int .i64 s, .int .i64 r, .int .i64 k] e)) w.heap.size t s r k := by
  refine ⟨?_, ?_, ?_, ?_⟩ <;> simp [go_sem]

abbrev baseV (t s r k : Int) : Value := .agg #[.int .i64 t, .int .i64 s, .int .i64 r, .int .i64 k]








end Go.Proofs.YtflejjfkgkmcgaaGreatDoor
