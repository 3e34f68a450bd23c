/-
  Twills: sizes, copies, equality, validity, by walks.
-/
import Derived.Test.YtngllaaminognaaGreatDoorTwillPlain
namespace Go.Proofs.YtngllaaminognaaGreatDoor
open Go.RowKit
set_option linter.unusedVariables false

/-- a twill's list as it lies in memory, with what it holds; its cells in block b -/
def TwAt (w : World) (b : Nat) (a : Option Addr) (n c : Nat) (xs : List Int) (st : Int) : Prop :=
  w.cell? ⟨b, 0, none⟩ = some (.slice a n c) ∧ w.cell? ⟨b, 1, none⟩ = some (.int .i64 st) ∧ RV w a n c (ints xs)
theorem TwAt.boxed {w : World} {a : Option Addr} {n c : Nat} {xs : List Int} (st : Int) (e : TypeId) (h : RV w a n c (ints xs)) : TwAt (w.alloc (.cells #[.slice a n c, .int .i64 st] e)) w.heap.size a n c xs st := by
  refine ⟨?_, ?_, h.below ((Below.refl _ _).alloc (Nat.le_refl _) _)⟩ <;> simp [go_sem]



/-- a twill of the call's own as a result -/
def RetT (w : World) (e : TypeId) (xs : List Int) (st : Int) (en : Ending) (w' : World) : Prop :=
  ∃ v : Value, en = .returned (.agg #[v, .int .i64 st]) ∧ Own w' w.heap.size w'.heap.size e v (ints xs) ∧ Below w.heap.size w w'




/-! ### equality -/
theorem take_eq_step {xs ys : List Int} {k : Nat} (hl : xs.length = ys.length) (h : xs.take k = ys.take k) (hk : k < xs.length) (he : xs.getD k 0 = ys.getD k 0) : xs.take (k + 1) = ys.take (k + 1) := by
  rw [take_snoc' (d := 0) hk, take_snoc' (d := 0) (hl ▸ hk), h, he]
theorem ne_of_get {xs ys : List Int} {k : Nat} (he : xs.getD k 0 ≠ ys.getD k 0) : xs ≠ ys := fun e => he (by rw [e])


end Go.Proofs.YtngllaaminognaaGreatDoor
