/-
  Drafts for rows, by walks.
-/
import Derived.Test.YtflejjfkgkmcgaaGreatDoorDraft3
namespace Go.Proofs.YtflejjfkgkmcgaaGreatDoor
open Go.RowKit
set_option linter.unusedVariables false
set_option maxRecDepth 100000

def draftR (l : List UInt8) (st : Int) : List Int × Int × Int :=
  if vS l && decide (2 ≤ l.length) then if inB st 1 ((l.length : Int) - 1) then if bothB l then (partsW (turnT l), st, 0) else ([], 0, 6) else ([], 0, 2) else ([], 0, 7)
/-- a draft as a result, with a code -/
def RetTC (w : World) (e : TypeId) (R : List Int × Int × Int) (en : Ending) (w' : World) : Prop :=
  ∃ v : Value, en = .returned (.tuple #[.agg #[v, .int .i64 R.2.1], .int .i64 R.2.2]) ∧ Own w' w.heap.size w'.heap.size e v (ints R.1) ∧ Below w.heap.size w w'
theorem bothB_good {l : List UInt8} (h2 : two 70 66 l = true) (h : bothB l = true) : ∃ i, goodI l = some i := by
  unfold bothB at h
  simp only [Bool.and_eq_true, decide_eq_true_eq] at h
  exact good_both h2 h.1 h.2
theorem bothB_isSome {l : List UInt8} (h2 : two 70 66 l = true) (h0 : 0 < l.length) : (goodI l).isSome = bothB l := by
  cases hb : bothB l
  · cases hg : goodI l with
    | none => rfl
    | some i =>
      have h := good_both' h0 hg
      rw [show bothB l = true by unfold bothB; rw [decide_eq_true h.1, decide_eq_true h.2]; rfl] at hb
      exact absurd hb (by simp)
  · obtain ⟨i, hi⟩ := bothB_good h2 hb
    rw [hi]; rfl

end Go.Proofs.YtflejjfkgkmcgaaGreatDoor
