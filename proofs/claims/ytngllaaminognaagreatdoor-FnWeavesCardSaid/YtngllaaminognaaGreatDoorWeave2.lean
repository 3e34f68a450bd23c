/-
  Weaves, by walks: loose stakes, sound weaves.
-/
import Derived.Test.YtngllaaminognaaGreatDoorWeave
namespace Go.Proofs.YtngllaaminognaaGreatDoor
open Go.RowKit
set_option linter.unusedVariables false

theorem looseTo_step (l : List UInt8) (st : Int) (k : Nat) : looseTo l st (k + 1) = if bothW (stackW l st k) then looseTo l st k else looseTo l st k ++ [(k : Int)] := by
  rw [looseTo, looseK]
  cases bothW (stackW l st k) <;> simp
theorem stackW_len {l : List UInt8} {st : Int} (k : Nat) (hl : 1 ≤ l.length) (h0 : 1 ≤ st) : 1 ≤ (stackW l st k).length ∧ (stackW l st k).length ≤ l.length := by
  have h := agW_spec (n := l.length) (st := st) hl h0
  unfold stackW
  rw [alongL_len]
  omega



theorem bundrewN' {a w : World} {n : Nat} (h : Below (a.drewN n).heap.size (a.drewN n) w) : Below a.heap.size a w := ⟨h.os, h.tape, h.output, h.size, h.block⟩



end Go.Proofs.YtngllaaminognaaGreatDoor
