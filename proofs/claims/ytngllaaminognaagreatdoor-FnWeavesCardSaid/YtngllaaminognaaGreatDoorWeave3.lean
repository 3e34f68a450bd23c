/-
  Weaves, by walks: the listed functions.
-/
import Derived.Test.YtngllaaminognaaGreatDoorWeave2
namespace Go.Proofs.YtngllaaminognaaGreatDoor
open Go.RowKit
set_option linter.unusedVariables false

def floatW (l : List UInt8) (st fl : Int) : Int := if codeW l st = 0 then if inB fl 1 12 then 0 else 2 else codeW l st
theorem codeW_zero {l : List UInt8} {st : Int} (h : codeW l st = 0) : vS l = true ∧ 3 ≤ st ∧ st ≤ 60 := by
  unfold codeW at h
  split at h
  · rename_i hv
    split at h
    · rename_i ha
      obtain ⟨h1, h2⟩ := inB_iff.1 (show inB st 3 60 = true from ha)
      exact ⟨hv, h1, h2⟩
    · omega
  · omega
theorem codeW_at {l : List UInt8} {st : Int} (hv : vS l = true) (h1 : 3 ≤ st) (h2 : st ≤ 60) : codeW l st = 0 := by
  unfold codeW
  rw [if_pos hv, if_pos (show areSt st = true from inB_iff.2 ⟨h1, h2⟩)]
theorem looseR_code (l : List UInt8) (st : Int) : looseR l st = if codeW l st = 0 then (looseTo l st st.toNat, 0) else ([], codeW l st) := by
  unfold looseR codeW
  cases vS l <;> cases areSt st <;> simp
theorem soundR_code (l : List UInt8) (fl most : Int) : soundR l fl most = if floatW l most fl = 0 then (soundTo l fl (most - 2).toNat, 0) else ([], floatW l most fl) := by
  unfold soundR floatW codeW
  cases vS l <;> cases areSt most <;> cases inB fl 1 12 <;> simp






end Go.Proofs.YtngllaaminognaaGreatDoor
