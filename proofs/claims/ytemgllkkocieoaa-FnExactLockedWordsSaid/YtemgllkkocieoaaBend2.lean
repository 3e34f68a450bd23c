/-
  Bends: codes, ends, locked borders and rods, by walks.
-/
import Derived.Test.YtemgllkkocieoaaBend
namespace Go.Proofs.Ytemgllkkocieoaa
open Go.RowKit
set_option linter.unusedVariables false



def codeS (l : List UInt8) (st : Int) : Int := if vB l then if inB st ((l.length : Int) + 2) 40 then 0 else 2 else 7
theorem codeB_codeS (l : List UInt8) (st k : Int) : codeB l st k = if codeS l st = 0 then if inB k 0 (st - 1) then 0 else 2 else codeS l st := by
  unfold codeB codeS
  cases vB l <;> cases inB st ((l.length : Int) + 2) 40 <;> cases inB k 0 (st - 1) <;> simp
theorem codeB_zero (l : List UInt8) (st : Int) : codeB l st 0 = codeS l st := by
  unfold codeB codeS
  cases vB l
  · simp
  · cases h : inB st ((l.length : Int) + 2) 40
    · simp
    · have := inB_iff.1 h
      have h2 : inB 0 0 (st - 1) = true := inB_iff.2 (by omega)
      simp [h2]


/-! ### where a bend ends -/
def endR (l : List UInt8) (st k : Int) : Int × Int := if codeB l st k = 0 then ((k + l.length + 1) % st, 0) else (0, codeB l st k)



/-! ### how many are behind -/
def behindW (l : List UInt8) : Nat := l.count 98
theorem behindW_le (l : List UInt8) : behindW l ≤ l.length := List.count_le_length

end Go.Proofs.Ytemgllkkocieoaa
