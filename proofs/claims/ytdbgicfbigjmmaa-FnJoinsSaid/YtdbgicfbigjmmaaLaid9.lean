/-
  Laid rods, on: the numbers of stakes for rods.
-/
import Derived.Test.YtdbgicfbigjmmaaLaid8
namespace Go.Proofs.Ytdbgicfbigjmmaa
open Go.RowKit
set_option linter.unusedVariables false

def rodSt (l : List Int) (be : Int) (k : Nat) : Bool := decide ((abovesTo (places l) (3 + (k : Int)) be (places l).length).length = 0)
def goodTo (l : List Int) (be : Int) (k : Nat) : List Int := ((List.range k).filter (rodSt l be)).map fun (j : Nat) => 3 + (j : Int)
theorem goodTo_step (l : List Int) (be : Int) (k : Nat) : goodTo l be (k + 1) = goodTo l be k ++ (if rodSt l be k then [3 + (k : Int)] else []) := by
  simp only [goodTo, List.range_succ, List.filter_append, List.map_append]
  congr 1
  by_cases h : rodSt l be k = true <;> simp [h]
theorem goodTo_len (l : List Int) (be : Int) (k : Nat) : (goodTo l be k).length ≤ k := by
  have := List.length_filter_le (rodSt l be) (List.range k)
  simpa [goodTo] using this
def stakesR (l : List Int) (be most : Int) : List Int × Int := if laidC 3 l be = 0 then if areSt most then (goodTo l be (most - 2).toNat, 0) else ([], 2) else ([], laidC 3 l be)
theorem stakesR_len (l : List Int) (be most : Int) : (stakesR l be most).1.length ≤ 1000000 := by
  unfold stakesR
  split
  · split
    · next h =>
      have := inB_iff.1 h
      have := goodTo_len l be (most - 2).toNat
      show (goodTo l be (most - 2).toNat).length ≤ _
      omega
    · simp
  · simp

end Go.Proofs.Ytdbgicfbigjmmaa
