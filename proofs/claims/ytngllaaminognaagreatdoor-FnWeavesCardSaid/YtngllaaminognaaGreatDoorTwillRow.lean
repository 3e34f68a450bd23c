/-
  Twills: rows, ways along a row, longest runs, by walks.
-/
import Derived.Test.YtngllaaminognaaGreatDoorTwill2
import Derived.Test.YtngllaaminognaaGreatDoorStrs
import Derived.Test.YtngllaaminognaaGreatDoorShelf
namespace Go.Proofs.YtngllaaminognaaGreatDoor
open Go.RowKit
set_option linter.unusedVariables false

theorem repeat_one (c : UInt8) (m : Nat) : Lib.repeatL [c] m = List.replicate m c := by
  have := Lib.repeatL_replicate c 1 m
  simpa using this
theorem info_u8 : (Tryz.prog.info? 5).map (fun i => (i.zero, i.size, i.bytes)) = some (some (.int .u8 0), 1, 1) := by kernel_rfl

theorem fb0 : ((⟨#[70, 66]⟩ : ByteArray).extract 0 1) = str [70] := by decide
theorem fb1 : ((⟨#[70, 66]⟩ : ByteArray).extract 1 2) = str [66] := by decide


theorem tmod_pos {x n : Int} (hn : 0 < n) : (x.tmod n + n).tmod n = x % n := by
  have h1 : -n < x.tmod n := by
    rcases Int.le_total 0 x with h | h
    · have := Int.tmod_nonneg n h; omega
    · have h2 := Int.lt_tmod_of_pos x hn; omega
  rw [Int.tmod_eq_emod_of_nonneg (by omega)]
  have h2 : x.tmod n + n = x + n * (1 - x.tdiv n) := by
    rw [Int.tmod_def, Int.mul_sub, Int.mul_one]; omega
  rw [h2, Int.add_mul_emod_self_left]

end Go.Proofs.YtngllaaminognaaGreatDoor
