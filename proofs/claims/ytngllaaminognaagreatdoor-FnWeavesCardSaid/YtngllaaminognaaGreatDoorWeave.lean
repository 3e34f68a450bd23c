/-
  Weaves, by walks: codes, how often a weave begins again, stakes, runs.
-/
import Derived.Test.YtngllaaminognaaGreatDoorWeavePlain
import Derived.Test.YtngllaaminognaaGreatDoorDraft
import Derived.Test.YtngllaaminognaaGreatDoorTwillRow2
namespace Go.Proofs.YtngllaaminognaaGreatDoor
open Go.RowKit
set_option linter.unusedVariables false

theorem bothW_B (l : List UInt8) : bothB l = bothW l := rfl
def codeW (l : List UInt8) (st : Int) : Int := if vS l then if areSt st then 0 else 2 else 1

theorem beginsAgain_any (s : ByteArray) (st : Int) (w : World) (hs0 : 1 ≤ s.size) (hs1 : s.size ≤ 1000) (h0 : 1 ≤ st) (h1 : st ≤ 1000) :
    Calls Tryz.prog 15 #[.string s, .int .i64 st] w fun e w' => e = .returned (.int .i64 (agW s.size st : Nat)) ∧ ∃ m, w' = w.drewN m := by
  obtain ⟨N, hN⟩ : ∃ N, s.size = N := ⟨_, rfl⟩
  rw [hN] at hs0 hs1 ⊢
  obtain ⟨q1, q2, q3, q4, q5⟩ := agW_spec (n := N) (st := st) hs0 h0
  have Hdv := Lib.hid (fun W => divisor_any N st W (by omega) (by omega) (by omega) (by omega))
  generalize agW N st = M at *
  generalize gcdI N st = G at *
  have hz : G ≠ 0 := by omega
  have q6 := IntWalk.i64_in (M : Int) (by omega)
  go_enter Tryz.func15, Tryz.ntmps15
  go_wp2_with (go_at_call 25; with_reducible refine (Hdv.out _).mono ?_; rintro e w' ⟨rfl, m, rfl⟩)
  go_ret
  exact ⟨rfl, _, rfl⟩


theorem strokeCode_any (s : ByteArray) (st : Int) (w : World) (hs : s.size ≤ maxLen) :
    Calls Tryz.prog 14 #[.string s, .int .i64 st] w fun e w' => e = .returned (.int .i64 (codeW s.data.toList st)) ∧ Below w.heap.size w w' := by
  have Hv := Lib.hid (fun W => validStroke_any s W hs)
  have Hc := Lib.hid (show codeW s.data.toList st = if vS s.data.toList then if areSt st then 0 else 2 else 1 from rfl)
  generalize codeW s.data.toList st = C at *
  generalize vS s.data.toList = v at *
  clear hs
  cases v
  · have HC := Lib.hid (show C = 1 by simpa using Hc.out)
    go_enter Tryz.func14, Tryz.ntmps14
    go_wp2_with (go_at_call 12; with_reducible refine (Hv.out _).mono ?_; rintro e w' ⟨rfl, hb⟩)
    go_ret
    exact ⟨ret_int HC.out.symm, hb⟩
  · cases h : areSt st
    · have HC := Lib.hid (show C = 2 by simpa [h] using Hc.out)
      go_enter Tryz.func14, Tryz.ntmps14
      go_wp2_with (first | (go_at_call 12; with_reducible refine (Hv.out _).mono ?_; rintro e w' ⟨rfl, hb⟩) | (go_at_call 16; refine (areStakes_any _ _).mono ?_; rintro e w'' ⟨rfl, rfl⟩))
      go_ret
      exact ⟨ret_int HC.out.symm, hb⟩
    · have HC := Lib.hid (show C = 0 by simpa [h] using Hc.out)
      go_enter Tryz.func14, Tryz.ntmps14
      go_wp2_with (first | (go_at_call 12; with_reducible refine (Hv.out _).mono ?_; rintro e w' ⟨rfl, hb⟩) | (go_at_call 16; refine (areStakes_any _ _).mono ?_; rintro e w'' ⟨rfl, rfl⟩))
      go_ret
      exact ⟨ret_int HC.out.symm, hb⟩




end Go.Proofs.YtngllaaminognaaGreatDoor
