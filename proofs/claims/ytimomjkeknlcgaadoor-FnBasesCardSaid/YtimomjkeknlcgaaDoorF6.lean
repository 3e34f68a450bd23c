/-
  Helpers of the laws: too many bytes; equal lists.
-/
import Derived.Test.YtimomjkeknlcgaaDoorCore
namespace Go.Proofs.YtimomjkeknlcgaaDoor
open Go.RowKit
set_option linter.unusedVariables false

theorem f6big_any (p : Option Addr) (n c : Nat) (w : World) (hn : n ≤ 9223372036854775807) : Calls Tryd.prog 8 #[.slice p n c] w fun e w' => e = .returned (.bool (decide ((4096 : Int) < n))) ∧ w = w' := by
  go_enter Tryd.func8, Tryd.ntmps8
  go_wp2
  go_ret
  exact ⟨rfl, rfl⟩

set_option maxHeartbeats 1000000 in
theorem f6ints_yes (a a' : Option Addr) (n c c' : Nat) (xs : List Int) (w : World) (ha : RV w a n c (ints xs)) (hb : RV w a' n c' (ints xs)) :
    Calls Tryd.prog 20 #[.slice a n c, .slice a' n c'] w fun e w' => e = .returned (.bool true) ∧ ∃ q, w' = w.drewN q := by
  have hm := ha.small
  have Ha := Lib.hid ha
  have Hb := Lib.hid hb
  clear ha hb
  go_enter Tryd.func20, Tryd.ntmps20
  go_wp2
  go_loopw [5] (fun i wr => ∃ k : Nat, k ≤ n ∧ i = .int .i64 k ∧ ∃ q, Hid (wr = w.drewN q)) (fun i _ => n - (intOf i).toNat)
  case atStart => exact ⟨0, Nat.zero_le _, rfl, 0, Lib.hid rfl⟩
  case round =>
    obtain ⟨k, hk, rfl, q, Hw⟩ := hrel
    by_cases hlt : k < n
    · have Ha' : RV wr a n c (ints xs) := by rw [Hw.out]; exact Ha.out.drewN q
      have Hb' : RV wr a' n c' (ints xs) := by rw [Hw.out]; exact Hb.out.drewN q
      obtain ⟨b, o, rfl, hb, hc⟩ := Ha'.cell (by omega)
      obtain ⟨b', o', rfl, hb', hc'⟩ := Hb'.cell (by omega)
      clear Ha' Hb'
      have e1 := hc k hlt
      have e2 := hc' k hlt
      have hlt' : (k : Int) < n := by omega
      clear hc hc'
      generalize xs.getD k 0 = u at *
      go_wp2
      go_quiet (fail)
      go_wp2
      go_roundw
      case rel => exact ⟨k + 1, by omega, by go_num, q + nq, Lib.hid (by rw [Hw.out, World.drewN_drewN])⟩
      case measure => simp [intOf]; omega
    · go_wp2
      go_ret
      exact ⟨rfl, q, Hw.out⟩

end Go.Proofs.YtimomjkeknlcgaaDoor
