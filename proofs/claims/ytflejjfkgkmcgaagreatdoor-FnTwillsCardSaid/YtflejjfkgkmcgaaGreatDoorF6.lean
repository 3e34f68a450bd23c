/-
  Helpers of the laws: too many bytes; equal lists.
-/
import Derived.Test.YtflejjfkgkmcgaaGreatDoorCore
namespace Go.Proofs.YtflejjfkgkmcgaaGreatDoor
open Go.RowKit
set_option linter.unusedVariables false

theorem f6big_any (p : Option Addr) (n c : Nat) (w : World) (hn : n ≤ 9223372036854775807) : Calls Tryz.prog 4 #[.slice p n c] w fun e w' => e = .returned (.bool (decide ((4096 : Int) < n))) ∧ w = w' := by
  go_enter Tryz.func4, Tryz.ntmps4
  go_wp2
  go_ret
  exact ⟨rfl, rfl⟩


set_option maxHeartbeats 1000000 in
theorem f6texts_yes (a a' : Option Addr) (n c c' : Nat) (xs : List ByteArray) (w : World) (ha : RV w a n c (xs.map .string)) (hb : RV w a' n c' (xs.map .string)) :
    Calls Tryz.prog 16 #[.slice a n c, .slice a' n c'] w fun e w' => e = .returned (.bool true) ∧ ∃ q, w' = w.drewN q := by
  have hm := ha.small
  have Hl := Lib.hid (show xs.length = n by simpa using ha.1)
  have Ha := Lib.hid ha
  have Hb := Lib.hid hb
  clear ha hb
  go_enter Tryz.func16, Tryz.ntmps16
  go_wp2
  go_loopw [5] (fun i wr => ∃ k : Nat, k ≤ n ∧ i = .int .i64 k ∧ ∃ q, Hid (wr = w.drewN q)) (fun i _ => n - (intOf i).toNat)
  case atStart => exact ⟨0, Nat.zero_le _, rfl, 0, Lib.hid rfl⟩
  case round =>
    obtain ⟨k, hk, rfl, q, Hw⟩ := hrel
    by_cases hlt : k < n
    · have Ha' : RV wr a n c (xs.map .string) := by rw [Hw.out]; exact Ha.out.drewN q
      have Hb' : RV wr a' n c' (xs.map .string) := by rw [Hw.out]; exact Hb.out.drewN q
      obtain ⟨b, o, rfl, hb, hc⟩ := Ha'.cellv (by omega)
      obtain ⟨b', o', rfl, hb', hc'⟩ := Hb'.cellv (by omega)
      clear Ha' Hb'
      have hkl : k < xs.length := by rw [Hl.out]; exact hlt
      have e1 := hc k (.string xs[k]) (by simp [hkl])
      have e2 := hc' k (.string xs[k]) (by simp [hkl])
      have hlt' : (k : Int) < n := by omega
      clear hc hc'
      generalize xs[k] = u at *
      go_wp2
      go_quiet (fail)
      go_wp2
      go_roundw
      case rel => exact ⟨k + 1, by omega, by go_num, q + nq, Lib.hid (by rw [Hw.out, World.drewN_drewN])⟩
      case measure => simp [intOf]; omega
    · go_wp2
      go_ret
      exact ⟨rfl, q, Hw.out⟩
end Go.Proofs.YtflejjfkgkmcgaaGreatDoor
