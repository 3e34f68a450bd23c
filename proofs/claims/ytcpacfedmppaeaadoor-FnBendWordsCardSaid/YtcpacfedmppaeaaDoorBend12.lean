/-
  Bends: the lists of words, by walks.
-/
import Derived.Test.YtcpacfedmppaeaaDoorBend11
namespace Go.Proofs.YtcpacfedmppaeaaDoor
open Go.RowKit
set_option linter.unusedVariables false

def listR (n : Int) : List (List UInt8) × Int := if inB n 1 8 then (listTo n.toNat (2 ^ n.toNat), 0) else ([], 2)
theorem listR_len (n : Int) : (listR n).1.length ≤ 256 := by
  unfold listR
  split
  · next h =>
    have h2 := inB_iff.1 h
    have h3 := listTo_len n.toNat (2 ^ n.toNat)
    have h4 : 2 ^ n.toNat ≤ 2 ^ 8 := pow_le (by omega)
    show (listTo n.toNat (2 ^ n.toNat)).length ≤ 256
    omega
  · simp

theorem listWordsE_any (n : Int) (w : World) :
    Calls Tryd.prog 17 #[.int .i64 n] w fun e w' => RetS w 9 (listR n) e w' := by
  cases h : inB n 1 8
  · rw [show listR n = ([], 2) by simp [listR, h]]
    go_enter Tryd.func17, Tryd.ntmps17
    go_wp2_with (go_at_call 50; refine (within_any _ _ _ _).mono ?_; rintro e w2 ⟨rfl, rfl⟩)
    go_ret2
    exact ⟨_, rfl, Own.nil _ _ _ _, Below.refl _ _⟩
  · have h2 := inB_iff.1 h
    obtain ⟨m, rfl⟩ : ∃ m : Nat, n = (m : Int) := ⟨n.toNat, by omega⟩
    rw [show listR m = (listTo m (2 ^ m), 0) by rw [listR, h, if_pos rfl, Int.toNat_natCast]]
    have Hl := Lib.hid (fun W => listWords_any m W (by omega))
    generalize listTo m (2 ^ m) = L at *
    go_enter Tryd.func17, Tryd.ntmps17
    go_wp2_with (first | (go_at_call 50; refine (within_any _ _ _ _).mono ?_; rintro e w2 ⟨rfl, rfl⟩) | (go_at_call 51; refine (Hl.out _).mono ?_; rintro e w3 ⟨v, rfl, ho, hb⟩))
    go_ret2
    exact ⟨_, rfl, ho, hb⟩

theorem specListWords_any (n : Int) (w : World) :
    Calls Tryd.prog 18 #[.int .i64 n] w fun e w' => RetS w 9 (listR n) e w' := by
  cases h : inB n 1 8
  · rw [show listR n = ([], 2) by simp [listR, h]]
    go_enter Tryd.func18, Tryd.ntmps18
    go_wp2_with (go_at_call 44; refine (l00In_any _ _ _ _).mono ?_; rintro e w2 ⟨rfl, rfl⟩)
    go_ret2
    exact ⟨_, rfl, Own.nil _ _ _ _, Below.refl _ _⟩
  · have h2 := inB_iff.1 h
    obtain ⟨m, rfl⟩ : ∃ m : Nat, n = (m : Int) := ⟨n.toNat, by omega⟩
    rw [show listR m = (listTo m (2 ^ m), 0) by rw [listR, h, if_pos rfl, Int.toNat_natCast]]
    have Hl := Lib.hid (fun W => l11List_any m W (by omega))
    generalize listTo m (2 ^ m) = L at *
    go_enter Tryd.func18, Tryd.ntmps18
    go_wp2_with (first | (go_at_call 44; refine (l00In_any _ _ _ _).mono ?_; rintro e w2 ⟨rfl, rfl⟩) | (go_at_call 52; refine (Hl.out _).mono ?_; rintro e w3 ⟨v, rfl, ho, hb⟩))
    go_ret2
    exact ⟨_, rfl, ho, hb⟩
end Go.Proofs.YtcpacfedmppaeaaDoor
