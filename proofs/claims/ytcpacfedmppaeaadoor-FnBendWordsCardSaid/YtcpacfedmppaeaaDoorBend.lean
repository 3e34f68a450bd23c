/-
  Bends: valid words and their codes, by walks.
-/
import Derived.Test.YtcpacfedmppaeaaDoorCore
import Derived.Test.YtcpacfedmppaeaaDoorStrs
import Derived.Test.YtcpacfedmppaeaaDoorShelf
import Derived.Deep.RegionHeld3
import Derived.Lib.OthersKept
import Derived.Shelf.Strings.SlTrimAscii
namespace Go.Proofs.YtcpacfedmppaeaaDoor
open Go.RowKit
set_option linter.unusedVariables false

abbrev rt2 (R : Int × Int) : Ending := .returned (.tuple #[.int .i64 R.1, .int .i64 R.2])
abbrev rtb (R : Bool × Int) : Ending := .returned (.tuple #[.bool R.1, .int .i64 R.2])

def vB (l : List UInt8) : Bool := decide (1 ≤ l.length) && decide (l.length ≤ 8) && two 98 102 l
theorem vB_iff {l : List UInt8} : vB l = true ↔ 1 ≤ l.length ∧ l.length ≤ 8 ∧ two 98 102 l = true := by
  simp [vB, and_assoc]
def codeB (l : List UInt8) (st k : Int) : Int := if vB l then if inB st ((l.length : Int) + 2) 40 && inB k 0 (st - 1) then 0 else 2 else 7
theorem codeB_ok {l : List UInt8} {st k : Int} (h : codeB l st k = 0) : vB l = true ∧ ((l.length : Int) + 2 ≤ st ∧ st ≤ 40) ∧ (0 ≤ k ∧ k < st) := by
  unfold codeB at h
  split at h
  · next hv =>
    split at h
    · next h2 =>
      rw [Bool.and_eq_true] at h2
      have h3 := inB_iff.1 h2.1
      have h4 := inB_iff.1 h2.2
      exact ⟨hv, h3, by omega⟩
    · omega
  · omega

/-! ### words that are valid -/
theorem take_snocB {α : Type} {l : List α} {d : α} {k : Nat} (hk : k < l.length) : l.take (k + 1) = l.take k ++ [l.getD k d] := by
  rw [List.take_add_one]
  simp [hk]
theorem two_step {a b : UInt8} {l : List UInt8} {k : Nat} (h : two a b (l.take k) = true) (hk : k < l.length) (hc : l.getD k 0 = a ∨ l.getD k 0 = b) : two a b (l.take (k + 1)) = true := by
  rw [take_snocB (d := 0) hk]
  refine two_iff.2 fun c hx => ?_
  rcases List.mem_append.1 hx with hx | hx
  · exact two_iff.1 h c hx
  · simp at hx; subst hx; exact hc
theorem two_bad {a b : UInt8} {l : List UInt8} {k : Nat} (hk : k < l.length) (h1 : l.getD k 0 ≠ a) (h2 : l.getD k 0 ≠ b) : two a b l = false := by
  rw [← Bool.not_eq_true]
  intro h
  rcases two_iff.1 h _ (bat_mem hk) with e | e
  · exact h1 e
  · exact h2 e

set_option maxHeartbeats 1000000 in
theorem validBends_any (s : ByteArray) (w : World) (hs : s.size ≤ maxLen) :
    Calls Tryd.prog 21 #[.string s] w fun e w' => e = .returned (.bool (vB s.data.toList)) ∧ Below w.heap.size w w' := by
  obtain ⟨l, Hl⟩ : ∃ l, Hid (l = s.data.toList) := ⟨_, rfl⟩
  have Hll := Lib.hid (show l.length = s.size by rw [Hl.out, size_list])
  rw [← Hl.out]
  obtain ⟨T, HT⟩ : ∃ T : ByteArray, Hid (T = str (Lib.trimS l [98, 102])) := ⟨_, rfl⟩
  have Htr := Lib.hid (fun (W : World) => by
    have h := Any.strings_Trim_laid Tryd.lays160 (by kernel_rfl) s ⟨#[98, 102]⟩ W (by unfold maxLen at hs; omega) (by decide) (ascii_of_all (by decide))
    rw [show (⟨(Lib.trimS s.data.toList (⟨#[98, 102]⟩ : ByteArray).data.toList).toArray⟩ : ByteArray) = T by rw [HT.out, Hl.out]; rfl] at h
    exact h)
  obtain ⟨N, hN⟩ : ∃ N, s.size = N := ⟨_, rfl⟩
  have hm : N ≤ 9223372036854775807 := by rw [← hN]; unfold maxLen at hs; omega
  rw [hN] at Hll
  have Hv := Lib.hid (show vB l = (decide (1 ≤ N) && decide (N ≤ 8) && two 98 102 l) by rw [vB, Hll.out])
  clear hs
  by_cases h1 : 1 ≤ N
  · have d1 : decide (1 ≤ (N : Int)) = true := by simp; omega
    have d1' : decide (1 ≤ N) = true := by simp [h1]
    by_cases h8 : N ≤ 8
    · have d8 : decide ((N : Int) ≤ 8) = true := by simp; omega
      have d8' : decide (N ≤ 8) = true := by simp [h8]
      cases h2 : two 98 102 l
      · have t1 : (T.toList == ([] : List UInt8)) = false := by rw [HT.out, str_toList]; simpa using trim_two' h2
        have t2 : (T.toList == (⟨#[]⟩ : ByteArray).toList) = false := by rw [show (⟨#[]⟩ : ByteArray).toList = [] from str_toList []]; exact t1
        rw [show vB l = false by rw [Hv.out, h2]; simp]
        clear h2 h1 h8
        go_enter Tryd.func21, Tryd.ntmps21
        go_wp2_with (go_at_call 53; refine (Htr.out _).mono ?_; rintro e w1 ⟨rfl, hb⟩)
        go_ret
        exact ⟨rfl, hb⟩
      · have t1 : (T.toList == ([] : List UInt8)) = true := by rw [HT.out, str_toList, trim_two h2]; rfl
        have t2 : (T.toList == (⟨#[]⟩ : ByteArray).toList) = true := by rw [show (⟨#[]⟩ : ByteArray).toList = [] from str_toList []]; exact t1
        rw [show vB l = true by rw [Hv.out, h2]; simp; omega]
        clear h2 h1 h8
        go_enter Tryd.func21, Tryd.ntmps21
        go_wp2_with (go_at_call 53; refine (Htr.out _).mono ?_; rintro e w1 ⟨rfl, hb⟩)
        go_ret
        exact ⟨rfl, hb⟩
    · have d8 : decide ((N : Int) ≤ 8) = false := by simp; omega
      have d8' : decide (N ≤ 8) = false := by simp [h8]
      rw [show vB l = false by rw [Hv.out, d8']; simp]
      go_enter Tryd.func21, Tryd.ntmps21
      go_wp2
      go_ret
      exact ⟨rfl, Below.refl _ _⟩
  · have d1 : decide (1 ≤ (N : Int)) = false := by simp; omega
    have d1' : decide (1 ≤ N) = false := by simp [h1]
    rw [show vB l = false by rw [Hv.out, d1']; simp]
    go_enter Tryd.func21, Tryd.ntmps21
    go_wp2
    go_ret
    exact ⟨rfl, Below.refl _ _⟩

set_option maxHeartbeats 1000000 in
theorem l11Ok_any (s : ByteArray) (w : World) (hs : s.size ≤ maxLen) :
    Calls Tryd.prog 54 #[.string s] w fun e w' => e = .returned (.bool (vB s.data.toList)) ∧ ∃ q, w' = w.drewN q := by
  obtain ⟨l, Hl⟩ : ∃ l, Hid (l = s.data.toList) := ⟨_, rfl⟩
  have Hll := Lib.hid (show l.length = s.size by rw [Hl.out, size_list])
  rw [← Hl.out]
  have hm : s.size ≤ 9223372036854775807 := by unfold maxLen at hs; omega
  have Hv := Lib.hid (show vB l = (inB s.size 1 8 && two 98 102 l) by
    rw [vB, Hll.out, inB]
    congr 1
    congr 1
    · apply decide_eq_decide.2; omega
    · apply decide_eq_decide.2; omega)
  have Hg := Lib.hid (fun k (hk : k < s.size) => show s[k]'hk = l.getD k 0 by
    have h2 : k < s.data.toList.length := hk
    rw [Hl.out]
    simp only [List.getD_eq_getElem?_getD, List.getElem?_eq_getElem h2, Option.getD_some, Array.getElem_toList]
    rfl)
  clear hs
  go_enter Tryd.func54, Tryd.ntmps54
  go_wp2
  go_loopw [3] (fun i wr => ∃ k : Nat, k ≤ s.size ∧ i = .int .i64 k ∧ Hid (two 98 102 (l.take k) = true) ∧ ∃ q, Hid (wr = w.drewN q)) (fun i _ => s.size - (intOf i).toNat)
  case atStart => exact ⟨0, Nat.zero_le _, rfl, Lib.hid (by simp [two]), 0, Lib.hid rfl⟩
  case round =>
    obtain ⟨k, hk, rfl, HP, q, Hw⟩ := hrel
    by_cases hlt : k < s.size
    · by_cases h98 : s[k]'hlt = 98
      · have e1 : (((s[k]'hlt).toNat : Int) != 98) = false := by rw [h98]; rfl
        have e1' : ((s[k]'hlt).toNat != 98) = false := by rw [h98]; rfl
        have e2 : (((s[k]'hlt).toNat : Int) == 98) = true := by rw [h98]; rfl
        have e2' : ((s[k]'hlt).toNat == 98) = true := by rw [h98]; rfl
        have Hc := Lib.hid (show two 98 102 (l.take (k + 1)) = true from two_step HP.out (by rw [Hll.out]; exact hlt) (.inl (by rw [← Hg.out k hlt]; exact h98)))
        clear h98
        go_wp2
        go_roundw
        case rel => exact ⟨k + 1, by omega, by go_num, Hc, q, Hw⟩
        case measure => simp [intOf]; omega
      · have hn1 : (s[k]'hlt).toNat ≠ 98 := fun h => h98 (UInt8.toNat_inj.1 h)
        have e1 : (((s[k]'hlt).toNat : Int) != 98) = true := by simp; omega
        have e1' : ((s[k]'hlt).toNat != 98) = true := by simp [hn1]
        have e2 : (((s[k]'hlt).toNat : Int) == 98) = false := by simp; omega
        have e2' : ((s[k]'hlt).toNat == 98) = false := by simp [hn1]
        by_cases h102 : s[k]'hlt = 102
        · have f1 : (((s[k]'hlt).toNat : Int) != 102) = false := by rw [h102]; rfl
          have f1' : ((s[k]'hlt).toNat != 102) = false := by rw [h102]; rfl
          have f2 : (((s[k]'hlt).toNat : Int) == 102) = true := by rw [h102]; rfl
          have f2' : ((s[k]'hlt).toNat == 102) = true := by rw [h102]; rfl
          have Hc := Lib.hid (show two 98 102 (l.take (k + 1)) = true from two_step HP.out (by rw [Hll.out]; exact hlt) (.inr (by rw [← Hg.out k hlt]; exact h102)))
          clear h98 h102 hn1
          go_wp2
          go_roundw
          case rel => exact ⟨k + 1, by omega, by go_num, Hc, q, Hw⟩
          case measure => simp [intOf]; omega
        · have hn2 : (s[k]'hlt).toNat ≠ 102 := fun h => h102 (UInt8.toNat_inj.1 h)
          have f1 : (((s[k]'hlt).toNat : Int) != 102) = true := by simp; omega
          have f1' : ((s[k]'hlt).toNat != 102) = true := by simp [hn2]
          have f2 : (((s[k]'hlt).toNat : Int) == 102) = false := by simp; omega
          have f2' : ((s[k]'hlt).toNat == 102) = false := by simp [hn2]
          have Hf := Lib.hid (show vB l = false by
            rw [Hv.out, two_bad (k := k) (by rw [Hll.out]; exact hlt) (by rw [← Hg.out k hlt]; exact h98) (by rw [← Hg.out k hlt]; exact h102)]
            simp)
          clear h98 h102 hn1 hn2
          go_wp2
          go_ret
          exact ⟨ret_bool Hf.out.symm, q, Hw.out⟩
    · have hkn : k = s.size := by omega
      have Hf := Lib.hid (show vB l = inB s.size 1 8 by
        have h := HP.out
        rw [hkn, List.take_of_length_le (by rw [Hll.out]; omega)] at h
        rw [Hv.out, h, Bool.and_true])
      clear hkn
      go_wp2_with (go_at_call 44; refine (l00In_any _ _ _ _).mono ?_; rintro e w1 ⟨rfl, rfl⟩)
      go_ret
      exact ⟨ret_bool Hf.out.symm, q, Hw.out⟩

theorem specValidBends_any (s : ByteArray) (w : World) (hs : s.size ≤ maxLen) :
    Calls Tryd.prog 22 #[.string s] w fun e w' => e = .returned (.bool (vB s.data.toList)) ∧ ∃ q, w' = w.drewN q := by
  go_enter Tryd.func22, Tryd.ntmps22
  go_wp2_with (go_at_call 54; refine (l11Ok_any _ _ hs).mono ?_; rintro e w1 ⟨rfl, q, rfl⟩)
  go_ret
  exact ⟨rfl, q, rfl⟩
end Go.Proofs.YtcpacfedmppaeaaDoor
