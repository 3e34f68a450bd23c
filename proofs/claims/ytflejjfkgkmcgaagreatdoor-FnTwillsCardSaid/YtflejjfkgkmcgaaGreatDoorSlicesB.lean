/-
  The library's Reverse over []byte, on a buffer of the caller's.
-/
import Derived.Test.YtflejjfkgkmcgaaGreatDoorRepl4
import Derived.Deep.RegionLaw
namespace Go.Proofs.YtflejjfkgkmcgaaGreatDoor
open Go Go.RowKit
set_option linter.unusedVariables false

/-- the first k elements and the last k are exchanged -/
def turnB (xs : List UInt8) (k : Nat) : List UInt8 := (List.range xs.length).map fun i => if i < k ∨ xs.length < i + 1 + k then xs.getD (xs.length - 1 - i) 0 else xs.getD i 0
theorem turnB_length (xs : List UInt8) (k : Nat) : (turnB xs k).length = xs.length := by simp [turnB]
theorem turnB_zero (xs : List UInt8) : turnB xs 0 = xs := by
  apply List.ext_getElem (by simp [turnB])
  intro i h1 h2
  simp [turnB, h2]; omega
theorem turnB_get {xs : List UInt8} {k i : Nat} (h1 : k ≤ i) (h2 : i + 1 + k ≤ xs.length) : (turnB xs k).getD i 0 = xs.getD i 0 := by
  have : i < xs.length := by omega
  simp [turnB, this]; omega
theorem turnB_all {xs : List UInt8} {k : Nat} (h : xs.length ≤ 2 * k + 1) : turnB xs k = xs.reverse := by
  apply List.ext_getElem (by simp [turnB])
  intro i h1 h2
  simp only [List.length_reverse] at h2
  simp only [turnB, List.getElem_map, List.getElem_range, List.getElem_reverse]
  split
  · simp [show xs.length - 1 - i < xs.length by omega]
  · have : xs.length - 1 - i = i := by omega
    simp [h2, this]
theorem turnB_step {xs : List UInt8} {k j : Nat} (h : k + j + 1 = xs.length) (hk : k < j) : ((turnB xs k).set k (xs.getD j 0)).set j (xs.getD k 0) = turnB xs (k + 1) := by
  apply List.ext_getElem?
  intro i
  simp only [List.getElem?_set, List.length_set, turnB_length]
  by_cases hi : i < xs.length
  · simp only [turnB, List.getElem?_map, List.getElem?_range hi, Option.map_some]
    by_cases h1 : j = i
    · subst h1
      rw [if_pos rfl, if_pos hi, if_pos (by omega)]
      rw [show xs.length - 1 - j = k by omega]
    · rw [if_neg h1]
      by_cases h2 : k = i
      · subst h2
        rw [if_pos rfl, if_pos hi, if_pos (by omega), show xs.length - 1 - k = j by omega]
      · rw [if_neg h2]
        by_cases h3 : i < k ∨ xs.length < i + 1 + k
        · rw [if_pos h3, if_pos (by omega)]
        · rw [if_neg h3, if_neg (by omega)]
  · have e1 : (turnB xs k)[i]? = none := by rw [List.getElem?_eq_none_iff, turnB_length]; omega
    have e2 : (turnB xs (k + 1))[i]? = none := by rw [List.getElem?_eq_none_iff, turnB_length]; omega
    rw [e1, e2]
    rw [if_neg (by omega), if_neg (by omega)]

theorem grownBy_trans {a b c : World} {row : Option Nat} (h : a.grownBy b row) (k : b.grownBy c row) : a.grownBy c row :=
  ⟨k.os.trans h.os, k.tape.trans h.tape, k.output.trans h.output, Nat.le_trans h.size k.size, fun i hi hne => (k.block i (Nat.lt_of_lt_of_le hi h.size) hne).trans (h.block i hi hne)⟩
theorem grownBy_drew {a b : World} {row : Option Nat} (h : a.grownBy b row) : a.grownBy b.drew row := ⟨h.os, h.tape, h.output, h.size, h.block⟩

set_option maxHeartbeats 1000000 in
theorem slReverseB_any (g cap : Nat) (xs : List UInt8) (w : World) (h1 : 1 ≤ xs.length) (h2 : xs.length ≤ 1000) (ho : BufAt w g xs) :
    Calls Tryz.prog 41 #[.slice (some ⟨g, 0, none⟩) xs.length cap] w fun e w' => e = .returned (.tuple #[]) ∧ BufAt w' g xs.reverse ∧ w.grownBy w' (some g) := by
  generalize hn : xs.length = n at *
  have Hn := Lib.hid hn
  clear hn
  go_enter Tryz.func41, Tryz.ntmps41
  go_wp2
  go_loopw [2, 3] (fun i j wr => ∃ k q : Nat, i = .int .i64 k ∧ j = .int .i64 q ∧ Hid (k + q + 1 = n) ∧ k ≤ q + 1 ∧ BufAt wr g (turnB xs k) ∧ w.grownBy wr (some g)) (fun i _ _ => n - (intOf i).toNat)
  case atStart => exact ⟨0, n - 1, rfl, by go_num, Lib.hid (by omega), by omega, by rw [turnB_zero]; exact ho, World.grownBy.refl _ _⟩
  case round =>
    obtain ⟨k, q, rfl, rfl, Hkq, hkq, hown, hgr⟩ := hrel
    by_cases hlt : k < q
    · have hq : q < n := by have := Hkq.out; omega
      have hT : ∀ i, i < n → k ≤ i → i + 1 + k ≤ n → wr.cell? ⟨g, i, none⟩ = some (.int .u8 (xs.getD i 0).toNat) := by
        intro i hi h3 h4
        have h5 := (hown.2 i (by rw [turnB_length, Hn.out]; exact hi)).1
        have h6 := turnB_get (xs := xs) (k := k) (i := i) h3 (by have := Hn.out; omega)
        rw [h5]; unfold bat; rw [h6]
      have e1 := hT k (by omega) (Nat.le_refl _) (by have := Hkq.out; omega)
      have e2 := hT q hq (by omega) (by have := Hkq.out; omega)
      have f1 := (hown.2 k (by rw [turnB_length, Hn.out]; omega)).2
      have f2 := (hown.2 q (by rw [turnB_length, Hn.out]; omega)).2
      have hs2 := (hown.set (i := k) (by rw [turnB_length, Hn.out]; omega) (xs.getD q 0)).set (i := q) (by rw [List.length_set, turnB_length, Hn.out]; omega) (xs.getD k 0)
      rw [turnB_step (by have := Hn.out; have := Hkq.out; omega) hlt] at hs2
      have Hs := Lib.hid hs2
      have Hg := Lib.hid hgr
      clear hs2 hT hown hgr
      have hne : k ≠ q := by omega
      have hne' : q ≠ k := by omega
      generalize xs.getD k 0 = u at *
      generalize xs.getD q 0 = v at *
      go_wp2
      go_region
      go_wp2
      go_roundw
      case rel => exact ⟨k + 1, q - 1, by go_num, by go_num, Lib.hid (by have := Hkq.out; omega), by omega, Hs.out, grownBy_drew (grownBy_trans Hg.out (grownBy_trans (gsetK _ g k _) (gsetK _ g q _)))⟩
      case measure => simp [intOf]; omega
    · have hfin : turnB xs k = xs.reverse := turnB_all (by have := Hn.out; have := Hkq.out; omega)
      rw [hfin] at hown
      have Hown := Lib.hid hown
      have Hg := Lib.hid hgr
      clear hown hgr
      go_wp2
      go_end0
      exact ⟨rfl, Hown.out, Hg.out⟩
end Go.Proofs.YtflejjfkgkmcgaaGreatDoor
