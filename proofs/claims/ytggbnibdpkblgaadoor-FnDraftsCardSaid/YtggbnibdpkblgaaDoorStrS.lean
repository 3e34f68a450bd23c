/-
  Slices of texts: equality, marks, what is held, by walks.
-/
import Derived.Test.YtggbnibdpkblgaaDoorCore
import Derived.Test.YtggbnibdpkblgaaDoorStrs
import Derived.Deep.RegionHeld3
namespace Go.Proofs.YtggbnibdpkblgaaDoor
open Go.RowKit
set_option linter.unusedVariables false

abbrev strs (L : List (List UInt8)) : List Value := L.map fun l => .string (str l)
theorem info_str : (Tryd.prog.info? 9).map (fun i => (i.zero, i.size, i.bytes)) = some (some (.string ⟨#[]⟩), 1, 16) := by kernel_rfl
theorem info_u8s : (Tryd.prog.info? 5).map (fun i => (i.zero, i.size, i.bytes)) = some (some (.int .u8 0), 1, 1) := by kernel_rfl
theorem strs_get {L : List (List UInt8)} {k : Nat} (h : k < L.length) : (strs L)[k]? = some (.string (str (L.getD k []))) := by simp [h]
theorem Own.sliceS {w : World} {lo hi : Nat} {e : TypeId} {v : Value} {L : List (List UInt8)} (h : Own w lo hi e v (strs L)) : ∃ a c, v = .slice a L.length c ∧ RV w a L.length c (strs L) := by
  obtain ⟨a, c, h1, h2⟩ := h.slice
  simp only [List.length_map] at h1 h2
  exact ⟨a, c, h1, h2⟩
theorem RV.lenS {w : World} {a : Option Addr} {n c : Nat} {L : List (List UInt8)} (h : RV w a n c (strs L)) : L.length = n := by simpa using h.1

/-- a list of texts as a result -/
def RetS (w : World) (e : TypeId) (R : List (List UInt8) × Int) (en : Ending) (w' : World) : Prop :=
  ∃ v : Value, en = .returned (.tuple #[v, .int .i64 R.2]) ∧ Own w' w.heap.size w'.heap.size e v (strs R.1) ∧ Below w.heap.size w w'

/-! ### marks -/
def digs (k : Nat) : List UInt8 := if h : k = 0 then [] else digs (k / 10) ++ [UInt8.ofNat (48 + k % 10)]
termination_by k
decreasing_by omega
theorem digs_step {k : Nat} (h : 0 < k) : digs k = digs (k / 10) ++ [UInt8.ofNat (48 + k % 10)] := by
  rw [digs, dif_neg (by omega)]
theorem digs_zero : digs 0 = [] := by rw [digs]; rfl
def markT (k : Nat) : List UInt8 := 109 :: digs k
def marksT (k n : Nat) : List (List UInt8) := (List.range n).map fun i => markT (k + i)
theorem marksT_len (k n : Nat) : (marksT k n).length = n := by simp [marksT]
theorem marksT_get {k n i : Nat} (h : i < n) : (marksT k n).getD i [] = markT (k + i) := by simp [marksT, h]



/-- the first j texts are marked -/
def markedS (k : Nat) (L : List (List UInt8)) (j : Nat) : List (List UInt8) := marksT k j ++ L.drop j
theorem markedS_zero (k : Nat) (L : List (List UInt8)) : markedS k L 0 = L := by simp [markedS, marksT]
theorem markedS_length (k : Nat) (L : List (List UInt8)) {j : Nat} (h : j ≤ L.length) : (markedS k L j).length = L.length := by simp [markedS, marksT_len]; omega
theorem markedS_all (k : Nat) (L : List (List UInt8)) {j : Nat} (h : j = L.length) : markedS k L j = marksT k L.length := by subst h; simp [markedS]
theorem markedS_step (k : Nat) (L : List (List UInt8)) {j : Nat} (h : j < L.length) : (strs (markedS k L j)).set j (.string (str (markT (k + j)))) = strs (markedS k L (j + 1)) := by
  apply List.ext_getElem?
  intro i
  simp only [markedS, List.getElem?_set, List.length_append, List.length_map, marksT_len, List.length_drop, List.getElem?_append, List.getElem?_map]
  by_cases h1 : j = i
  · subst h1
    simp [marksT]; omega
  · by_cases h2 : i < j
    · simp [marksT, h1, h2, show i < j + 1 by omega]
    · have h3 : ¬ i < j + 1 := by omega
      simp [h1, h2, h3, show j + (i - j) = i by omega, show j + 1 + (i - (j + 1)) = i by omega]



end Go.Proofs.YtggbnibdpkblgaaDoor
