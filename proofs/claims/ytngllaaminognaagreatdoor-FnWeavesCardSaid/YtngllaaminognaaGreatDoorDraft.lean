/-
  Strokes and drafts, by walks.
-/
import Derived.Test.YtngllaaminognaaGreatDoorCore
import Derived.Test.YtngllaaminognaaGreatDoorDraftPlain
import Derived.Test.YtngllaaminognaaGreatDoorShelf
import Derived.Shelf.Strings.SlTrimAscii
namespace Go.Proofs.YtngllaaminognaaGreatDoor
open Go.RowKit
set_option linter.unusedVariables false
set_option maxRecDepth 100000

theorem two_step {a b : UInt8} {l : List UInt8} {k : Nat} (h : two a b (l.take k) = true) (hk : k < l.length) (hc : l.getD k 0 = a ∨ l.getD k 0 = b) : two a b (l.take (k + 1)) = true := by
  rw [take_snocD (d := 0) hk]
  refine two_iff.2 fun c hx => ?_
  rcases List.mem_append.1 hx with hx | hx
  · exact two_iff.1 h c hx
  · simp at hx; subst hx; exact hc
theorem two_bad {a b : UInt8} {l : List UInt8} {k : Nat} (hk : k < l.length) (h1 : l.getD k 0 ≠ a) (h2 : l.getD k 0 ≠ b) : two a b l = false := by
  rw [← Bool.not_eq_true]
  intro h
  rcases two_iff.1 h _ (bat_mem hk) with e | e
  · exact h1 e
  · exact h2 e

set_option maxHeartbeats 1000000 in
theorem validStroke_any (s : ByteArray) (w : World) (hs : s.size ≤ maxLen) :
    Calls Tryz.prog 12 #[.string s] w fun e w' => e = .returned (.bool (vS s.data.toList)) ∧ Below w.heap.size w w' := by
  obtain ⟨l, Hl⟩ : ∃ l, Hid (l = s.data.toList) := ⟨_, rfl⟩
  have Hll := Lib.hid (show l.length = s.size by rw [Hl.out, size_list])
  rw [← Hl.out]
  obtain ⟨T, HT⟩ : ∃ T : ByteArray, Hid (T = str (Lib.trimS l [70, 66])) := ⟨_, rfl⟩
  have Htr := Lib.hid (fun (W : World) => by
    have h := Any.strings_Trim_laid Tryz.lays160 (by kernel_rfl) s ⟨#[70, 66]⟩ W (by unfold maxLen at hs; omega) (by decide) (ascii_of_all (by decide))
    rw [show (⟨(Lib.trimS s.data.toList (⟨#[70, 66]⟩ : ByteArray).data.toList).toArray⟩ : ByteArray) = T by rw [HT.out, Hl.out]; rfl] at h
    exact h)
  obtain ⟨N, hN⟩ : ∃ N, s.size = N := ⟨_, rfl⟩
  have hm : N ≤ 9223372036854775807 := by rw [← hN]; unfold maxLen at hs; omega
  rw [hN] at Hll
  have Hv := Lib.hid (show vS l = (decide (1 ≤ N) && decide (N ≤ 12) && two 70 66 l) by rw [vS, Hll.out])
  clear hs
  by_cases h1 : 1 ≤ N
  · have d1 : decide (1 ≤ (N : Int)) = true := by simp; omega
    have d1' : decide (1 ≤ N) = true := by simp [h1]
    by_cases h8 : N ≤ 12
    · have d8 : decide ((N : Int) ≤ 12) = true := by simp; omega
      have d8' : decide (N ≤ 12) = true := by simp [h8]
      cases h2 : two 70 66 l
      · have t1 : (T.toList == ([] : List UInt8)) = false := by rw [HT.out, str_toList]; simpa using trim_two' h2
        have t2 : (T.toList == (⟨#[]⟩ : ByteArray).toList) = false := by rw [show (⟨#[]⟩ : ByteArray).toList = [] from str_toList []]; exact t1
        rw [show vS l = false by rw [Hv.out, h2]; simp]
        clear h2 h1 h8
        go_enter Tryz.func12, Tryz.ntmps12
        go_wp2_with (go_at_call 22; refine (Htr.out _).mono ?_; rintro e w1 ⟨rfl, hb⟩)
        go_ret
        exact ⟨rfl, hb⟩
      · have t1 : (T.toList == ([] : List UInt8)) = true := by rw [HT.out, str_toList, trim_two h2]; rfl
        have t2 : (T.toList == (⟨#[]⟩ : ByteArray).toList) = true := by rw [show (⟨#[]⟩ : ByteArray).toList = [] from str_toList []]; exact t1
        rw [show vS l = true by rw [Hv.out, h2]; simp; omega]
        clear h2 h1 h8
        go_enter Tryz.func12, Tryz.ntmps12
        go_wp2_with (go_at_call 22; refine (Htr.out _).mono ?_; rintro e w1 ⟨rfl, hb⟩)
        go_ret
        exact ⟨rfl, hb⟩
    · have d8 : decide ((N : Int) ≤ 12) = false := by simp; omega
      have d8' : decide (N ≤ 12) = false := by simp [h8]
      rw [show vS l = false by rw [Hv.out, d8']; simp]
      go_enter Tryz.func12, Tryz.ntmps12
      go_wp2
      go_ret
      exact ⟨rfl, Below.refl _ _⟩
  · have d1 : decide (1 ≤ (N : Int)) = false := by simp; omega
    have d1' : decide (1 ≤ N) = false := by simp [h1]
    rw [show vS l = false by rw [Hv.out, d1']; simp]
    go_enter Tryz.func12, Tryz.ntmps12
    go_wp2
    go_ret
    exact ⟨rfl, Below.refl _ _⟩


theorem idx_pos {l : List UInt8} {c : UInt8} (h : c ∈ l) : 0 ≤ Lib.indexByte l c := by
  induction l with
  | nil => simp at h
  | cons b l ih =>
    unfold Lib.indexByte
    have hg := Lib.indexByte_ge l c
    by_cases hb : b = c
    · simp [hb]
    · have h2 : c ∈ l := by
        rcases List.mem_cons.1 h with e | e
        · exact absurd e.symm hb
        · exact e
      have h3 := ih h2
      have hb2 : (b == c) = false := by simp [hb]
      have h4 : (Lib.indexByte l c == -1) = false := by simp; omega
      rw [hb2, h4]
      simp; omega
theorem idx_neg {l : List UInt8} {c : UInt8} (h : c ∉ l) : ¬ 0 ≤ Lib.indexByte l c := by
  induction l with
  | nil => simp [Lib.indexByte]
  | cons b l ih =>
    unfold Lib.indexByte
    have hb : ¬ b = c := fun e => h (by simp [e])
    have h3 := ih (fun e => h (by simp [e]))
    have hg := Lib.indexByte_ge l c
    have hb2 : (b == c) = false := by simp [hb]
    have h4 : (Lib.indexByte l c == -1) = true := by simp; omega
    rw [hb2, h4]
    simp

def bothB (l : List UInt8) : Bool := decide ((70 : UInt8) ∈ l) && decide ((66 : UInt8) ∈ l)
theorem idx_mem (l : List UInt8) (c : UInt8) : decide (0 ≤ Lib.indexByte l c) = decide (c ∈ l) := by
  by_cases h : c ∈ l
  · rw [decide_eq_true h, decide_eq_true (idx_pos h)]
  · rw [decide_eq_false h, decide_eq_false (idx_neg h)]


theorem turn_ext (l : List UInt8) (s : ByteArray) (h : s.data.toList = l) (i : Nat) (hi : i ≤ s.size) : s.extract i s.size ++ s.extract 0 i = str (turnW l i) := by
  apply of_data
  rw [data_app]
  have hlen : l.length = s.size := by rw [← h]; rfl
  subst h
  simp [turnW, List.take_of_length_le]

end Go.Proofs.YtngllaaminognaaGreatDoor
