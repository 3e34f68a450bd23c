/-
  Strokes and drafts, by walks.
-/
import Derived.Test.YtflejjfkgkmcgaaGreatDoorCore
import Derived.Test.YtflejjfkgkmcgaaGreatDoorDraftPlain
import Derived.Test.YtflejjfkgkmcgaaGreatDoorShelf
import Derived.Shelf.Strings.SlTrimAscii
namespace Go.Proofs.YtflejjfkgkmcgaaGreatDoor
open Go.RowKit
set_option linter.unusedVariables false
set_option maxRecDepth 100000

theorem two_step {a b : UInt8} {l : List UInt8} {k : Nat} (h : two a b (l.take k) = true) (hk : k < l.length) (hc : l.getD k 0 = a ∨ l.getD k 0 = b) : two a b (l.take (k + 1)) = true := by
  rw [take_snocD (d := 0) hk]
  refine two_iff.2 fun c hx => ?_
  rcases List.mem_append.1 hx with hx | hx
  · exact two_iff.1 h c hx
  · simp at hx; subst hx; exact hc
theorem two_bad {a b : UInt8} {l : List UInt8} {k : Nat} (hk : k < l.length) (h1 : l.getD k 0 ≠ a) (h2 : l.getD k 0 ≠ b) : two a b l = false := by
  rw [← Bool.not_eq_true]
  intro h
  rcases two_iff.1 h _ (bat_mem hk) with e | e
  · exact h1 e
  · exact h2 e



theorem idx_pos {l : List UInt8} {c : UInt8} (h : c ∈ l) : 0 ≤ Lib.indexByte l c := by
  induction l with
  | nil => simp at h
  | cons b l ih =>
    unfold Lib.indexByte
    have hg := Lib.indexByte_ge l c
    by_cases hb : b = c
    · simp [hb]
    · have h2 : c ∈ l := by
        rcases List.mem_cons.1 h with e | e
        · exact absurd e.symm hb
        · exact e
      have h3 := ih h2
      have hb2 : (b == c) = false := by simp [hb]
      have h4 : (Lib.indexByte l c == -1) = false := by simp; omega
      rw [hb2, h4]
      simp; omega
theorem idx_neg {l : List UInt8} {c : UInt8} (h : c ∉ l) : ¬ 0 ≤ Lib.indexByte l c := by
  induction l with
  | nil => simp [Lib.indexByte]
  | cons b l ih =>
    unfold Lib.indexByte
    have hb : ¬ b = c := fun e => h (by simp [e])
    have h3 := ih (fun e => h (by simp [e]))
    have hg := Lib.indexByte_ge l c
    have hb2 : (b == c) = false := by simp [hb]
    have h4 : (Lib.indexByte l c == -1) = true := by simp; omega
    rw [hb2, h4]
    simp

def bothB (l : List UInt8) : Bool := decide ((70 : UInt8) ∈ l) && decide ((66 : UInt8) ∈ l)
theorem idx_mem (l : List UInt8) (c : UInt8) : decide (0 ≤ Lib.indexByte l c) = decide (c ∈ l) := by
  by_cases h : c ∈ l
  · rw [decide_eq_true h, decide_eq_true (idx_pos h)]
  · rw [decide_eq_false h, decide_eq_false (idx_neg h)]


theorem turn_ext (l : List UInt8) (s : ByteArray) (h : s.data.toList = l) (i : Nat) (hi : i ≤ s.size) : s.extract i s.size ++ s.extract 0 i = str (turnW l i) := by
  apply of_data
  rw [data_app]
  have hlen : l.length = s.size := by rw [← h]; rfl
  subst h
  simp [turnW, List.take_of_length_le]

set_option maxHeartbeats 2000000 in
theorem l09Turn_any (s : ByteArray) (w : World) (h12 : s.size ≤ 12) :
    Calls Tryz.prog 43 #[.string s] w fun e w' => e = .returned (.tuple #[.string (str (turnT s.data.toList)), .bool (goodI s.data.toList).isSome]) ∧ ∃ q, w' = w.drewN q := by
  obtain ⟨l, Hl⟩ : ∃ l, Hid (l = s.data.toList) := ⟨_, rfl⟩
  have Hll := Lib.hid (show l.length = s.size by rw [Hl.out, size_list])
  rw [← Hl.out]
  have Hg := Lib.hid (fun j (hj : j < s.size) => show (s[j]'hj).toNat = bat l j by rw [Hl.out]; exact bat_get hj)
  obtain ⟨T, HT⟩ : ∃ T, Hid (T = str (turnT l)) := ⟨_, rfl⟩
  obtain ⟨K, HK⟩ : ∃ K, Hid (K = (goodI l).isSome) := ⟨_, rfl⟩
  rw [← HT.out, ← HK.out]
  obtain ⟨N, hN⟩ : ∃ N, s.size = N := ⟨_, rfl⟩
  rw [hN] at h12 Hll
  go_enter Tryz.func43, Tryz.ntmps43
  go_wp2
  go_loopw [5] (fun i wr => ∃ k : Nat, k ≤ N ∧ i = .int .i64 k ∧ Hid (goodFrom l (N - k) k = goodI l) ∧ ∃ q, Hid (wr = w.drewN q)) (fun i _ => N - (intOf i).toNat)
  case atStart => exact ⟨0, Nat.zero_le _, rfl, Lib.hid (by unfold goodI; rw [Hll.out]; rfl), 0, Lib.hid rfl⟩
  case round =>
    obtain ⟨k, hk, rfl, Hgf, q, Hw⟩ := hrel
    by_cases hlt : k < N
    · have hks : k < s.size := by rw [hN]; exact hlt
      have Hst := Lib.hid (show goodI l = if goodT l k then some k else goodFrom l (N - (k + 1)) (k + 1) by
        rw [← Hgf.out, show N - k = (N - (k + 1)) + 1 by omega]; rfl)
      obtain ⟨j, hj⟩ : ∃ j, (k + N - 1) % N = j := ⟨_, rfl⟩
      have hjN : j < N := by rw [← hj]; exact Nat.mod_lt _ (by omega)
      have hjs : j < s.size := by rw [hN]; exact hjN
      have q1 : ((k : Int) + N - 1) % (N : Int) = (j : Int) := by
        rw [show (k : Int) + N - 1 = ((k + N - 1 : Nat) : Int) by omega, ← hj]; simp
      have q2 : ((k : Int) + N - 1).tmod (N : Int) = (j : Int) := by rw [Int.tmod_eq_emod_of_nonneg (by omega)]; exact q1
      have hz : (N : Int) ≠ 0 := by omega
      have hki : (k : Int) < N := by omega
      have hji : (j : Int) < N := by omega
      obtain ⟨c0, hc0⟩ : ∃ c : Nat, (s[k]'hks).toNat = c := ⟨_, rfl⟩
      obtain ⟨c1, hc1⟩ : ∃ c : Nat, (s[j]'hjs).toNat = c := ⟨_, rfl⟩
      have Hgt := Lib.hid (show goodT l k = ((c0 == 70) && (c1 == 66)) by
        unfold goodT
        rw [Hll.out, hj, ← hc0, ← hc1, Hg.out k hks, Hg.out j hjs])
      clear hj
      by_cases h0 : c0 = 70
      · have t0 : ((c0 : Int) == 70) = true := by simp [h0]
        have t0' : (c0 == 70) = true := by simp [h0]
        by_cases h1 : c1 = 66
        · have t1 : ((c1 : Int) == 66) = true := by simp [h1]
          have t1' : (c1 == 66) = true := by simp [h1]
          have Hi := Lib.hid (show goodI l = some k by rw [Hst.out, Hgt.out, t0', t1']; rfl)
          have Hext := Lib.hid (turn_ext l s Hl.out.symm k (by omega))
          obtain ⟨X, hX⟩ : ∃ X, s.extract k s.size = X := ⟨_, rfl⟩
          obtain ⟨Y, hY⟩ : ∃ Y, s.extract 0 k = Y := ⟨_, rfl⟩
          have hXs : X.size ≤ 12 := by rw [← hX]; simp; omega
          have hYs : Y.size ≤ 12 := by rw [← hY]; simp; omega
          have Hxy := Lib.hid (show X ++ Y = T by rw [← hX, ← hY, Hext.out, HT.out, turnT, Hi.out])
          have Hk := Lib.hid (show K = true by rw [HK.out, Hi.out]; rfl)
          rw [hN] at hX
          clear h0 h1
          go_wp2
          go_quiet (fail)
          go_wp2
          go_ret2
          have e1 := Hxy.out
          have e2 := Hk.out
          subst e1
          subst e2
          exact ⟨rfl, q + nq, by rw [Hw.out, World.drewN_drewN]⟩
        · have t1 : ((c1 : Int) == 66) = false := by simp; omega
          have t1' : (c1 == 66) = false := by simp [h1]
          have Hn := Lib.hid (show goodFrom l (N - (k + 1)) (k + 1) = goodI l by rw [Hst.out, Hgt.out, t0', t1']; rfl)
          clear h0 h1
          go_wp2
          go_roundw
          case rel => exact ⟨k + 1, by omega, by go_num, Hn, q, Hw⟩
          case measure => simp [intOf]; omega
      · have t0 : ((c0 : Int) == 70) = false := by simp; omega
        have t0' : (c0 == 70) = false := by simp [h0]
        have Hn := Lib.hid (show goodFrom l (N - (k + 1)) (k + 1) = goodI l by rw [Hst.out, Hgt.out, t0']; rfl)
        clear h0
        go_wp2
        go_roundw
        case rel => exact ⟨k + 1, by omega, by go_num, Hn, q, Hw⟩
        case measure => simp [intOf]; omega
    · have hi : goodI l = none := by rw [← Hgf.out, show N - k = 0 by omega]; rfl
      have Ht := Lib.hid (show T = ⟨#[]⟩ by rw [HT.out, turnT, hi]; rfl)
      have Hk := Lib.hid (show K = false by rw [HK.out, hi]; rfl)
      clear hi
      go_wp2
      go_ret2
      have e1 := Ht.out
      have e2 := Hk.out
      subst e1
      subst e2
      exact ⟨rfl, q, Hw.out⟩
end Go.Proofs.YtflejjfkgkmcgaaGreatDoor
