/-
  Bends: the first word, and whether two borders are the same, by walks.
-/
import Derived.Test.YtcpacfedmppaeaaDoorBend5
namespace Go.Proofs.YtcpacfedmppaeaaDoor
open Go.RowKit
set_option linter.unusedVariables false

abbrev rtS (R : ByteArray × Int) : Ending := .returned (.tuple #[.string R.1, .int .i64 R.2])
def firstWR (l : List UInt8) : ByteArray × Int := if vB l then (str (firstW l), 0) else (⟨#[]⟩, 7)
def sameWR (a b : List UInt8) : Bool × Int := if vB a && vB b then (firstW a == firstW b, 0) else (false, 7)
theorem firstW_len (l : List UInt8) : (firstW l).length = l.length := firstTo_len l _
theorem same_len {a b : List UInt8} (h : a.length ≠ b.length) : (firstW a == firstW b) = false := by
  rw [beq_eq_false_iff_ne]
  intro e
  have := congrArg List.length e
  rw [firstW_len, firstW_len] at this
  exact h this

theorem firstWordE_any (s : ByteArray) (w : World) (hs : s.size ≤ maxLen) :
    Calls Tryd.prog 23 #[.string s] w fun e w' => e = rtS (firstWR s.data.toList) ∧ Below w.heap.size w w' := by
  have Hv := Lib.hid (fun W => validBends_any s W hs)
  cases hv : vB s.data.toList
  · rw [show firstWR s.data.toList = (⟨#[]⟩, 7) by simp [firstWR, hv]]
    rw [hv] at Hv
    clear hv
    go_enter Tryd.func23, Tryd.ntmps23
    go_wp2_with (go_at_call 21; refine (Hv.out _).mono ?_; rintro e w1 ⟨rfl, hb⟩)
    go_ret2
    exact ⟨rfl, hb⟩
  · rw [show firstWR s.data.toList = (str (firstW s.data.toList), 0) by simp [firstWR, hv]]
    have h8 := vB_iff.1 hv
    have Hf := Lib.hid (fun W => firstWord_any s W h8.2.2 h8.2.1)
    rw [hv] at Hv
    clear hv h8
    generalize str (firstW s.data.toList) = F at *
    go_enter Tryd.func23, Tryd.ntmps23
    go_wp2_with (first | (go_at_call 21; refine (Hv.out _).mono ?_; rintro e w1 ⟨rfl, hb⟩) | (go_at_call 55; refine (Hf.out _).mono ?_; rintro e w2 ⟨rfl, hb2⟩))
    go_ret2
    exact ⟨rfl, bstep hb hb2 (Nat.le_refl _)⟩

theorem specFirstWord_any (s : ByteArray) (w : World) (hs : s.size ≤ maxLen) :
    Calls Tryd.prog 34 #[.string s] w fun e w' => e = rtS (firstWR s.data.toList) ∧ ∃ q, w' = w.drewN q := by
  have Hv := Lib.hid (fun W => l11Ok_any s W hs)
  cases hv : vB s.data.toList
  · rw [show firstWR s.data.toList = (⟨#[]⟩, 7) by simp [firstWR, hv]]
    rw [hv] at Hv
    clear hv
    go_enter Tryd.func34, Tryd.ntmps34
    go_wp2_with (go_at_call 54; refine (Hv.out _).mono ?_; rintro e w1 ⟨rfl, q, rfl⟩)
    go_ret2
    exact ⟨rfl, q, rfl⟩
  · rw [show firstWR s.data.toList = (str (firstW s.data.toList), 0) by simp [firstWR, hv]]
    have h8 := vB_iff.1 hv
    have Hf := Lib.hid (fun W => l11First_any s W h8.1 h8.2.1)
    rw [hv] at Hv
    clear hv h8
    generalize str (firstW s.data.toList) = F at *
    go_enter Tryd.func34, Tryd.ntmps34
    go_wp2_with (first | (go_at_call 54; refine (Hv.out _).mono ?_; rintro e w1 ⟨rfl, q, rfl⟩) | (go_at_call 57; refine (Hf.out _).mono ?_; rintro e w2 ⟨rfl, q2, rfl⟩))
    go_ret2
    exact ⟨rfl, q + q2, rfl⟩

set_option maxHeartbeats 1000000 in
theorem sameBorder_any (s t : ByteArray) (w : World) (hs : s.size ≤ maxLen) (ht : t.size ≤ maxLen) :
    Calls Tryd.prog 25 #[.string s, .string t] w fun e w' => e = rtb (sameWR s.data.toList t.data.toList) ∧ Below w.heap.size w w' := by
  have Hv := Lib.hid (fun W => validBends_any s W hs)
  have Hu := Lib.hid (fun W => validBends_any t W ht)
  cases hv : vB s.data.toList
  · rw [show sameWR s.data.toList t.data.toList = (false, 7) by simp [sameWR, hv]]
    rw [hv] at Hv
    clear hv
    go_enter Tryd.func25, Tryd.ntmps25
    go_wp2_with (go_at_call 21; (with_reducible refine (Hv.out _).mono ?_); rintro e w1 ⟨rfl, hb⟩)
    go_ret2
    exact ⟨rfl, hb⟩
  · cases hu : vB t.data.toList
    · rw [show sameWR s.data.toList t.data.toList = (false, 7) by simp [sameWR, hu]]
      rw [hv] at Hv
      rw [hu] at Hu
      clear hv hu
      go_enter Tryd.func25, Tryd.ntmps25
      go_wp2_with (first | (go_at_call 21; (with_reducible refine (Hv.out _).mono ?_); rintro e w1 ⟨rfl, hb⟩) | (go_at_call 21; (with_reducible refine (Hu.out _).mono ?_); rintro e w2 ⟨rfl, hb2⟩))
      go_ret2
      exact ⟨rfl, bstep hb hb2 (Nat.le_refl _)⟩
    · have h8 := vB_iff.1 hv
      have k8 := vB_iff.1 hu
      have Hf := Lib.hid (fun W => firstWord_any s W h8.2.2 h8.2.1)
      have Hk := Lib.hid (fun W => firstWord_any t W k8.2.2 k8.2.1)
      obtain ⟨B, hB⟩ : ∃ B, (firstW s.data.toList == firstW t.data.toList) = B := ⟨_, rfl⟩
      rw [show sameWR s.data.toList t.data.toList = (B, 0) by simp only [sameWR, hv, hu, hB]; rfl]
      have t1 : ((str (firstW s.data.toList)).toList == (str (firstW t.data.toList)).toList) = B := by rw [str_toList, str_toList]; exact hB
      rw [hv] at Hv
      rw [hu] at Hu
      clear hv hu h8 k8 hB
      generalize str (firstW s.data.toList) = F at *
      generalize str (firstW t.data.toList) = G at *
      go_enter Tryd.func25, Tryd.ntmps25
      go_wp2_with (first | (go_at_call 21; (with_reducible refine (Hv.out _).mono ?_); rintro e w1 ⟨rfl, hb⟩) | (go_at_call 21; (with_reducible refine (Hu.out _).mono ?_); rintro e w2 ⟨rfl, hb2⟩) | (go_at_call 55; (with_reducible refine (Hf.out _).mono ?_); rintro e w3 ⟨rfl, hb3⟩) | (go_at_call 55; (with_reducible refine (Hk.out _).mono ?_); rintro e w4 ⟨rfl, hb4⟩))
      go_ret2
      exact ⟨rfl, bstep (bstep (bstep hb hb2 (Nat.le_refl _)) hb3 (Nat.le_refl _)) hb4 (Nat.le_refl _)⟩

set_option maxHeartbeats 1000000 in
theorem specSameBorder_any (s t : ByteArray) (w : World) (hs : s.size ≤ maxLen) (ht : t.size ≤ maxLen) :
    Calls Tryd.prog 26 #[.string s, .string t] w fun e w' => e = rtb (sameWR s.data.toList t.data.toList) ∧ ∃ q, w' = w.drewN q := by
  have Hv := Lib.hid (fun W => l11Ok_any s W hs)
  have Hu := Lib.hid (fun W => l11Ok_any t W ht)
  cases hv : vB s.data.toList
  · rw [show sameWR s.data.toList t.data.toList = (false, 7) by simp [sameWR, hv]]
    rw [hv] at Hv
    clear hv
    go_enter Tryd.func26, Tryd.ntmps26
    go_wp2_with (go_at_call 54; (with_reducible refine (Hv.out _).mono ?_); rintro e w1 ⟨rfl, q, rfl⟩)
    go_ret2
    exact ⟨rfl, q, rfl⟩
  · cases hu : vB t.data.toList
    · rw [show sameWR s.data.toList t.data.toList = (false, 7) by simp [sameWR, hu]]
      rw [hv] at Hv
      rw [hu] at Hu
      clear hv hu
      go_enter Tryd.func26, Tryd.ntmps26
      go_wp2_with (first | (go_at_call 54; (with_reducible refine (Hv.out _).mono ?_); rintro e w1 ⟨rfl, q, rfl⟩) | (go_at_call 54; (with_reducible refine (Hu.out _).mono ?_); rintro e w2 ⟨rfl, q2, rfl⟩))
      go_ret2
      exact ⟨rfl, q + q2, by first | rfl | simp only [World.drewN_drewN]⟩
    · have h8 := vB_iff.1 hv
      have k8 := vB_iff.1 hu
      rw [hv] at Hv
      rw [hu] at Hu
      by_cases hl : s.size = t.size
      · have Hf := Lib.hid (fun W => l11First_any s W h8.1 h8.2.1)
        have Hk := Lib.hid (fun W => l11First_any t W k8.1 k8.2.1)
        obtain ⟨B, hB⟩ : ∃ B, (firstW s.data.toList == firstW t.data.toList) = B := ⟨_, rfl⟩
        rw [show sameWR s.data.toList t.data.toList = (B, 0) by simp only [sameWR, hv, hu, hB]; rfl]
        have t1 : ((str (firstW s.data.toList)).toList == (str (firstW t.data.toList)).toList) = B := by rw [str_toList, str_toList]; exact hB
        clear hv hu h8 k8 hB
        generalize str (firstW s.data.toList) = F at *
        generalize str (firstW t.data.toList) = G at *
        go_enter Tryd.func26, Tryd.ntmps26
        go_wp2_with (first | (go_at_call 54; (with_reducible refine (Hv.out _).mono ?_); rintro e w1 ⟨rfl, q, rfl⟩) | (go_at_call 54; (with_reducible refine (Hu.out _).mono ?_); rintro e w2 ⟨rfl, q2, rfl⟩) | (go_at_call 57; (with_reducible refine (Hf.out _).mono ?_); rintro e w3 ⟨rfl, q3, rfl⟩) | (go_at_call 57; (with_reducible refine (Hk.out _).mono ?_); rintro e w4 ⟨rfl, q4, rfl⟩))
        go_ret2
        exact ⟨rfl, q + q2 + q3 + q4, by first | rfl | simp only [World.drewN_drewN]⟩
      · have hli : ((s.size : Int) == (t.size : Int)) = false := by simp; omega
        have hli' : (s.size == t.size) = false := by simp [hl]
        rw [show sameWR s.data.toList t.data.toList = (false, 0) by simp only [sameWR, hv, hu, same_len (a := s.data.toList) (b := t.data.toList) hl]; rfl]
        clear hv hu h8 k8
        go_enter Tryd.func26, Tryd.ntmps26
        go_wp2_with (first | (go_at_call 54; (with_reducible refine (Hv.out _).mono ?_); rintro e w1 ⟨rfl, q, rfl⟩) | (go_at_call 54; (with_reducible refine (Hu.out _).mono ?_); rintro e w2 ⟨rfl, q2, rfl⟩))
        go_ret2
        exact ⟨rfl, q + q2, by first | rfl | simp only [World.drewN_drewN]⟩
end Go.Proofs.YtcpacfedmppaeaaDoor
