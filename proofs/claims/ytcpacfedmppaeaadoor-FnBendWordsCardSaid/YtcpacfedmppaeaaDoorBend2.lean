/-
  Bends: codes, ends, locked borders and rods, by walks.
-/
import Derived.Test.YtcpacfedmppaeaaDoorBend
namespace Go.Proofs.YtcpacfedmppaeaaDoor
open Go.RowKit
set_option linter.unusedVariables false

set_option maxHeartbeats 1000000 in
theorem bendCode_any (s : ByteArray) (st k : Int) (w : World) (hs : s.size ≤ maxLen) :
    Calls Tryd.prog 36 #[.string s, .int .i64 st, .int .i64 k] w fun e w' => e = .returned (.int .i64 (codeB s.data.toList st k)) ∧ Below w.heap.size w w' := by
  obtain ⟨l, Hl⟩ : ∃ l, Hid (l = s.data.toList) := ⟨_, rfl⟩
  have Hll := Lib.hid (show l.length = s.size by rw [Hl.out, size_list])
  have Hv := Lib.hid (fun W => validBends_any s W hs)
  rw [← Hl.out] at Hv ⊢
  cases hv : vB l
  · rw [show codeB l st k = 7 by simp [codeB, hv]]
    rw [hv] at Hv
    clear hv
    go_enter Tryd.func36, Tryd.ntmps36
    go_wp2_with (go_at_call 21; refine (Hv.out _).mono ?_; rintro e w1 ⟨rfl, hb⟩)
    go_ret
    exact ⟨rfl, hb⟩
  · obtain ⟨N, hN⟩ : ∃ N, s.size = N := ⟨_, rfl⟩
    rw [hN] at Hll
    have h8 : N ≤ 8 := by have := (vB_iff.1 hv).2.1; rw [Hll.out] at this; exact this
    have hc : codeB l st k = if inB st ((N : Int) + 2) 40 && inB k 0 (st - 1) then 0 else 2 := by rw [codeB, if_pos hv, Hll.out]
    have Hc := Lib.hid hc
    rw [hv] at Hv
    clear hv hc
    cases h1 : inB st ((N : Int) + 2) 40
    · rw [show codeB l st k = 2 by rw [Hc.out, h1]; simp]
      go_enter Tryd.func36, Tryd.ntmps36
      go_wp2_with (first | (go_at_call 21; refine (Hv.out _).mono ?_; rintro e w1 ⟨rfl, hb⟩) | (go_at_call 50; refine (within_any _ _ _ _).mono ?_; rintro e w2 ⟨rfl, rfl⟩))
      go_ret
      exact ⟨rfl, hb⟩
    · have hst := inB_iff.1 h1
      cases h2 : inB k 0 (st - 1)
      · rw [show codeB l st k = 2 by rw [Hc.out, h2]; simp]
        go_enter Tryd.func36, Tryd.ntmps36
        go_wp2_with (first | (go_at_call 21; refine (Hv.out _).mono ?_; rintro e w1 ⟨rfl, hb⟩) | (go_at_call 50; refine (within_any _ _ _ _).mono ?_; rintro e w2 ⟨rfl, rfl⟩))
        go_ret
        exact ⟨rfl, hb⟩
      · rw [show codeB l st k = 0 by rw [Hc.out, h1, h2]; simp]
        go_enter Tryd.func36, Tryd.ntmps36
        go_wp2_with (first | (go_at_call 21; refine (Hv.out _).mono ?_; rintro e w1 ⟨rfl, hb⟩) | (go_at_call 50; refine (within_any _ _ _ _).mono ?_; rintro e w2 ⟨rfl, rfl⟩))
        go_ret
        exact ⟨rfl, hb⟩

theorem l11Stakes_any (s : ByteArray) (st : Int) (w : World) (hs : s.size ≤ 1000) :
    Calls Tryd.prog 61 #[.string s, .int .i64 st] w fun e w' => e = .returned (.bool (inB st ((s.size : Int) + 2) 40)) ∧ w = w' := by
  go_enter Tryd.func61, Tryd.ntmps61
  go_wp2_with (go_at_call 44; refine (l00In_any _ _ _ _).mono ?_; rintro e w2 ⟨rfl, rfl⟩)
  go_ret
  exact ⟨rfl, rfl⟩

def codeS (l : List UInt8) (st : Int) : Int := if vB l then if inB st ((l.length : Int) + 2) 40 then 0 else 2 else 7
theorem codeB_codeS (l : List UInt8) (st k : Int) : codeB l st k = if codeS l st = 0 then if inB k 0 (st - 1) then 0 else 2 else codeS l st := by
  unfold codeB codeS
  cases vB l <;> cases inB st ((l.length : Int) + 2) 40 <;> cases inB k 0 (st - 1) <;> simp
theorem codeB_zero (l : List UInt8) (st : Int) : codeB l st 0 = codeS l st := by
  unfold codeB codeS
  cases vB l
  · simp
  · cases h : inB st ((l.length : Int) + 2) 40
    · simp
    · have := inB_iff.1 h
      have h2 : inB 0 0 (st - 1) = true := inB_iff.2 (by omega)
      simp [h2]

set_option maxHeartbeats 1000000 in
theorem l11Code_any (s : ByteArray) (st : Int) (w : World) (hs : s.size ≤ maxLen) :
    Calls Tryd.prog 38 #[.string s, .int .i64 st] w fun e w' => e = .returned (.int .i64 (codeS s.data.toList st)) ∧ ∃ q, w' = w.drewN q := by
  obtain ⟨l, Hl⟩ : ∃ l, Hid (l = s.data.toList) := ⟨_, rfl⟩
  have Hll := Lib.hid (show l.length = s.size by rw [Hl.out, size_list])
  have Hv := Lib.hid (fun W => l11Ok_any s W hs)
  rw [← Hl.out] at Hv ⊢
  cases hv : vB l
  · rw [show codeS l st = 7 by simp [codeS, hv]]
    rw [hv] at Hv
    clear hv
    go_enter Tryd.func38, Tryd.ntmps38
    go_wp2_with (go_at_call 54; refine (Hv.out _).mono ?_; rintro e w1 ⟨rfl, q, rfl⟩)
    go_ret
    exact ⟨rfl, q, rfl⟩
  · have h8 : s.size ≤ 8 := by have := (vB_iff.1 hv).2.1; rw [Hll.out] at this; exact this
    have hc : codeS l st = if inB st ((s.size : Int) + 2) 40 then 0 else 2 := by rw [codeS, if_pos hv, Hll.out]
    have Hc := Lib.hid hc
    have Hst := Lib.hid (fun W => l11Stakes_any s st W (by omega))
    rw [hv] at Hv
    clear hv hc
    cases h1 : inB st ((s.size : Int) + 2) 40
    · rw [show codeS l st = 2 by rw [Hc.out, h1]; simp]
      rw [h1] at Hst
      clear h1
      go_enter Tryd.func38, Tryd.ntmps38
      go_wp2_with (first | (go_at_call 54; refine (Hv.out _).mono ?_; rintro e w1 ⟨rfl, q, rfl⟩) | (go_at_call 61; refine (Hst.out _).mono ?_; rintro e w2 ⟨rfl, rfl⟩))
      go_ret
      exact ⟨rfl, q, rfl⟩
    · rw [show codeS l st = 0 by rw [Hc.out, h1]; simp]
      rw [h1] at Hst
      clear h1
      go_enter Tryd.func38, Tryd.ntmps38
      go_wp2_with (first | (go_at_call 54; refine (Hv.out _).mono ?_; rintro e w1 ⟨rfl, q, rfl⟩) | (go_at_call 61; refine (Hst.out _).mono ?_; rintro e w2 ⟨rfl, rfl⟩))
      go_ret
      exact ⟨rfl, q, rfl⟩

/-! ### where a bend ends -/
def endR (l : List UInt8) (st k : Int) : Int × Int := if codeB l st k = 0 then ((k + l.length + 1) % st, 0) else (0, codeB l st k)

set_option maxHeartbeats 1000000 in
theorem endOfBend_any (s : ByteArray) (st k : Int) (w : World) (hs : s.size ≤ maxLen) :
    Calls Tryd.prog 14 #[.string s, .int .i64 st, .int .i64 k] w fun e w' => e = rt2 (endR s.data.toList st k) ∧ Below w.heap.size w w' := by
  obtain ⟨l, Hl⟩ : ∃ l, Hid (l = s.data.toList) := ⟨_, rfl⟩
  have Hll := Lib.hid (show l.length = s.size by rw [Hl.out, size_list])
  have Hv := Lib.hid (fun W => bendCode_any s st k W hs)
  rw [← Hl.out] at Hv ⊢
  by_cases hc : codeB l st k = 0
  · obtain ⟨hv, hst, hk⟩ := codeB_ok hc
    have h8 := (vB_iff.1 hv).2.1
    rw [Hll.out] at h8 hst
    rw [show endR l st k = ((k + s.size + 1) % st, 0) by rw [endR, if_pos hc, Hll.out]]
    rw [hc] at Hv
    clear hc hv
    obtain ⟨N, hN⟩ : ∃ N, s.size = N := ⟨_, rfl⟩
    rw [hN] at h8 hst ⊢
    have hz : st ≠ 0 := by omega
    have q1 := Int.emod_nonneg (k + N + 1) hz
    have q2 := Int.emod_lt_of_pos (k + N + 1) (show 0 < st by omega)
    have q3 : (k + N + 1).tmod st = (k + N + 1) % st := Int.tmod_eq_emod_of_nonneg (by omega)
    go_enter Tryd.func14, Tryd.ntmps14
    go_wp2_with (go_at_call 36; refine (Hv.out _).mono ?_; rintro e w1 ⟨rfl, hb⟩)
    go_ret2
    exact ⟨rfl, hb⟩
  · rw [show endR l st k = (0, codeB l st k) by rw [endR, if_neg hc]]
    have hc2 : (codeB l st k == 0) = false := by simp [hc]
    have hc3 : (codeB l st k != 0) = true := by simp [hc]
    obtain ⟨C, hC⟩ : ∃ C, codeB l st k = C := ⟨_, rfl⟩
    rw [hC] at Hv hc hc2 hc3 ⊢
    go_enter Tryd.func14, Tryd.ntmps14
    go_wp2_with (go_at_call 36; refine (Hv.out _).mono ?_; rintro e w1 ⟨rfl, hb⟩)
    go_ret2
    exact ⟨rfl, hb⟩

set_option maxHeartbeats 1000000 in
theorem specEndOfBend_any (s : ByteArray) (st k : Int) (w : World) (hs : s.size ≤ maxLen) :
    Calls Tryd.prog 15 #[.string s, .int .i64 st, .int .i64 k] w fun e w' => e = rt2 (endR s.data.toList st k) ∧ ∃ q, w' = w.drewN q := by
  obtain ⟨l, Hl⟩ : ∃ l, Hid (l = s.data.toList) := ⟨_, rfl⟩
  have Hll := Lib.hid (show l.length = s.size by rw [Hl.out, size_list])
  have Hv := Lib.hid (fun W => l11Code_any s st W hs)
  rw [← Hl.out] at Hv ⊢
  have hcs := codeB_codeS l st k
  by_cases hc : codeB l st k = 0
  · obtain ⟨hv, hst, hk⟩ := codeB_ok hc
    have h8 := (vB_iff.1 hv).2.1
    rw [Hll.out] at h8 hst
    have hin : inB k 0 (st - 1) = true := inB_iff.2 (by omega)
    have hs0 : codeS l st = 0 := by rw [codeS, if_pos hv, Hll.out, inB_iff.2 hst]; rfl
    rw [show endR l st k = ((k + s.size + 1) % st, 0) by rw [endR, if_pos hc, Hll.out]]
    rw [hs0] at Hv
    clear hc hv hs0 hcs
    obtain ⟨N, hN⟩ : ∃ N, s.size = N := ⟨_, rfl⟩
    rw [hN] at h8 hst ⊢
    have hz : st ≠ 0 := by omega
    have q1 := Int.emod_nonneg (k + N + 1) hz
    have q2 := Int.emod_lt_of_pos (k + N + 1) (show 0 < st by omega)
    have q3 : (k + N + 1).tmod st = (k + N + 1) % st := Int.tmod_eq_emod_of_nonneg (by omega)
    go_enter Tryd.func15, Tryd.ntmps15
    go_wp2_with (first | (go_at_call 38; refine (Hv.out _).mono ?_; rintro e w1 ⟨rfl, q, rfl⟩) | (go_at_call 44; refine (l00In_any _ _ _ _).mono ?_; rintro e w2 ⟨rfl, rfl⟩))
    go_ret2
    exact ⟨rfl, q, rfl⟩
  · rw [show endR l st k = (0, codeB l st k) by rw [endR, if_neg hc]]
    by_cases h0 : codeS l st = 0
    · rw [if_pos h0] at hcs
      have hst : inB st ((s.size : Int) + 2) 40 = true := by
        unfold codeS at h0
        split at h0
        · split at h0
          · next h => rw [Hll.out] at h; exact h
          · omega
        · omega
      have hst2 := inB_iff.1 hst
      cases hin : inB k 0 (st - 1)
      · rw [hin] at hcs
        rw [show codeB l st k = 2 by rw [hcs]; rfl]
        rw [h0] at Hv
        clear h0 hcs hc
        go_enter Tryd.func15, Tryd.ntmps15
        go_wp2_with (first | (go_at_call 38; refine (Hv.out _).mono ?_; rintro e w1 ⟨rfl, q, rfl⟩) | (go_at_call 44; refine (l00In_any _ _ _ _).mono ?_; rintro e w2 ⟨rfl, rfl⟩))
        go_ret2
        exact ⟨rfl, q, rfl⟩
      · rw [hin] at hcs; exact absurd hcs hc
    · rw [if_neg h0] at hcs
      rw [hcs]
      have hc2 : (codeS l st == 0) = false := by simp [h0]
      have hc3 : (codeS l st != 0) = true := by simp [h0]
      obtain ⟨C, hC⟩ : ∃ C, codeS l st = C := ⟨_, rfl⟩
      rw [hC] at Hv h0 hc2 hc3 ⊢
      clear hcs hc
      go_enter Tryd.func15, Tryd.ntmps15
      go_wp2_with (go_at_call 38; refine (Hv.out _).mono ?_; rintro e w1 ⟨rfl, q, rfl⟩)
      go_ret2
      exact ⟨rfl, q, rfl⟩

/-! ### how many are behind -/
def behindW (l : List UInt8) : Nat := l.count 98
theorem behindW_le (l : List UInt8) : behindW l ≤ l.length := List.count_le_length

set_option maxHeartbeats 1000000 in
theorem l11Behind_any (s : ByteArray) (w : World) (hs1 : s.size ≤ 1000) :
    Calls Tryd.prog 39 #[.string s] w fun e w' => e = .returned (.int .i64 (behindW s.data.toList : Nat)) ∧ w = w' := by
  obtain ⟨l, Hl⟩ : ∃ l, Hid (l = s.data.toList) := ⟨_, rfl⟩
  have Hll := Lib.hid (show l.length = s.size by rw [Hl.out, size_list])
  rw [← Hl.out]
  have Hg := Lib.hid (fun k (hk : k < s.size) => show s[k]'hk = l.getD k 0 by
    have h2 : k < s.data.toList.length := hk
    rw [Hl.out]
    simp only [List.getD_eq_getElem?_getD, List.getElem?_eq_getElem h2, Option.getD_some, Array.getElem_toList]
    rfl)
  go_enter Tryd.func39, Tryd.ntmps39
  go_wp2
  go_loop [3, 4] (fun q i => ∃ k : Nat, k ≤ s.size ∧ i = .int .i64 k ∧ ∃ A : Nat, q = .int .i64 A ∧ A ≤ k ∧ Hid (A = (l.take k).count 98)) (fun _ i => s.size - (intOf i).toNat)
  case atStart => exact ⟨0, Nat.zero_le _, rfl, 0, rfl, by omega, Lib.hid (by simp)⟩
  case round =>
    obtain ⟨k, hk, rfl, A, rfl, hA, HA⟩ := hrel
    by_cases hlt : k < s.size
    · have Hst := Lib.hid (show (l.take (k + 1)).count 98 = (l.take k).count 98 + (if l.getD k 0 = 98 then 1 else 0) by
        rw [take_snocB (d := 0) (by rw [Hll.out]; exact hlt), List.count_append]
        congr 1
        simp only [List.count_singleton, beq_iff_eq])
      by_cases hc : s[k]'hlt = 98
      · have e1 : (((s[k]'hlt).toNat : Int) == 98) = true := by rw [hc]; rfl
        have e1' : ((s[k]'hlt).toNat == 98) = true := by rw [hc]; rfl
        have Hc := Lib.hid (show l.getD k 0 = 98 by rw [← Hg.out k hlt]; exact hc)
        clear hc
        go_wp2
        go_round
        case rel => exact ⟨k + 1, by omega, by go_num, A + 1, by go_num, by omega, Lib.hid (by rw [Hst.out, if_pos Hc.out, HA.out])⟩
        case measure => simp [intOf]; omega
      · have hcn : (s[k]'hlt).toNat ≠ 98 := fun h => hc (UInt8.toNat_inj.1 h)
        have e1 : (((s[k]'hlt).toNat : Int) == 98) = false := by simp; omega
        have e1' : ((s[k]'hlt).toNat == 98) = false := by simp [hcn]
        have Hc := Lib.hid (show ¬ l.getD k 0 = 98 by rw [← Hg.out k hlt]; exact hc)
        clear hc hcn
        go_wp2
        go_round
        case rel => exact ⟨k + 1, by omega, by go_num, A, rfl, by omega, Lib.hid (by rw [Hst.out, if_neg Hc.out, HA.out]; rfl)⟩
        case measure => simp [intOf]; omega
    · have hkn : k = s.size := by omega
      have Hf := Lib.hid (show A = behindW l by rw [HA.out, hkn, behindW, List.take_of_length_le (by rw [Hll.out]; omega)])
      clear hkn
      go_wp2
      go_ret
      have e1 := Hf.out
      subst e1
      exact ⟨rfl, rfl⟩
end Go.Proofs.YtcpacfedmppaeaaDoor
