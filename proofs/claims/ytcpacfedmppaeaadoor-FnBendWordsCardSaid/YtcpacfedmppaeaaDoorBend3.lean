/-
  Bends: locked borders and rods for borders, by walks.
-/
import Derived.Test.YtcpacfedmppaeaaDoorBend2
namespace Go.Proofs.YtcpacfedmppaeaaDoor
open Go.RowKit
set_option linter.unusedVariables false

theorem codeS_ok {l : List UInt8} {st : Int} (h : codeS l st = 0) : vB l = true ∧ ((l.length : Int) + 2 ≤ st ∧ st ≤ 40) := by
  rw [← codeB_zero] at h
  have := codeB_ok h
  exact ⟨this.1, this.2.1⟩

/-! ### a word with a letter b -/
theorem idx_pos {l : List UInt8} {c : UInt8} (h : c ∈ l) : 0 ≤ Lib.indexByte l c := by
  induction l with
  | nil => simp at h
  | cons b l ih =>
    unfold Lib.indexByte
    have hg := Lib.indexByte_ge l c
    by_cases hb : b = c
    · simp [hb]
    · have h2 : c ∈ l := by
        rcases List.mem_cons.1 h with e | e
        · exact absurd e.symm hb
        · exact e
      have h3 := ih h2
      have hb2 : (b == c) = false := by simp [hb]
      have h4 : (Lib.indexByte l c == -1) = false := by simp; omega
      rw [hb2, h4]
      simp; omega
theorem idx_neg {l : List UInt8} {c : UInt8} (h : c ∉ l) : ¬ 0 ≤ Lib.indexByte l c := by
  induction l with
  | nil => simp [Lib.indexByte]
  | cons b l ih =>
    unfold Lib.indexByte
    have hb : ¬ b = c := fun e => h (by simp [e])
    have h3 := ih (fun e => h (by simp [e]))
    have hg := Lib.indexByte_ge l c
    have hb2 : (b == c) = false := by simp [hb]
    have h4 : (Lib.indexByte l c == -1) = true := by simp; omega
    rw [hb2, h4]
    simp
theorem idx_behind (l : List UInt8) : decide (0 ≤ Lib.indexByte l 98) = decide (0 < (behindW l : Int)) := by
  by_cases h : (98 : UInt8) ∈ l
  · have h2 := List.count_pos_iff.2 h
    have h3 := idx_pos h
    have h4 : 0 < (behindW l : Int) := by unfold behindW; omega
    rw [decide_eq_true h3, decide_eq_true h4]
  · have h2 := List.count_eq_zero.2 h
    have h3 := idx_neg h
    have h4 : ¬ 0 < (behindW l : Int) := by unfold behindW; omega
    rw [decide_eq_false h3, decide_eq_false h4]
def lockR (l : List UInt8) (st : Int) : Bool × Int := if codeS l st = 0 then (decide (0 < (behindW l : Int)), 0) else (false, codeS l st)

set_option maxHeartbeats 1000000 in
theorem isLocked_any (s : ByteArray) (st : Int) (w : World) (hs : s.size ≤ maxLen) :
    Calls Tryd.prog 7 #[.string s, .int .i64 st] w fun e w' => e = rtb (lockR s.data.toList st) ∧ Below w.heap.size w w' := by
  obtain ⟨l, Hl⟩ : ∃ l, Hid (l = s.data.toList) := ⟨_, rfl⟩
  have Hv := Lib.hid (fun W => by
    have h := bendCode_any s st 0 W hs
    rw [codeB_zero] at h
    exact h)
  rw [← Hl.out] at Hv ⊢
  by_cases hc : codeS l st = 0
  · rw [show lockR l st = (decide (0 ≤ Lib.indexByte l 98), 0) by rw [lockR, if_pos hc, idx_behind]]
    have Hct := Lib.hid (fun (W : World) => by
      have h := Tryd.strings_Contains_one s 98 W
      rw [← Hl.out] at h
      exact h)
    obtain ⟨B, hB⟩ : ∃ B, decide (0 ≤ Lib.indexByte l 98) = B := ⟨_, rfl⟩
    rw [hB] at Hct ⊢
    rw [hc] at Hv
    clear hc hB
    go_enter Tryd.func7, Tryd.ntmps7
    go_wp2_with (first | (go_at_call 36; refine (Hv.out _).mono ?_; rintro e w1 ⟨rfl, hb⟩) | (go_at_call 37; refine (Hct.out _).mono ?_; rintro e w2 ⟨rfl, rfl⟩))
    go_ret2
    exact ⟨rfl, hb⟩
  · rw [show lockR l st = (false, codeS l st) by rw [lockR, if_neg hc]]
    have hc2 : (codeS l st == 0) = false := by simp [hc]
    have hc3 : (codeS l st != 0) = true := by simp [hc]
    obtain ⟨C, hC⟩ : ∃ C, codeS l st = C := ⟨_, rfl⟩
    rw [hC] at Hv hc hc2 hc3 ⊢
    go_enter Tryd.func7, Tryd.ntmps7
    go_wp2_with (go_at_call 36; refine (Hv.out _).mono ?_; rintro e w1 ⟨rfl, hb⟩)
    go_ret2
    exact ⟨rfl, hb⟩

set_option maxHeartbeats 1000000 in
theorem specIsLocked_any (s : ByteArray) (st : Int) (w : World) (hs : s.size ≤ maxLen) :
    Calls Tryd.prog 8 #[.string s, .int .i64 st] w fun e w' => e = rtb (lockR s.data.toList st) ∧ ∃ q, w' = w.drewN q := by
  obtain ⟨l, Hl⟩ : ∃ l, Hid (l = s.data.toList) := ⟨_, rfl⟩
  have Hll := Lib.hid (show l.length = s.size by rw [Hl.out, size_list])
  have Hv := Lib.hid (fun W => l11Code_any s st W hs)
  rw [← Hl.out] at Hv ⊢
  by_cases hc : codeS l st = 0
  · have h8 : s.size ≤ 8 := by have := (vB_iff.1 (codeS_ok hc).1).2.1; rw [Hll.out] at this; exact this
    rw [show lockR l st = (decide (0 < (behindW l : Int)), 0) by rw [lockR, if_pos hc]]
    have Hct := Lib.hid (fun (W : World) => by
      have h := l11Behind_any s W (by omega)
      rw [← Hl.out] at h
      exact h)
    obtain ⟨B, hB⟩ : ∃ B, behindW l = B := ⟨_, rfl⟩
    rw [hB] at Hct ⊢
    rw [hc] at Hv
    clear hc hB
    go_enter Tryd.func8, Tryd.ntmps8
    go_wp2_with (first | (go_at_call 38; refine (Hv.out _).mono ?_; rintro e w1 ⟨rfl, q, rfl⟩) | (go_at_call 39; refine (Hct.out _).mono ?_; rintro e w2 ⟨rfl, rfl⟩))
    go_ret2
    exact ⟨by simp [rtb], q, rfl⟩
  · rw [show lockR l st = (false, codeS l st) by rw [lockR, if_neg hc]]
    have hc2 : (codeS l st == 0) = false := by simp [hc]
    have hc3 : (codeS l st != 0) = true := by simp [hc]
    obtain ⟨C, hC⟩ : ∃ C, codeS l st = C := ⟨_, rfl⟩
    rw [hC] at Hv hc hc2 hc3 ⊢
    go_enter Tryd.func8, Tryd.ntmps8
    go_wp2_with (go_at_call 38; refine (Hv.out _).mono ?_; rintro e w1 ⟨rfl, q, rfl⟩)
    go_ret2
    exact ⟨rfl, q, rfl⟩

/-! ### rods for a border -/
theorem over_up (a b : Int) (ha : 0 ≤ a) (hb : 0 < b) : (a + b - 1) / b = if a % b > 0 then a / b + 1 else a / b := by
  have h1 := Int.emod_nonneg a (show b ≠ 0 by omega)
  have h2 := Int.emod_lt_of_pos a hb
  have h3 : b * (a / b) + a % b = a := Int.mul_ediv_add_emod a b
  obtain ⟨q, hq⟩ : ∃ q, a / b = q := ⟨_, rfl⟩
  obtain ⟨r, hr⟩ : ∃ r, a % b = r := ⟨_, rfl⟩
  rw [hq, hr] at h3 ⊢
  rw [hr] at h1 h2
  have e1 : a + b - 1 = (r + b - 1) + b * q := by omega
  rw [e1, Int.add_mul_ediv_left _ _ (show b ≠ 0 by omega)]
  by_cases h : r > 0
  · rw [if_pos h]
    have e2 : r + b - 1 = (r - 1) + b * 1 := by omega
    rw [e2, Int.add_mul_ediv_left _ _ (show b ≠ 0 by omega), Int.ediv_eq_zero_of_lt (by omega) (by omega)]
    omega
  · rw [if_neg h]
    rw [Int.ediv_eq_zero_of_lt (by omega) (by omega)]
    omega
theorem over_any (a b : Int) (w : World) (ha : 0 ≤ a) (ha' : a ≤ 1000000000) (hb : 0 < b) (hb' : b ≤ 1000000000) :
    Calls Tryd.prog 60 #[.int .i64 a, .int .i64 b] w fun e w' => e = .returned (.int .i64 ((a + b - 1) / b)) ∧ w = w' := by
  rw [over_up a b ha hb]
  have hz : b ≠ 0 := by omega
  have q0 : 0 ≤ a / b := Int.ediv_nonneg ha (by omega)
  have q0' : a / b ≤ a := Int.ediv_le_self b ha
  have q1 := Int.emod_nonneg a hz
  have q2 := Int.emod_lt_of_pos a hb
  have q3 : a.tmod b = a % b := Int.tmod_eq_emod_of_nonneg ha
  have q4 : a.tdiv b = a / b := Int.tdiv_eq_ediv_of_nonneg ha
  obtain ⟨q, hq⟩ : ∃ q, a / b = q := ⟨_, rfl⟩
  obtain ⟨r, hr⟩ : ∃ r, a % b = r := ⟨_, rfl⟩
  rw [hq] at q0 q0' q4 ⊢
  rw [hr] at q1 q2 q3 ⊢
  by_cases h : r > 0
  · rw [if_pos h]
    have d : decide (0 < r) = true := by simp; omega
    go_enter Tryd.func60, Tryd.ntmps60
    go_wp2
    go_ret
    exact ⟨rfl, rfl⟩
  · rw [if_neg h]
    have d : decide (0 < r) = false := by simp; omega
    go_enter Tryd.func60, Tryd.ntmps60
    go_wp2
    go_ret
    exact ⟨rfl, rfl⟩

def rodP (l : List UInt8) : Int := 10 * ((l.length : Int) + 1) + behindW l
def rodR (l : List UInt8) (ar st : Int) : Int × Int :=
  if codeS l st = 0 then if inB ar 100 5000 then ((ar * rodP l + 10 * st - 1) / (10 * st), 0) else (0, 2) else (0, codeS l st)
theorem rodP_bd {l : List UInt8} (h : l.length ≤ 8) : 10 ≤ rodP l ∧ rodP l ≤ 98 := by
  have := behindW_le l
  unfold rodP; omega
theorem prod_bd {a p : Int} (ha : 100 ≤ a ∧ a ≤ 5000) (hp : 10 ≤ p ∧ p ≤ 98) : 0 ≤ a * p ∧ a * p ≤ 490000 := by
  have h1 : a * p ≤ 5000 * p := Int.mul_le_mul_of_nonneg_right ha.2 (by omega)
  have h2 : 0 ≤ a * p := Int.mul_nonneg (by omega) (by omega)
  omega

set_option maxHeartbeats 1000000 in
theorem rodForBorder_any (s : ByteArray) (ar st : Int) (w : World) (hs : s.size ≤ maxLen) :
    Calls Tryd.prog 31 #[.string s, .int .i64 ar, .int .i64 st] w fun e w' => e = rt2 (rodR s.data.toList ar st) ∧ Below w.heap.size w w' := by
  obtain ⟨l, Hl⟩ : ∃ l, Hid (l = s.data.toList) := ⟨_, rfl⟩
  have Hll := Lib.hid (show l.length = s.size by rw [Hl.out, size_list])
  have Hv := Lib.hid (fun W => by
    have h := bendCode_any s st 0 W hs
    rw [codeB_zero] at h
    exact h)
  rw [← Hl.out] at Hv ⊢
  by_cases hc : codeS l st = 0
  · obtain ⟨hv, hst⟩ := codeS_ok hc
    have h8 := (vB_iff.1 hv).2.1
    have hpb := rodP_bd h8
    have hbw := behindW_le l
    have Hct := Lib.hid (fun (W : World) => by
      have h := Tryd.strings_Count_one s 98 W
      rw [← Hl.out, show Lib.countByte l 98 = behindW l from rfl] at h
      exact h)
    rw [hc] at Hv
    rw [Hll.out] at h8 hst hbw
    obtain ⟨R, HR⟩ : ∃ R, Hid (R = rodR l ar st) := ⟨_, rfl⟩
    have Hr := Lib.hid (show R = if inB ar 100 5000 then ((ar * rodP l + 10 * st - 1) / (10 * st), 0) else (0, 2) by rw [HR.out, rodR, if_pos hc])
    rw [← HR.out]
    have Hp := Lib.hid (show rodP l = 10 * ((s.size : Int) + 1) + behindW l by rw [rodP, Hll.out])
    obtain ⟨B, hB⟩ : ∃ B, behindW l = B := ⟨_, rfl⟩
    obtain ⟨p, hp⟩ : ∃ p, rodP l = p := ⟨_, rfl⟩
    obtain ⟨N, hN⟩ : ∃ N, s.size = N := ⟨_, rfl⟩
    rw [hB] at Hct Hp hbw
    rw [hp] at Hr Hp hpb
    rw [hN] at Hp h8 hst hbw
    clear hc hv hB hp
    cases ha : inB ar 100 5000
    · rw [ha] at Hr
      have e1 := Hr.out
      rw [e1]
      go_enter Tryd.func31, Tryd.ntmps31
      go_wp2_with (first | (go_at_call 36; refine (Hv.out _).mono ?_; rintro e w1 ⟨rfl, hb⟩) | (go_at_call 50; refine (within_any _ _ _ _).mono ?_; rintro e w2 ⟨rfl, rfl⟩))
      go_ret2
      exact ⟨rfl, hb⟩
    · rw [ha, if_pos rfl] at Hr
      have har := inB_iff.1 ha
      have hpr := prod_bd har hpb
      have hpe := Hp.out
      have Hov := Lib.hid (fun W => over_any (ar * p) (10 * st) W (by omega) (by omega) (by omega) (by omega))
      have e1 := Hr.out
      rw [e1]
      obtain ⟨Q, hQ⟩ : ∃ Q, (ar * p + 10 * st - 1) / (10 * st) = Q := ⟨_, rfl⟩
      rw [hQ] at Hov ⊢
      clear hQ e1
      have hpe2 : 10 * ((N : Int) + 1) + (B : Int) = p := hpe.symm
      clear hpe
      go_enter Tryd.func31, Tryd.ntmps31
      go_wp2_with (first | (go_at_call 36; refine (Hv.out _).mono ?_; rintro e w1 ⟨rfl, hb⟩) | (go_at_call 50; refine (within_any _ _ _ _).mono ?_; rintro e w2 ⟨rfl, rfl⟩) | (go_at_call 59; refine (Hct.out _).mono ?_; rintro e w3 ⟨rfl, rfl⟩) | (go_at_call 60; refine (Hov.out _).mono ?_; rintro e w4 ⟨rfl, rfl⟩))
      go_ret2
      exact ⟨rfl, hb⟩
  · rw [show rodR l ar st = (0, codeS l st) by rw [rodR, if_neg hc]]
    have hc2 : (codeS l st == 0) = false := by simp [hc]
    have hc3 : (codeS l st != 0) = true := by simp [hc]
    obtain ⟨C, hC⟩ : ∃ C, codeS l st = C := ⟨_, rfl⟩
    rw [hC] at Hv hc hc2 hc3 ⊢
    go_enter Tryd.func31, Tryd.ntmps31
    go_wp2_with (go_at_call 36; refine (Hv.out _).mono ?_; rintro e w1 ⟨rfl, hb⟩)
    go_ret2
    exact ⟨rfl, hb⟩

set_option maxHeartbeats 1000000 in
theorem specRodForBorder_any (s : ByteArray) (ar st : Int) (w : World) (hs : s.size ≤ maxLen) :
    Calls Tryd.prog 32 #[.string s, .int .i64 ar, .int .i64 st] w fun e w' => e = rt2 (rodR s.data.toList ar st) ∧ ∃ q, w' = w.drewN q := by
  obtain ⟨l, Hl⟩ : ∃ l, Hid (l = s.data.toList) := ⟨_, rfl⟩
  have Hll := Lib.hid (show l.length = s.size by rw [Hl.out, size_list])
  have Hv := Lib.hid (fun W => l11Ok_any s W hs)
  rw [← Hl.out] at Hv ⊢
  cases hv : vB l
  · rw [show rodR l ar st = (0, 7) by rw [rodR, if_neg (by simp [codeS, hv])]; simp [codeS, hv]]
    rw [hv] at Hv
    clear hv
    go_enter Tryd.func32, Tryd.ntmps32
    go_wp2_with (go_at_call 54; refine (Hv.out _).mono ?_; rintro e w1 ⟨rfl, q, rfl⟩)
    go_ret2
    exact ⟨rfl, q, rfl⟩
  · have h8 := (vB_iff.1 hv).2.1
    have hpb := rodP_bd h8
    have hbw := behindW_le l
    have Hcode := Lib.hid (show codeS l st = if inB st ((s.size : Int) + 2) 40 then 0 else 2 by rw [codeS, if_pos hv, Hll.out])
    rw [hv] at Hv
    rw [Hll.out] at h8 hbw
    have Hst := Lib.hid (fun W => l11Stakes_any s st W (by omega))
    have Hct := Lib.hid (fun (W : World) => by
      have h := l11Behind_any s W (by omega)
      rw [← Hl.out] at h
      exact h)
    cases ha : inB ar 100 5000
    · have hR : rodR l ar st = (0, 2) := by
        rw [rodR, ha, Hcode.out]
        cases inB st ((s.size : Int) + 2) 40 <;> simp
      rw [hR]
      clear hv hR
      go_enter Tryd.func32, Tryd.ntmps32
      go_wp2_with (first | (go_at_call 54; refine (Hv.out _).mono ?_; rintro e w1 ⟨rfl, q, rfl⟩) | (go_at_call 44; refine (l00In_any _ _ _ _).mono ?_; rintro e w2 ⟨rfl, rfl⟩))
      go_ret2
      exact ⟨rfl, q, rfl⟩
    · cases h1 : inB st ((s.size : Int) + 2) 40
      · have hR : rodR l ar st = (0, 2) := by rw [rodR, Hcode.out, h1]; simp
        rw [hR]
        rw [h1] at Hst
        clear hv hR h1
        go_enter Tryd.func32, Tryd.ntmps32
        go_wp2_with (first | (go_at_call 54; refine (Hv.out _).mono ?_; rintro e w1 ⟨rfl, q, rfl⟩) | (go_at_call 44; refine (l00In_any _ _ _ _).mono ?_; rintro e w2 ⟨rfl, rfl⟩) | (go_at_call 61; refine (Hst.out _).mono ?_; rintro e w3 ⟨rfl, rfl⟩))
        go_ret2
        exact ⟨rfl, q, rfl⟩
      · have hR : rodR l ar st = ((ar * rodP l + 10 * st - 1) / (10 * st), 0) := by rw [rodR, Hcode.out, h1, ha]; simp
        rw [hR]
        rw [h1] at Hst
        have hst := inB_iff.1 h1
        have har := inB_iff.1 ha
        have hpr := prod_bd har hpb
        have hpe : rodP l = 10 * ((s.size : Int) + 1) + behindW l := by rw [rodP, Hll.out]
        obtain ⟨B, hB⟩ : ∃ B, behindW l = B := ⟨_, rfl⟩
        obtain ⟨p, hp⟩ : ∃ p, rodP l = p := ⟨_, rfl⟩
        obtain ⟨N, hN⟩ : ∃ N, s.size = N := ⟨_, rfl⟩
        rw [hB] at Hct hpe hbw
        rw [hp] at hpe hpb hpr ⊢
        rw [hN] at hpe h8 hst hbw
        have hpe2 : 10 * ((N : Int) + 1) + (B : Int) = p := hpe.symm
        have hz : 10 * st ≠ 0 := by omega
        have q4 : (ar * p + 10 * st - 1).tdiv (10 * st) = (ar * p + 10 * st - 1) / (10 * st) := Int.tdiv_eq_ediv_of_nonneg (by omega)
        have q5 : 0 ≤ (ar * p + 10 * st - 1) / (10 * st) := Int.ediv_nonneg (by omega) (by omega)
        have q6 : (ar * p + 10 * st - 1) / (10 * st) ≤ ar * p + 10 * st - 1 := Int.ediv_le_self _ (by omega)
        clear hv hR h1 hB hp hpe
        go_enter Tryd.func32, Tryd.ntmps32
        go_wp2_with (first | (go_at_call 54; refine (Hv.out _).mono ?_; rintro e w1 ⟨rfl, q, rfl⟩) | (go_at_call 44; refine (l00In_any _ _ _ _).mono ?_; rintro e w2 ⟨rfl, rfl⟩) | (go_at_call 61; refine (Hst.out _).mono ?_; rintro e w3 ⟨rfl, rfl⟩) | (go_at_call 39; refine (Hct.out _).mono ?_; rintro e w4 ⟨rfl, rfl⟩))
        go_ret2
        exact ⟨rfl, q, rfl⟩
end Go.Proofs.YtcpacfedmppaeaaDoor
