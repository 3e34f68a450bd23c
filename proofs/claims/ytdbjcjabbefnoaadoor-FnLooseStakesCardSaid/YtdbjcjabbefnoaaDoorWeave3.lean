/-
  Weaves, by walks: the listed functions.
-/
import Derived.Test.YtdbjcjabbefnoaaDoorWeave2
namespace Go.Proofs.YtdbjcjabbefnoaaDoor
open Go.RowKit
set_option linter.unusedVariables false

def floatW (l : List UInt8) (st fl : Int) : Int := if codeW l st = 0 then if inB fl 1 12 then 0 else 2 else codeW l st
theorem codeW_zero {l : List UInt8} {st : Int} (h : codeW l st = 0) : vS l = true ∧ 3 ≤ st ∧ st ≤ 60 := by
  unfold codeW at h
  split at h
  · rename_i hv
    split at h
    · rename_i ha
      obtain ⟨h1, h2⟩ := inB_iff.1 (show inB st 3 60 = true from ha)
      exact ⟨hv, h1, h2⟩
    · omega
  · omega
theorem codeW_at {l : List UInt8} {st : Int} (hv : vS l = true) (h1 : 3 ≤ st) (h2 : st ≤ 60) : codeW l st = 0 := by
  unfold codeW
  rw [if_pos hv, if_pos (show areSt st = true from inB_iff.2 ⟨h1, h2⟩)]
theorem looseR_code (l : List UInt8) (st : Int) : looseR l st = if codeW l st = 0 then (looseTo l st st.toNat, 0) else ([], codeW l st) := by
  unfold looseR codeW
  cases vS l <;> cases areSt st <;> simp
theorem soundR_code (l : List UInt8) (fl most : Int) : soundR l fl most = if floatW l most fl = 0 then (soundTo l fl (most - 2).toNat, 0) else ([], floatW l most fl) := by
  unfold soundR floatW codeW
  cases vS l <;> cases areSt most <;> cases inB fl 1 12 <;> simp

theorem l06Float_any (s : ByteArray) (st fl : Int) (w : World) (hs : s.size ≤ maxLen) :
    Calls Tryd.prog 27 #[.string s, .int .i64 st, .int .i64 fl] w fun e w' => e = .returned (.int .i64 (floatW s.data.toList st fl)) ∧ ∃ q, w' = w.drewN q := by
  have Hv := Lib.hid (fun W => l06Code_any s st W hs)
  have Hc := Lib.hid (show floatW s.data.toList st fl = if codeW s.data.toList st = 0 then if inB fl 1 12 then 0 else 2 else codeW s.data.toList st from rfl)
  generalize floatW s.data.toList st fl = C at *
  generalize codeW s.data.toList st = c at *
  clear hs
  by_cases hc : c = 0
  · subst hc
    cases h : inB fl 1 12
    · have HC := Lib.hid (show C = 2 by simpa [h] using Hc.out)
      go_enter Tryd.func27, Tryd.ntmps27
      go_wp2_with (first | (go_at_call 37; with_reducible refine (Hv.out _).mono ?_; rintro e w' ⟨rfl, q, rfl⟩) | (go_at_call 38; refine (l00In_any _ _ _ _).mono ?_; rintro e w'' ⟨rfl, rfl⟩))
      go_ret
      exact ⟨ret_int HC.out.symm, _, rfl⟩
    · have HC := Lib.hid (show C = 0 by simpa [h] using Hc.out)
      go_enter Tryd.func27, Tryd.ntmps27
      go_wp2_with (first | (go_at_call 37; with_reducible refine (Hv.out _).mono ?_; rintro e w' ⟨rfl, q, rfl⟩) | (go_at_call 38; refine (l00In_any _ _ _ _).mono ?_; rintro e w'' ⟨rfl, rfl⟩))
      go_ret
      exact ⟨ret_int HC.out.symm, _, rfl⟩
  · have z : (c == 0) = false := by simp [hc]
    have HC := Lib.hid (show C = c by simpa [hc] using Hc.out)
    go_enter Tryd.func27, Tryd.ntmps27
    go_wp2_with (go_at_call 37; with_reducible refine (Hv.out _).mono ?_; rintro e w' ⟨rfl, q, rfl⟩)
    go_ret
    exact ⟨ret_int HC.out.symm, _, rfl⟩

theorem LooseStakes_any (s : ByteArray) (st : Int) (w : World) (hs : s.size ≤ maxLen) :
    Calls Tryd.prog 8 #[.string s, .int .i64 st] w (RetL w 2 (looseR s.data.toList st)) := by
  have Hv := Lib.hid (fun W => strokeCode_any s st W hs)
  rw [looseR_code]
  have Hc0 := Lib.hid (fun h => codeW_zero (l := s.data.toList) (st := st) h)
  by_cases hc : codeW s.data.toList st = 0
  · obtain ⟨hv, h1, h2⟩ := codeW_zero hc
    rw [if_pos hc]
    rw [hc] at Hv
    obtain ⟨m, rfl⟩ : ∃ m : Nat, st = (m : Int) := ⟨st.toNat, by omega⟩
    rw [Int.toNat_natCast]
    have Hlo := Lib.hid (fun W => looseStakes_any s m W hv (by omega) (by omega))
    generalize looseTo s.data.toList m m = L at *
    clear hc hv Hc0 hs
    go_enter Tryd.func8, Tryd.ntmps8
    go_wp2_with (first | (go_at_call 20; with_reducible refine (Hv.out _).mono ?_; rintro e w1 ⟨rfl, hb1⟩) | (go_at_call 21; with_reducible refine (Hlo.out _).mono ?_; rintro e w2 ⟨v, rfl, ho, hb2⟩))
    go_ret2
    exact ⟨_, rfl, ho.mono hb1.size (Nat.le_refl _), bstep hb1 hb2 (Nat.le_refl _)⟩
  · rw [if_neg hc]
    generalize codeW s.data.toList st = c at *
    have z : (c != 0) = true := by simp [hc]
    clear hc Hc0 hs
    go_enter Tryd.func8, Tryd.ntmps8
    go_wp2_with (go_at_call 20; with_reducible refine (Hv.out _).mono ?_; rintro e w1 ⟨rfl, hb1⟩)
    go_ret2
    exact ⟨_, rfl, Own.nil _ _ _ _, hb1⟩

set_option maxHeartbeats 1000000 in
theorem LongestStack_any (s : ByteArray) (m : Nat) (w : World) (hv : vS s.data.toList = true) (h0 : 3 ≤ m) (h1 : m ≤ 60) :
    Calls Tryd.prog 9 #[.string s, .int .i64 m] w fun e w' => ∃ x c : Int, e = .returned (.tuple #[.int .i64 x, .int .i64 c]) ∧ ((looseTo s.data.toList m m).length = 0 → c = 0 ∧ 1 ≤ x ∧ x ≤ s.size) ∧ ((looseTo s.data.toList m m).length ≠ 0 → c = 10) ∧ Below w.heap.size w w' := by
  obtain ⟨hs0, hs1, htw⟩ := vS_iff.1 hv
  rw [size_list] at hs0 hs1
  have Hv := Lib.hid (fun W => strokeCode_any s m W (by unfold maxLen; omega))
  rw [codeW_at hv (by omega) (by omega)] at Hv
  have Hlo := Lib.hid (fun W => looseStakes_any s m W hv h0 h1)
  obtain ⟨l, Hl⟩ : ∃ l, Hid (l = s.data.toList) := ⟨_, rfl⟩
  have Hll := Lib.hid (show l.length = s.size by rw [Hl.out, size_list])
  have hag := agW_spec (n := s.size) (st := (m : Int)) hs0 (by omega)
  obtain ⟨M, HM⟩ : ∃ M, Hid (M = agW s.size m) := ⟨_, rfl⟩
  rw [← HM.out] at hag
  have hM1 : 1 ≤ M := hag.2.1
  have hM2 : M ≤ s.size := by omega
  clear hag
  have Hag := Lib.hid (fun W => by
    have h := beginsAgain_any s m W hs0 (by omega) (by omega) (by omega)
    rw [← HM.out] at h
    exact h)
  have Hal := Lib.hid (fun (k : Nat) (hk : k < m) (W : World) => (show ∃ t : ByteArray, t.size = M ∧ Calls Tryd.prog 23 #[.string s, .int .i64 k, .int .i64 m, .int .i64 M] W fun e w' => e = .returned (.string t) ∧ Below W.heap.size W w' from
    ⟨_, by rw [str_size, alongL_len], along_any s k m M W hs0 (by omega) (by omega) (by omega) hM1 (by omega)⟩))
  have Hlr := Lib.hid (fun (t : ByteArray) (ht : t.size = M) (W : World) => (show ∃ R : Nat, 1 ≤ R ∧ R ≤ M ∧ Calls Tryd.prog 22 #[.string t] W fun e w' => e = .returned (.int .i64 R) ∧ ∃ q, w' = W.drewN q from
    ⟨_, longRun_pos (by rw [size_list]; omega), by have := longRun_len t.data.toList; rw [size_list] at this; omega, longestRun_any t W (by omega) (by omega)⟩))
  generalize looseTo s.data.toList m m = L at *
  clear hv htw
  by_cases hL : L.length = 0
  · go_enter Tryd.func9, Tryd.ntmps9
    go_wp2_with (first | (go_at_call 20; with_reducible refine (Hv.out _).mono ?_; rintro e w1 ⟨rfl, hb1⟩) | (go_at_call 21; with_reducible refine (Hlo.out _).mono ?_; rintro e w2 ⟨v, rfl, ho, hb2⟩; obtain ⟨a, c, rfl, hr⟩ := ho.sliceI; have HB := Lib.hid (bstep hb1 hb2 (Nat.le_refl _)); clear ho hr hb1 hb2))
    obtain ⟨W0, HW0⟩ : ∃ W0, Hid (W0 = w2) := ⟨_, rfl⟩
    rw [← HW0.out] at HB
    go_loopw [7, 21] (fun v i wr => ∃ k : Nat, k ≤ m ∧ i = .int .i64 k ∧ ∃ A : Nat, v = .int .i64 A ∧ A ≤ s.size ∧ (0 < k → 1 ≤ A) ∧ Hid (Below W0.heap.size W0 wr)) (fun _ i _ => m - (intOf i).toNat)
    case atStart => exact ⟨0, Nat.zero_le _, rfl, 0, rfl, by omega, fun h => by omega, Lib.hid (by rw [HW0.out]; exact Below.refl _ _)⟩
    case round =>
      obtain ⟨k, hk, rfl, A, rfl, hA, hA1, Hbel⟩ := hrel
      by_cases hkm : k < m
      · have d0 : decide ((k : Int) < m) = true := by simp; omega
        have d0' : decide (k < m) = true := by simp; omega
        go_wp2_with fail
        with_reducible refine (Hag.out _).mono ?_
        rintro e w3 ⟨rfl, q, hq⟩
        have hb3 : Below wr.heap.size wr w3 := by rw [hq]; exact bdrewN (Below.refl _ _) q
        clear hq
        obtain ⟨t, ht, Hc⟩ := Hal.out k hkm w3
        have Hc2 := Lib.hid Hc
        clear Hc
        go_wp2_with fail
        with_reducible refine Hc2.out.mono ?_
        rintro e w4 ⟨rfl, hb4⟩
        obtain ⟨R, hR1, hR2, Hc⟩ := Hlr.out t ht w4
        have Hc3 := Lib.hid Hc
        have HB4 := Lib.hid (bstep Hbel.out (bstep hb3 hb4 (Nat.le_refl _)) (Nat.le_refl _))
        clear Hc Hc2 hb3 hb4
        go_wp2_with fail
        with_reducible refine Hc3.out.mono ?_
        rintro e w5 ⟨rfl, q, rfl⟩
        go_wp2_with fail
        go_roundw
        case rel => exact ⟨k + 1, by omega, by go_num, max A R, congrArg (Value.int .i64) (by omega), by omega, fun _ => by omega, Lib.hid (bdrewN HB4.out _)⟩
        case measure => simp [intOf]; omega
      · have d0 : decide ((k : Int) < m) = false := by simp; omega
        have d0' : decide (k < m) = false := by simp; omega
        go_wp2
        go_ret2
        exact ⟨_, _, rfl, fun _ => ⟨rfl, by have := hA1 (by omega); omega, by omega⟩, fun h => absurd hL h, bstep HB.out Hbel.out (Nat.le_refl _)⟩
  · obtain ⟨N, hN⟩ : ∃ N, L.length = N := ⟨_, rfl⟩
    have hN0 : 0 < N := by omega
    have z : decide (0 < (N : Int)) = true := by simp; omega
    have z' : decide (0 < N) = true := by simp; omega
    go_enter Tryd.func9, Tryd.ntmps9
    go_wp2_with (first | (go_at_call 20; with_reducible refine (Hv.out _).mono ?_; rintro e w1 ⟨rfl, hb1⟩) | (go_at_call 21; with_reducible refine (Hlo.out _).mono ?_; rintro e w2 ⟨v, rfl, ho, hb2⟩; obtain ⟨a, c, rfl, hr⟩ := ho.sliceI; have HB := Lib.hid (bstep hb1 hb2 (Nat.le_refl _)); clear ho hr hb1 hb2))
    go_ret2
    exact ⟨_, _, rfl, fun h => absurd h hL, fun _ => rfl, HB.out⟩

set_option maxHeartbeats 1000000 in
theorem SoundStakes_any (s : ByteArray) (fl most : Int) (w : World) (hs : s.size ≤ maxLen) :
    Calls Tryd.prog 10 #[.string s, .int .i64 fl, .int .i64 most] w (RetL w 2 (soundR s.data.toList fl most)) := by
  rw [soundR_code]
  have Hv := Lib.hid (fun W => strokeCode_any s most W hs)
  have Hfw := Lib.hid (show floatW s.data.toList most fl = if codeW s.data.toList most = 0 then if inB fl 1 12 then 0 else 2 else codeW s.data.toList most from rfl)
  by_cases hf : floatW s.data.toList most fl = 0
  · have hc : codeW s.data.toList most = 0 := by
      unfold floatW at hf
      split at hf
      · assumption
      · exact hf
    have hfl : inB fl 1 12 = true := by
      unfold floatW at hf
      rw [if_pos hc] at hf
      split at hf
      · assumption
      · omega
    obtain ⟨hv, h1, h2⟩ := codeW_zero hc
    rw [if_pos hf]
    rw [hc] at Hv
    obtain ⟨m, rfl⟩ : ∃ m : Nat, most = (m : Int) := ⟨most.toNat, by omega⟩
    obtain ⟨n, hn⟩ : ∃ n : Nat, n + 2 = m := ⟨m - 2, by omega⟩
    rw [show ((m : Int) - 2).toNat = n by omega]
    obtain ⟨B, HB⟩ : ∃ B : Nat → Bool, Hid (∀ k, B k = soundW s.data.toList (k + 3) fl) := ⟨_, fun _ => rfl⟩
    have Hsd := Lib.hid (fun (k : Nat) (hk : k < n) (W : World) => by
      have h := isSound_any s (k + 3) fl W hv (by omega) (by omega)
      rw [← HB.out k] at h
      exact h)
    obtain ⟨l, Hl⟩ : ∃ l, Hid (l = s.data.toList) := ⟨_, rfl⟩
    have Hst := Lib.hid (fun k => show soundTo l fl (k + 1) = if B k then soundTo l fl k ++ [((k + 3 : Nat) : Int)] else soundTo l fl k by rw [HB.out k, soundTo, Hl.out])
    rw [← Hl.out]
    clear hf hc hv Hfw
    go_enter Tryd.func10, Tryd.ntmps10
    go_wp2_with (first | (go_at_call 20; with_reducible refine (Hv.out _).mono ?_; rintro e w1 ⟨rfl, hb1⟩; have Hb1 := Lib.hid hb1; clear hb1) | (go_at_call 25; refine (isFloat_any _ _).mono ?_; rintro e w2 ⟨rfl, rfl⟩))
    have hz1 := Hb1.out.size
    go_loopw [9, 10] (fun v i wr => ∃ k : Nat, k ≤ n ∧ i = .int .i64 (k + 3 : Nat) ∧ ∃ pre : List Int, Hid (pre = soundTo l fl k) ∧ pre.length ≤ k ∧ wr.ownsRow w1.heap.size 2 1 v pre.length (ints pre) ∧ Below w1.heap.size w1 wr) (fun _ i _ => n + 3 - (intOf i).toNat)
    case atStart => exact ⟨0, Nat.zero_le _, rfl, [], Lib.hid rfl, by simp, owns_empty rfl (Nat.le_refl _), (Below.refl _ _).alloc (Nat.le_refl _) _⟩
    case round =>
      obtain ⟨k, hk, rfl, pre, Hp, hpl, hown, hbel⟩ := hrel
      obtain ⟨a, c, rfl⟩ := owns_slice hown
      have hsz := hbel.size
      have Hown := Lib.hid hown
      have Hbel := Lib.hid hbel
      clear hown hbel
      by_cases hkm : k < n
      · have hstep := Hst.out k
        rw [← Hp.out] at hstep
        have Hsd2 := Lib.hid (Hsd.out k hkm)
        generalize hbb : B k = b at *
        clear hbb
        have Hstep := Lib.hid hstep
        clear hstep
        have d0 : decide (((k + 3 : Nat) : Int) ≤ (m : Int)) = true := by simp; omega
        obtain ⟨u, hu⟩ : ∃ u : Nat, k + 3 = u := ⟨_, rfl⟩
        rw [hu] at Hsd2 d0 ⊢
        have hu60 : u ≤ 60 := by omega
        have d1 : decide (u ≤ m) = true := by simp; omega
        go_wp2_with fail
        with_reducible refine (Hsd2.out _).mono ?_
        rintro e w2 ⟨rfl, hb2⟩
        have hown : w2.ownsRow w1.heap.size 2 1 (.slice a pre.length c) pre.length (ints pre) := owns_below Hown.out hb2
        have hbel : Below w1.heap.size w1 w2 := bstep Hbel.out hb2 (Nat.le_refl _)
        have hsz2 := hbel.size
        clear hb2
        cases b
        · have Hown2 := Lib.hid hown
          have Hbel2 := Lib.hid hbel
          clear hown hbel
          go_wp2_with fail
          go_roundw
          case measure => simp [intOf]; omega
          case rel => exact ⟨k + 1, by omega, by first | (go_num; done) | (congr 1; omega), pre, Lib.hid (by rw [Hstep.out]; rfl), by omega, Hown2.out, Hbel2.out⟩
        · go_wp2_with (at_builtin; refine wpList_app1 rfl _ _ 26 rfl w1.heap.size 2 _ 8 Tryd.underlying26 info_i64 (by decide) rfl _ pre.length _ rfl (hown.alloc _) w2.heap.size (.int .i64 u) rfl ?c1 rfl ?c2 ?c3 ?_)
          case c1 => exact cell_boxed rfl
          case c2 => omega
          case c3 => simp; omega
          intro v' w' hown' hgrow
          have hb' := below_app (hbel.alloc (by omega) _) (hown.alloc _) hgrow (Nat.le_refl _) (by simp; omega)
          clear hown hgrow hbel
          go_wp2
          go_roundw
          case measure => simp [intOf]; omega
          case rel => exact ⟨k + 1, by omega, by first | (go_num; done) | (congr 1; omega), pre ++ [(u : Int)], Lib.hid (by rw [Hstep.out, ← hu]; rfl), by simp; omega, by simpa using hown', hb'⟩
      · have hkm' : k = n := by omega
        have d0 : decide (((k + 3 : Nat) : Int) ≤ (m : Int)) = false := by simp; omega
        have d1 : decide (k + 3 ≤ m) = false := by simp; omega
        have Hf := Lib.hid (show pre = soundTo l fl n by rw [Hp.out, hkm'])
        clear hkm'
        go_wp2
        go_ret2
        have e1 := Hf.out
        subst e1
        exact ⟨_, rfl, (Own.of Hown.out).mono hz1 (Nat.le_refl _), bstep Hb1.out Hbel.out (Nat.le_refl _)⟩
  · rw [if_neg hf]
    by_cases hc : codeW s.data.toList most = 0
    · have hfl : inB fl 1 12 = false := by
        unfold floatW at hf
        rw [if_pos hc] at hf
        split at hf
        · omega
        · rename_i h; simpa using h
      rw [show floatW s.data.toList most fl = 2 by rw [Hfw.out, if_pos hc, hfl]; rfl]
      rw [hc] at Hv
      clear hf hc Hfw hs
      go_enter Tryd.func10, Tryd.ntmps10
      go_wp2_with (first | (go_at_call 20; with_reducible refine (Hv.out _).mono ?_; rintro e w1 ⟨rfl, hb1⟩; have Hb1 := Lib.hid hb1; clear hb1) | (go_at_call 25; refine (isFloat_any _ _).mono ?_; rintro e w2 ⟨rfl, rfl⟩))
      go_ret2
      exact ⟨_, rfl, Own.nil _ _ _ _, Hb1.out⟩
    · rw [show floatW s.data.toList most fl = codeW s.data.toList most by rw [Hfw.out, if_neg hc]]
      generalize codeW s.data.toList most = c at *
      have z : (c != 0) = true := by simp [hc]
      clear hf hc Hfw hs
      go_enter Tryd.func10, Tryd.ntmps10
      go_wp2_with (go_at_call 20; with_reducible refine (Hv.out _).mono ?_; rintro e w1 ⟨rfl, hb1⟩; have Hb1 := Lib.hid hb1; clear hb1)
      go_ret2
      exact ⟨_, rfl, Own.nil _ _ _ _, Hb1.out⟩

set_option maxHeartbeats 1000000 in
theorem specSoundStakes_any (s : ByteArray) (fl most : Int) (w : World) (hs : s.size ≤ maxLen) :
    Calls Tryd.prog 14 #[.string s, .int .i64 fl, .int .i64 most] w (RetL w 2 (soundR s.data.toList fl most)) := by
  rw [soundR_code]
  have Hv := Lib.hid (fun W => l06Float_any s most fl W hs)
  by_cases hf : floatW s.data.toList most fl = 0
  · have hc : codeW s.data.toList most = 0 := by
      unfold floatW at hf
      split at hf
      · assumption
      · exact hf
    have hfl : inB fl 1 12 = true := by
      unfold floatW at hf
      rw [if_pos hc] at hf
      split at hf
      · assumption
      · omega
    obtain ⟨hv, h1, h2⟩ := codeW_zero hc
    rw [if_pos hf]
    rw [hf] at Hv
    obtain ⟨m, rfl⟩ : ∃ m : Nat, most = (m : Int) := ⟨most.toNat, by omega⟩
    obtain ⟨n, hn⟩ : ∃ n : Nat, n + 2 = m := ⟨m - 2, by omega⟩
    rw [show ((m : Int) - 2).toNat = n by omega]
    obtain ⟨B, HB⟩ : ∃ B : Nat → Bool, Hid (∀ k, B k = soundW s.data.toList (k + 3) fl) := ⟨_, fun _ => rfl⟩
    have Hsd := Lib.hid (fun (k : Nat) (hk : k < n) (W : World) => by
      have h := l06Sound_any s (k + 3) fl W hv (by omega) (by omega)
      rw [← HB.out k] at h
      exact h)
    obtain ⟨l, Hl⟩ : ∃ l, Hid (l = s.data.toList) := ⟨_, rfl⟩
    have Hst := Lib.hid (fun k => show soundTo l fl (k + 1) = if B k then soundTo l fl k ++ [((k + 3 : Nat) : Int)] else soundTo l fl k by rw [HB.out k, soundTo, Hl.out])
    rw [← Hl.out]
    clear hf hc hv
    go_enter Tryd.func14, Tryd.ntmps14
    go_wp2_with (go_at_call 27; with_reducible refine (Hv.out _).mono ?_; rintro e w1 ⟨rfl, q, hq⟩; have Hb1 := Lib.hid (show Below w.heap.size w w1 by rw [hq]; exact bdrewN (Below.refl _ _) q); clear hq)
    have hz1 := Hb1.out.size
    go_loopw [9, 10] (fun v i wr => ∃ k : Nat, k ≤ n ∧ i = .int .i64 (k + 3 : Nat) ∧ ∃ pre : List Int, Hid (pre = soundTo l fl k) ∧ pre.length ≤ k ∧ wr.ownsRow w1.heap.size 2 1 v pre.length (ints pre) ∧ Below w1.heap.size w1 wr) (fun _ i _ => n + 3 - (intOf i).toNat)
    case atStart => exact ⟨0, Nat.zero_le _, rfl, [], Lib.hid rfl, by simp, owns_empty rfl (Nat.le_refl _), (Below.refl _ _).alloc (Nat.le_refl _) _⟩
    case round =>
      obtain ⟨k, hk, rfl, pre, Hp, hpl, hown, hbel⟩ := hrel
      obtain ⟨a, c, rfl⟩ := owns_slice hown
      have hsz := hbel.size
      have Hown := Lib.hid hown
      have Hbel := Lib.hid hbel
      clear hown hbel
      by_cases hkm : k < n
      · have hstep := Hst.out k
        rw [← Hp.out] at hstep
        have Hsd2 := Lib.hid (Hsd.out k hkm)
        generalize hbb : B k = b at *
        clear hbb
        have Hstep := Lib.hid hstep
        clear hstep
        have d0 : decide (((k + 3 : Nat) : Int) ≤ (m : Int)) = true := by simp; omega
        obtain ⟨u, hu⟩ : ∃ u : Nat, k + 3 = u := ⟨_, rfl⟩
        rw [hu] at Hsd2 d0 ⊢
        have hu60 : u ≤ 60 := by omega
        have d1 : decide (u ≤ m) = true := by simp; omega
        go_wp2_with fail
        with_reducible refine (Hsd2.out _).mono ?_
        rintro e w2 ⟨rfl, hb2⟩
        have hown : w2.ownsRow w1.heap.size 2 1 (.slice a pre.length c) pre.length (ints pre) := owns_below Hown.out hb2
        have hbel : Below w1.heap.size w1 w2 := bstep Hbel.out hb2 (Nat.le_refl _)
        have hsz2 := hbel.size
        clear hb2
        cases b
        · have Hown2 := Lib.hid hown
          have Hbel2 := Lib.hid hbel
          clear hown hbel
          go_wp2_with fail
          go_roundw
          case measure => simp [intOf]; omega
          case rel => exact ⟨k + 1, by omega, by first | (go_num; done) | (congr 1; omega), pre, Lib.hid (by rw [Hstep.out]; rfl), by omega, Hown2.out, Hbel2.out⟩
        · go_wp2_with (at_builtin; refine wpList_app1 rfl _ _ 26 rfl w1.heap.size 2 _ 8 Tryd.underlying26 info_i64 (by decide) rfl _ pre.length _ rfl (hown.alloc _) w2.heap.size (.int .i64 u) rfl ?c1 rfl ?c2 ?c3 ?_)
          case c1 => exact cell_boxed rfl
          case c2 => omega
          case c3 => simp; omega
          intro v' w' hown' hgrow
          have hb' := below_app (hbel.alloc (by omega) _) (hown.alloc _) hgrow (Nat.le_refl _) (by simp; omega)
          clear hown hgrow hbel
          go_wp2
          go_roundw
          case measure => simp [intOf]; omega
          case rel => exact ⟨k + 1, by omega, by first | (go_num; done) | (congr 1; omega), pre ++ [(u : Int)], Lib.hid (by rw [Hstep.out, ← hu]; rfl), by simp; omega, by simpa using hown', hb'⟩
      · have hkm' : k = n := by omega
        have d0 : decide (((k + 3 : Nat) : Int) ≤ (m : Int)) = false := by simp; omega
        have d1 : decide (k + 3 ≤ m) = false := by simp; omega
        have Hf := Lib.hid (show pre = soundTo l fl n by rw [Hp.out, hkm'])
        clear hkm'
        go_wp2
        go_ret2
        have e1 := Hf.out
        subst e1
        exact ⟨_, rfl, (Own.of Hown.out).mono hz1 (Nat.le_refl _), bstep Hb1.out Hbel.out (Nat.le_refl _)⟩
  · rw [if_neg hf]
    generalize floatW s.data.toList most fl = c at *
    have z : (c != 0) = true := by simp [hf]
    clear hf hs
    go_enter Tryd.func14, Tryd.ntmps14
    go_wp2_with (go_at_call 27; with_reducible refine (Hv.out _).mono ?_; rintro e w1 ⟨rfl, q, hq⟩; have Hb1 := Lib.hid (show Below w.heap.size w w1 by rw [hq]; exact bdrewN (Below.refl _ _) q); clear hq)
    go_ret2
    exact ⟨_, rfl, Own.nil _ _ _ _, Hb1.out⟩

theorem specIsSound_any (s : ByteArray) (m : Nat) (fl : Int) (w : World) (hv : vS s.data.toList = true) (h0 : 3 ≤ m) (h1 : m ≤ 60) (hf : inB fl 1 12 = true) :
    Calls Tryd.prog 13 #[.string s, .int .i64 m, .int .i64 fl] w fun e w' => e = .returned (.tuple #[.bool (soundW s.data.toList m fl), .int .i64 0]) ∧ Below w.heap.size w w' := by
  obtain ⟨hs0, hs1, htw⟩ := vS_iff.1 hv
  rw [size_list] at hs0 hs1
  have Hv := Lib.hid (fun W => l06Float_any s m fl W (by unfold maxLen; omega))
  rw [show floatW s.data.toList m fl = 0 by unfold floatW; rw [if_pos (codeW_at hv (by omega) (by omega)), if_pos hf]] at Hv
  have Hsd := Lib.hid (fun W => l06Sound_any s m fl W hv h0 h1)
  generalize soundW s.data.toList m fl = b at *
  clear hv htw hf
  go_enter Tryd.func13, Tryd.ntmps13
  go_wp2_with (first | (go_at_call 27; with_reducible refine (Hv.out _).mono ?_; rintro e w1 ⟨rfl, q, hq⟩; have Hb1 := Lib.hid (show Below w.heap.size w w1 by rw [hq]; exact bdrewN (Below.refl _ _) q); clear hq) | (go_at_call 28; with_reducible refine (Hsd.out _).mono ?_; rintro e w2 ⟨rfl, hb2⟩))
  go_ret2
  exact ⟨rfl, bstep Hb1.out hb2 (Nat.le_refl _)⟩
end Go.Proofs.YtdbjcjabbefnoaaDoor
