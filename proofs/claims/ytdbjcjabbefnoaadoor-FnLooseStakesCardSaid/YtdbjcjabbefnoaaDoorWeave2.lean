/-
  Weaves, by walks: loose stakes, sound weaves.
-/
import Derived.Test.YtdbjcjabbefnoaaDoorWeave
namespace Go.Proofs.YtdbjcjabbefnoaaDoor
open Go.RowKit
set_option linter.unusedVariables false

theorem looseTo_step (l : List UInt8) (st : Int) (k : Nat) : looseTo l st (k + 1) = if bothW (stackW l st k) then looseTo l st k else looseTo l st k ++ [(k : Int)] := by
  rw [looseTo, looseK]
  cases bothW (stackW l st k) <;> simp
theorem stackW_len {l : List UInt8} {st : Int} (k : Nat) (hl : 1 ≤ l.length) (h0 : 1 ≤ st) : 1 ≤ (stackW l st k).length ∧ (stackW l st k).length ≤ l.length := by
  have h := agW_spec (n := l.length) (st := st) hl h0
  unfold stackW
  rw [alongL_len]
  omega

set_option maxHeartbeats 2000000 in
theorem looseStakes_any (s : ByteArray) (m : Nat) (w : World) (hv : vS s.data.toList = true) (h0 : 3 ≤ m) (h1 : m ≤ 60) :
    Calls Tryd.prog 21 #[.string s, .int .i64 m] w fun e w' => ∃ v : Value, e = .returned v ∧ Own w' w.heap.size w'.heap.size 2 v (ints (looseTo s.data.toList m m)) ∧ Below w.heap.size w w' := by
  obtain ⟨l, Hl⟩ : ∃ l, Hid (l = s.data.toList) := ⟨_, rfl⟩
  have Hll := Lib.hid (show l.length = s.size by rw [Hl.out, size_list])
  rw [← Hl.out] at hv ⊢
  obtain ⟨hs0, hs1, htw⟩ := vS_iff.1 hv
  rw [Hll.out] at hs0 hs1
  have hag := agW_spec (n := s.size) (st := (m : Int)) hs0 (by omega)
  obtain ⟨M, HM⟩ : ∃ M, Hid (M = agW s.size m) := ⟨_, rfl⟩
  rw [← HM.out] at hag
  have hM1 : 1 ≤ M := hag.2.1
  have hM2 : M ≤ 12 := by omega
  have Hsk := Lib.hid (fun k => show stackW l m k = alongL l k m M by unfold stackW; rw [Hll.out, HM.out])
  obtain ⟨T, HT⟩ : ∃ T : Nat → ByteArray, Hid (∀ k, T k = str (stackW l m k)) := ⟨_, fun _ => rfl⟩
  obtain ⟨B, HB⟩ : ∃ B : Nat → Bool, Hid (∀ k, B k = bothW (stackW l m k)) := ⟨_, fun _ => rfl⟩
  have Hts := Lib.hid (fun k => show 1 ≤ (T k).size ∧ (T k).size ≤ 12 by
    rw [HT.out k, str_size, Hsk.out k, alongL_len]; exact ⟨hM1, hM2⟩)
  have Hst := Lib.hid (fun k => show looseTo l m (k + 1) = if B k then looseTo l m k else looseTo l m k ++ [(k : Int)] by rw [HB.out k]; exact looseTo_step l m k)
  clear hag
  have Hag := Lib.hid (fun W => by
    have h := beginsAgain_any s m W hs0 (by omega) (by omega) (by omega)
    rw [← HM.out] at h
    exact h)
  have Hal := Lib.hid (fun (k : Nat) (hk : k < m) (W : World) => by
    have h := along_any s k m M W hs0 (by omega) (by omega) (by omega) hM1 (by omega)
    rw [← Hl.out, ← Hsk.out k, ← HT.out k] at h
    exact h)
  have Hbk := Lib.hid (fun (k : Nat) (W : World) => by
    have h := bothKinds_any (T k) W
    rw [bothW_B, show (T k).data.toList = stackW l m k by rw [HT.out k, str_list], ← HB.out k] at h
    exact h)
  clear hv htw hs0 hs1
  go_enter Tryd.func21, Tryd.ntmps21
  go_wp2
  go_loopw [5, 9] (fun v i wr => ∃ k : Nat, k ≤ m ∧ i = .int .i64 k ∧ ∃ pre : List Int, Hid (pre = looseTo l m k) ∧ pre.length ≤ k ∧ wr.ownsRow w.heap.size 2 1 v pre.length (ints pre) ∧ Below w.heap.size w wr) (fun _ i _ => m - (intOf i).toNat)
  case atStart => exact ⟨0, Nat.zero_le _, rfl, [], Lib.hid rfl, by simp, owns_empty rfl (Nat.le_refl _), (Below.refl _ _).alloc (Nat.le_refl _) _⟩
  case round =>
    obtain ⟨k, hk, rfl, pre, Hp, hpl, hown, hbel⟩ := hrel
    obtain ⟨a, c, rfl⟩ := owns_slice hown
    have hsz := hbel.size
    have Hown := Lib.hid hown
    have Hbel := Lib.hid hbel
    clear hown hbel
    by_cases hkm : k < m
    · have hstep := Hst.out k
      rw [← Hp.out] at hstep
      have Hal2 := Lib.hid (Hal.out k hkm)
      have Hbk2 := Lib.hid (Hbk.out k)
      generalize T k = t at *
      generalize hbb : B k = b at *
      clear hbb
      have Hstep := Lib.hid hstep
      clear hstep
      have d0 : decide ((k : Int) < m) = true := by simp; omega
      have d0' : decide (k < m) = true := by simp; omega
      go_wp2_with fail
      with_reducible refine (Hag.out _).mono ?_
      rintro e w1 ⟨rfl, q, hq⟩
      have hb1 : Below wr.heap.size wr w1 := by rw [hq]; exact bdrewN (Below.refl _ _) q
      clear hq
      go_wp2_with fail
      with_reducible refine (Hal2.out _).mono ?_
      rintro e w2 ⟨rfl, hb2⟩
      have hbw := bstep hb1 hb2 (Nat.le_refl _)
      have hown : w2.ownsRow w.heap.size 2 1 (.slice a pre.length c) pre.length (ints pre) := owns_below Hown.out hbw
      have hbel : Below w.heap.size w w2 := bstep Hbel.out hbw (Nat.le_refl _)
      have hsz2 := hbel.size
      have Hown2 := Lib.hid hown
      have Hbel2 := Lib.hid hbel
      clear hb1 hb2 hbw hown hbel
      cases b
      · go_wp2_with fail
        with_reducible refine (Hbk2.out _).mono ?_
        rintro e w3 ⟨rfl, rfl⟩
        have hown := Hown2.out
        have hbel := Hbel2.out
        go_wp2_with (at_builtin; refine wpList_app1 rfl _ _ 26 rfl w.heap.size 2 _ 8 Tryd.underlying26 info_i64 (by decide) rfl _ pre.length _ rfl (hown.alloc _) w2.heap.size (.int .i64 k) rfl ?c1 rfl ?c2 ?c3 ?_)
        case c1 => exact cell_boxed rfl
        case c2 => omega
        case c3 => simp; omega
        intro v' w' hown' hgrow
        have hb' := below_app (hbel.alloc (by omega) _) (hown.alloc _) hgrow (Nat.le_refl _) (by simp; omega)
        clear hown hgrow hbel
        go_wp2
        go_roundw
        case measure => simp [intOf]; omega
        case rel => exact ⟨k + 1, by omega, by go_num, pre ++ [(k : Int)], Lib.hid (by rw [Hstep.out]; rfl), by simp; omega, by simpa using hown', hb'⟩
      · go_wp2_with fail
        with_reducible refine (Hbk2.out _).mono ?_
        rintro e w3 ⟨rfl, rfl⟩
        go_wp2_with fail
        go_roundw
        case measure => simp [intOf]; omega
        case rel => exact ⟨k + 1, by omega, by go_num, pre, Lib.hid (by rw [Hstep.out]; rfl), by omega, Hown2.out, Hbel2.out⟩
    · have hkm' : k = m := by omega
      have d0 : decide ((k : Int) < m) = false := by simp; omega
      have d0' : decide (k < m) = false := by simp; omega
      have Hf := Lib.hid (show pre = looseTo l m m by rw [Hp.out, hkm'])
      clear hkm'
      go_wp2
      go_ret
      have e1 := Hf.out
      subst e1
      exact ⟨_, rfl, Own.of Hown.out, Hbel.out⟩

set_option maxHeartbeats 2000000 in
theorem l06Loose_any (s : ByteArray) (m : Nat) (w : World) (hv : vS s.data.toList = true) (h0 : 3 ≤ m) (h1 : m ≤ 60) :
    Calls Tryd.prog 40 #[.string s, .int .i64 m] w fun e w' => ∃ v : Value, e = .returned v ∧ Own w' w.heap.size w'.heap.size 2 v (ints (looseTo s.data.toList m m)) ∧ Below w.heap.size w w' := by
  obtain ⟨l, Hl⟩ : ∃ l, Hid (l = s.data.toList) := ⟨_, rfl⟩
  have Hll := Lib.hid (show l.length = s.size by rw [Hl.out, size_list])
  rw [← Hl.out] at hv ⊢
  obtain ⟨hs0, hs1, htw⟩ := vS_iff.1 hv
  rw [Hll.out] at hs0 hs1
  have hag := agW_spec (n := s.size) (st := (m : Int)) hs0 (by omega)
  obtain ⟨M, HM⟩ : ∃ M, Hid (M = agW s.size m) := ⟨_, rfl⟩
  rw [← HM.out] at hag
  have hM1 : 1 ≤ M := hag.2.1
  have hM2 : M ≤ 12 := by omega
  have Hsk := Lib.hid (fun k => show stackW l m k = alongL l k m M by unfold stackW; rw [Hll.out, HM.out])
  obtain ⟨T, HT⟩ : ∃ T : Nat → ByteArray, Hid (∀ k, T k = str (stackW l m k)) := ⟨_, fun _ => rfl⟩
  obtain ⟨B, HB⟩ : ∃ B : Nat → Bool, Hid (∀ k, B k = bothW (stackW l m k)) := ⟨_, fun _ => rfl⟩
  have Hts := Lib.hid (fun k => show 1 ≤ (T k).size ∧ (T k).size ≤ 12 by
    rw [HT.out k, str_size, Hsk.out k, alongL_len]; exact ⟨hM1, hM2⟩)
  have Hst := Lib.hid (fun k => show looseTo l m (k + 1) = if B k then looseTo l m k else looseTo l m k ++ [(k : Int)] by rw [HB.out k]; exact looseTo_step l m k)
  clear hag
  have Hal := Lib.hid (fun (k : Nat) (hk : k < m) (W : World) => by
    have h := l06Stack_any s m k W hs0 hs1 (by omega) (by omega) (by omega)
    rw [← Hl.out, ← HT.out k] at h
    exact h)
  have Hbk := Lib.hid (fun (k : Nat) (W : World) => by
    have h := l06Run_any (T k) W (Hts.out k).1 (by have := (Hts.out k).2; omega)
    rw [show (T k).data.toList = stackW l m k by rw [HT.out k, str_list]] at h
    exact h)
  have Hrz := Lib.hid (fun (k : Nat) => show (((runR (stackW l m k) : Nat) : Int) == 0) = !B k by
    have h := runR_zero (l := stackW l m k) (two_along htw (by rw [Hll.out]; exact hs0) _ _ _)
    rw [← HB.out k] at h
    cases hb : B k
    · have := h.2 hb; simp [this]
    · have : runR (stackW l m k) ≠ 0 := fun e => by rw [h.1 e] at hb; cases hb
      simp; omega)
  clear hv htw hs0 hs1
  go_enter Tryd.func40, Tryd.ntmps40
  go_wp2
  go_loopw [5, 6] (fun v i wr => ∃ k : Nat, k ≤ m ∧ i = .int .i64 k ∧ ∃ pre : List Int, Hid (pre = looseTo l m k) ∧ pre.length ≤ k ∧ wr.ownsRow w.heap.size 2 1 v pre.length (ints pre) ∧ Below w.heap.size w wr) (fun _ i _ => m - (intOf i).toNat)
  case atStart => exact ⟨0, Nat.zero_le _, rfl, [], Lib.hid rfl, by simp, owns_empty rfl (Nat.le_refl _), (Below.refl _ _).alloc (Nat.le_refl _) _⟩
  case round =>
    obtain ⟨k, hk, rfl, pre, Hp, hpl, hown, hbel⟩ := hrel
    obtain ⟨a, c, rfl⟩ := owns_slice hown
    have hsz := hbel.size
    have Hown := Lib.hid hown
    have Hbel := Lib.hid hbel
    clear hown hbel
    by_cases hkm : k < m
    · have hstep := Hst.out k
      rw [← Hp.out] at hstep
      have Hal2 := Lib.hid (Hal.out k hkm)
      have Hbk2 := Lib.hid (Hbk.out k)
      have hrz := Hrz.out k
      generalize T k = t at *
      generalize runR (stackW l m k) = R at *
      generalize hbb : B k = b at *
      clear hbb
      have Hstep := Lib.hid hstep
      clear hstep
      have d0 : decide ((k : Int) < m) = true := by simp; omega
      have d0' : decide (k < m) = true := by simp; omega
      go_wp2_with fail
      with_reducible refine (Hal2.out _).mono ?_
      rintro e w1 ⟨rfl, hb1⟩
      go_wp2_with fail
      with_reducible refine (Hbk2.out _).mono ?_
      rintro e w2 ⟨rfl, q, hq⟩
      have hb2 : Below w1.heap.size w1 w2 := by rw [hq]; exact bdrewN (Below.refl _ _) q
      clear hq
      have hbw := bstep hb1 hb2 (Nat.le_refl _)
      have hown : w2.ownsRow w.heap.size 2 1 (.slice a pre.length c) pre.length (ints pre) := owns_below Hown.out hbw
      have hbel : Below w.heap.size w w2 := bstep Hbel.out hbw (Nat.le_refl _)
      have hsz2 := hbel.size
      clear hb1 hb2 hbw
      cases b
      · have z0 : ((R : Int) == 0) = true := hrz
        have z1 : R = 0 := by simpa using hrz
        subst z1
        clear hrz
        go_wp2_with (at_builtin; refine wpList_app1 rfl _ _ 26 rfl w.heap.size 2 _ 8 Tryd.underlying26 info_i64 (by decide) rfl _ pre.length _ rfl (hown.alloc _) w2.heap.size (.int .i64 k) rfl ?c1 rfl ?c2 ?c3 ?_)
        case c1 => exact cell_boxed rfl
        case c2 => omega
        case c3 => simp; omega
        intro v' w' hown' hgrow
        have hb' := below_app (hbel.alloc (by omega) _) (hown.alloc _) hgrow (Nat.le_refl _) (by simp; omega)
        clear hown hgrow hbel
        go_wp2
        go_roundw
        case measure => simp [intOf]; omega
        case rel => exact ⟨k + 1, by omega, by go_num, pre ++ [(k : Int)], Lib.hid (by rw [Hstep.out]; rfl), by simp; omega, by simpa using hown', hb'⟩
      · have z0 : ((R : Int) == 0) = false := hrz
        have z1 : R ≠ 0 := by simpa using hrz
        have Hown2 := Lib.hid hown
        have Hbel2 := Lib.hid hbel
        clear hrz hown hbel
        go_wp2_with fail
        go_roundw
        case measure => simp [intOf]; omega
        case rel => exact ⟨k + 1, by omega, by go_num, pre, Lib.hid (by rw [Hstep.out]; rfl), by omega, Hown2.out, Hbel2.out⟩
    · have hkm' : k = m := by omega
      have d0 : decide ((k : Int) < m) = false := by simp; omega
      have d0' : decide (k < m) = false := by simp; omega
      have Hf := Lib.hid (show pre = looseTo l m m by rw [Hp.out, hkm'])
      clear hkm'
      go_wp2
      go_ret
      have e1 := Hf.out
      subst e1
      exact ⟨_, rfl, Own.of Hown.out, Hbel.out⟩

theorem bundrewN' {a w : World} {n : Nat} (h : Below (a.drewN n).heap.size (a.drewN n) w) : Below a.heap.size a w := ⟨h.os, h.tape, h.output, h.size, h.block⟩

set_option maxHeartbeats 1000000 in
theorem isSound_any (s : ByteArray) (m : Nat) (fl : Int) (w : World) (hv : vS s.data.toList = true) (h0 : 3 ≤ m) (h1 : m ≤ 60) :
    Calls Tryd.prog 26 #[.string s, .int .i64 m, .int .i64 fl] w fun e w' => e = .returned (.bool (soundW s.data.toList m fl)) ∧ Below w.heap.size w w' := by
  have Hlo := Lib.hid (fun W => looseStakes_any s m W hv h0 h1)
  have hsv : soundW s.data.toList m fl = (bothW s.data.toList && decide ((longRun s.data.toList : Int) ≤ fl) && decide ((looseTo s.data.toList m m).length = 0)) := rfl
  obtain ⟨hs0, hs1, htw⟩ := vS_iff.1 hv
  rw [size_list] at hs0 hs1
  have Hbk := Lib.hid (fun W => bothKinds_any s W)
  rw [bothW_B] at Hbk
  have Hlr := Lib.hid (fun W => longestRun_any s W hs0 (by omega))
  generalize soundW s.data.toList m fl = res at *
  generalize bothW s.data.toList = b at *
  generalize longRun s.data.toList = R at *
  generalize looseTo s.data.toList m m = L at *
  have Hsv := Lib.hid hsv
  clear hsv hv htw
  cases b
  · have HR := Lib.hid (show res = false by rw [Hsv.out]; simp)
    go_enter Tryd.func26, Tryd.ntmps26
    go_wp2_with (first | (go_at_call 34; with_reducible refine (Hbk.out _).mono ?_; rintro e w1 ⟨rfl, rfl⟩))
    go_ret
    exact ⟨ret_bool HR.out.symm, Below.refl _ _⟩
  · cases hd : decide ((R : Int) ≤ fl)
    · have HR := Lib.hid (show res = false by rw [Hsv.out, hd]; simp)
      go_enter Tryd.func26, Tryd.ntmps26
      go_wp2_with (first | (go_at_call 34; with_reducible refine (Hbk.out _).mono ?_; rintro e w1 ⟨rfl, rfl⟩) | (go_at_call 22; with_reducible refine (Hlr.out _).mono ?_; rintro e w1 ⟨rfl, q, rfl⟩))
      go_ret
      exact ⟨ret_bool HR.out.symm, bdrewN (Below.refl _ _) _⟩
    · obtain ⟨N, hN⟩ : ∃ N, L.length = N := ⟨_, rfl⟩
      have HR := Lib.hid (show res = decide (N = 0) by rw [Hsv.out, hd, hN]; simp)
      cases hz : decide (N = 0)
      · have z5 : ((N : Int) == 0) = false := by simp at hz ⊢; omega
        have z6 : (N == 0) = false := by simp at hz ⊢; omega
        rw [hz] at HR
        go_enter Tryd.func26, Tryd.ntmps26
        go_wp2_with (first | (go_at_call 34; with_reducible refine (Hbk.out _).mono ?_; rintro e w1 ⟨rfl, rfl⟩) | (go_at_call 22; with_reducible refine (Hlr.out _).mono ?_; rintro e w1 ⟨rfl, q, rfl⟩) | (go_at_call 21; with_reducible refine (Hlo.out _).mono ?_; rintro e w1 ⟨v, rfl, ho, hb⟩; obtain ⟨a, c, rfl, hr⟩ := ho.sliceI; have HB := Lib.hid (bundrewN' hb); clear ho hr hb))
        go_ret
        exact ⟨ret_bool HR.out.symm, HB.out⟩
      · have z5 : N = 0 := by simpa using hz
        rw [hz] at HR
        subst z5
        go_enter Tryd.func26, Tryd.ntmps26
        go_wp2_with (first | (go_at_call 34; with_reducible refine (Hbk.out _).mono ?_; rintro e w1 ⟨rfl, rfl⟩) | (go_at_call 22; with_reducible refine (Hlr.out _).mono ?_; rintro e w1 ⟨rfl, q, rfl⟩) | (go_at_call 21; with_reducible refine (Hlo.out _).mono ?_; rintro e w1 ⟨v, rfl, ho, hb⟩; obtain ⟨a, c, rfl, hr⟩ := ho.sliceI; have HB := Lib.hid (bundrewN' hb); clear ho hr hb))
        go_ret
        exact ⟨ret_bool HR.out.symm, HB.out⟩

set_option maxHeartbeats 1000000 in
theorem l06Sound_any (s : ByteArray) (m : Nat) (fl : Int) (w : World) (hv : vS s.data.toList = true) (h0 : 3 ≤ m) (h1 : m ≤ 60) :
    Calls Tryd.prog 28 #[.string s, .int .i64 m, .int .i64 fl] w fun e w' => e = .returned (.bool (soundW s.data.toList m fl)) ∧ Below w.heap.size w w' := by
  have Hlo := Lib.hid (fun W => l06Loose_any s m W hv h0 h1)
  have hsv : soundW s.data.toList m fl = (bothW s.data.toList && decide ((longRun s.data.toList : Int) ≤ fl) && decide ((looseTo s.data.toList m m).length = 0)) := rfl
  obtain ⟨hs0, hs1, htw⟩ := vS_iff.1 hv
  rw [size_list] at hs0 hs1
  have Hlr := Lib.hid (fun W => l06Run_any s W hs0 (by omega))
  rw [runR_eq htw] at Hlr
  have hlp : 1 ≤ longRun s.data.toList := longRun_pos (by rw [size_list]; exact hs0)
  generalize soundW s.data.toList m fl = res at *
  generalize bothW s.data.toList = b at *
  generalize longRun s.data.toList = R at *
  generalize looseTo s.data.toList m m = L at *
  have Hsv := Lib.hid hsv
  clear hsv hv htw
  cases b
  · have HR := Lib.hid (show res = false by rw [Hsv.out]; simp)
    rw [show (if (false : Bool) = true then R else 0) = 0 from rfl] at Hlr
    go_enter Tryd.func28, Tryd.ntmps28
    go_wp2_with (first | (go_at_call 39; with_reducible refine (Hlr.out _).mono ?_; rintro e w1 ⟨rfl, q, rfl⟩))
    go_ret
    exact ⟨ret_bool HR.out.symm, bdrewN (Below.refl _ _) _⟩
  · rw [show (if (true : Bool) = true then R else 0) = R from rfl] at Hlr
    have z1 : decide (0 < (R : Int)) = true := decide_eq_true (by omega)
    have z1' : decide (0 < R) = true := decide_eq_true (by omega)
    cases hd : decide ((R : Int) ≤ fl)
    · have HR := Lib.hid (show res = false by rw [Hsv.out, hd]; simp)
      go_enter Tryd.func28, Tryd.ntmps28
      go_wp2_with (first | (go_at_call 39; with_reducible refine (Hlr.out _).mono ?_; rintro e w1 ⟨rfl, q, rfl⟩))
      go_ret
      exact ⟨ret_bool HR.out.symm, bdrewN (Below.refl _ _) _⟩
    · obtain ⟨N, hN⟩ : ∃ N, L.length = N := ⟨_, rfl⟩
      have HR := Lib.hid (show res = decide (N = 0) by rw [Hsv.out, hd, hN]; simp)
      cases hz : decide (N = 0)
      · have z5 : ((N : Int) == 0) = false := by simp at hz ⊢; omega
        have z6 : (N == 0) = false := by simp at hz ⊢; omega
        rw [hz] at HR
        go_enter Tryd.func28, Tryd.ntmps28
        go_wp2_with (first | (go_at_call 39; with_reducible refine (Hlr.out _).mono ?_; rintro e w1 ⟨rfl, q, rfl⟩) | (go_at_call 40; with_reducible refine (Hlo.out _).mono ?_; rintro e w1 ⟨v, rfl, ho, hb⟩; obtain ⟨a, c, rfl, hr⟩ := ho.sliceI; have HB := Lib.hid (bundrewN' hb); clear ho hr hb))
        go_ret
        exact ⟨ret_bool HR.out.symm, HB.out⟩
      · have z5 : N = 0 := by simpa using hz
        rw [hz] at HR
        subst z5
        go_enter Tryd.func28, Tryd.ntmps28
        go_wp2_with (first | (go_at_call 39; with_reducible refine (Hlr.out _).mono ?_; rintro e w1 ⟨rfl, q, rfl⟩) | (go_at_call 40; with_reducible refine (Hlo.out _).mono ?_; rintro e w1 ⟨v, rfl, ho, hb⟩; obtain ⟨a, c, rfl, hr⟩ := ho.sliceI; have HB := Lib.hid (bundrewN' hb); clear ho hr hb))
        go_ret
        exact ⟨ret_bool HR.out.symm, HB.out⟩

end Go.Proofs.YtdbjcjabbefnoaaDoor
