/-
  Weaves, by walks: codes, how often a weave begins again, stakes, runs.
-/
import Derived.Test.YtdbjcjabbefnoaaDoorWeavePlain
import Derived.Test.YtdbjcjabbefnoaaDoorDraft
import Derived.Test.YtdbjcjabbefnoaaDoorTwillRow2
namespace Go.Proofs.YtdbjcjabbefnoaaDoor
open Go.RowKit
set_option linter.unusedVariables false

theorem bothW_B (l : List UInt8) : bothB l = bothW l := rfl
def codeW (l : List UInt8) (st : Int) : Int := if vS l then if areSt st then 0 else 2 else 1

theorem beginsAgain_any (s : ByteArray) (st : Int) (w : World) (hs0 : 1 ≤ s.size) (hs1 : s.size ≤ 1000) (h0 : 1 ≤ st) (h1 : st ≤ 1000) :
    Calls Tryd.prog 24 #[.string s, .int .i64 st] w fun e w' => e = .returned (.int .i64 (agW s.size st : Nat)) ∧ ∃ m, w' = w.drewN m := by
  obtain ⟨N, hN⟩ : ∃ N, s.size = N := ⟨_, rfl⟩
  rw [hN] at hs0 hs1 ⊢
  obtain ⟨q1, q2, q3, q4, q5⟩ := agW_spec (n := N) (st := st) hs0 h0
  have Hdv := Lib.hid (fun W => divisor_any N st W (by omega) (by omega) (by omega) (by omega))
  generalize agW N st = M at *
  generalize gcdI N st = G at *
  have hz : G ≠ 0 := by omega
  have q6 := IntWalk.i64_in (M : Int) (by omega)
  go_enter Tryd.func24, Tryd.ntmps24
  go_wp2_with (go_at_call 35; with_reducible refine (Hdv.out _).mono ?_; rintro e w' ⟨rfl, m, rfl⟩)
  go_ret
  exact ⟨rfl, _, rfl⟩

theorem l06Again_any (s : ByteArray) (st : Int) (w : World) (hs0 : 1 ≤ s.size) (hs1 : s.size ≤ 1000) (h0 : 1 ≤ st) (h1 : st ≤ 1000) :
    Calls Tryd.prog 56 #[.string s, .int .i64 st] w fun e w' => e = .returned (.int .i64 (agW s.size st : Nat)) ∧ w = w' := by
  obtain ⟨N, hN⟩ : ∃ N, s.size = N := ⟨_, rfl⟩
  rw [hN] at hs0 hs1 ⊢
  obtain ⟨q1, q2, q3, q4, q5⟩ := agW_spec (n := N) (st := st) hs0 h0
  have Hdv := Lib.hid (fun W => l00Gcd_any N st W (by omega) (by omega) (by omega) (by omega))
  generalize agW N st = M at *
  generalize gcdI N st = G at *
  have hz : G ≠ 0 := by omega
  have q6 := IntWalk.i64_in (M : Int) (by omega)
  go_enter Tryd.func56, Tryd.ntmps56
  go_wp2_with (go_at_call 63; with_reducible refine (Hdv.out _).mono ?_; rintro e w' ⟨rfl, rfl⟩)
  go_ret
  exact ⟨rfl, rfl⟩

theorem isFloat_any (n : Int) (w : World) : Calls Tryd.prog 25 #[.int .i64 n] w fun e w' => e = .returned (.bool (inB n 1 12)) ∧ w = w' := by
  go_enter Tryd.func25, Tryd.ntmps25
  go_wp2_with (go_at_call 36; refine (within_any _ _ _ _).mono ?_; rintro e w' ⟨rfl, rfl⟩)
  go_ret
  exact ⟨rfl, rfl⟩
theorem strokeCode_any (s : ByteArray) (st : Int) (w : World) (hs : s.size ≤ maxLen) :
    Calls Tryd.prog 20 #[.string s, .int .i64 st] w fun e w' => e = .returned (.int .i64 (codeW s.data.toList st)) ∧ Below w.heap.size w w' := by
  have Hv := Lib.hid (fun W => validStroke_any s W hs)
  have Hc := Lib.hid (show codeW s.data.toList st = if vS s.data.toList then if areSt st then 0 else 2 else 1 from rfl)
  generalize codeW s.data.toList st = C at *
  generalize vS s.data.toList = v at *
  clear hs
  cases v
  · have HC := Lib.hid (show C = 1 by simpa using Hc.out)
    go_enter Tryd.func20, Tryd.ntmps20
    go_wp2_with (go_at_call 32; with_reducible refine (Hv.out _).mono ?_; rintro e w' ⟨rfl, hb⟩)
    go_ret
    exact ⟨ret_int HC.out.symm, hb⟩
  · cases h : areSt st
    · have HC := Lib.hid (show C = 2 by simpa [h] using Hc.out)
      go_enter Tryd.func20, Tryd.ntmps20
      go_wp2_with (first | (go_at_call 32; with_reducible refine (Hv.out _).mono ?_; rintro e w' ⟨rfl, hb⟩) | (go_at_call 33; refine (areStakes_any _ _).mono ?_; rintro e w'' ⟨rfl, rfl⟩))
      go_ret
      exact ⟨ret_int HC.out.symm, hb⟩
    · have HC := Lib.hid (show C = 0 by simpa [h] using Hc.out)
      go_enter Tryd.func20, Tryd.ntmps20
      go_wp2_with (first | (go_at_call 32; with_reducible refine (Hv.out _).mono ?_; rintro e w' ⟨rfl, hb⟩) | (go_at_call 33; refine (areStakes_any _ _).mono ?_; rintro e w'' ⟨rfl, rfl⟩))
      go_ret
      exact ⟨ret_int HC.out.symm, hb⟩

theorem l06Code_any (s : ByteArray) (st : Int) (w : World) (hs : s.size ≤ maxLen) :
    Calls Tryd.prog 37 #[.string s, .int .i64 st] w fun e w' => e = .returned (.int .i64 (codeW s.data.toList st)) ∧ ∃ q, w' = w.drewN q := by
  have Hv := Lib.hid (fun W => l06Ok_any s W hs)
  have Hc := Lib.hid (show codeW s.data.toList st = if vS s.data.toList then if areSt st then 0 else 2 else 1 from rfl)
  generalize codeW s.data.toList st = C at *
  generalize vS s.data.toList = v at *
  clear hs
  cases v
  · have HC := Lib.hid (show C = 1 by simpa using Hc.out)
    go_enter Tryd.func37, Tryd.ntmps37
    go_wp2_with (go_at_call 44; with_reducible refine (Hv.out _).mono ?_; rintro e w' ⟨rfl, q, rfl⟩)
    go_ret
    exact ⟨ret_int HC.out.symm, _, rfl⟩
  · cases h : areSt st
    · have HC := Lib.hid (show C = 2 by simpa [h] using Hc.out)
      go_enter Tryd.func37, Tryd.ntmps37
      go_wp2_with (first | (go_at_call 44; with_reducible refine (Hv.out _).mono ?_; rintro e w' ⟨rfl, q, rfl⟩) | (go_at_call 45; refine (l06Stakes_any _ _).mono ?_; rintro e w'' ⟨rfl, rfl⟩))
      go_ret
      exact ⟨ret_int HC.out.symm, _, rfl⟩
    · have HC := Lib.hid (show C = 0 by simpa [h] using Hc.out)
      go_enter Tryd.func37, Tryd.ntmps37
      go_wp2_with (first | (go_at_call 44; with_reducible refine (Hv.out _).mono ?_; rintro e w' ⟨rfl, q, rfl⟩) | (go_at_call 45; refine (l06Stakes_any _ _).mono ?_; rintro e w'' ⟨rfl, rfl⟩))
      go_ret
      exact ⟨ret_int HC.out.symm, _, rfl⟩

theorem l06At_any (s : ByteArray) (st : Int) (round stake : Nat) (w : World) (hs0 : 1 ≤ s.size) (hs1 : s.size ≤ 1000) (h1 : 0 ≤ st ∧ st ≤ 1000) (h2 : stake ≤ 1000) (h3 : round ≤ 1000) :
    Calls Tryd.prog 57 #[.string s, .int .i64 st, .int .i64 round, .int .i64 stake] w fun e w' => e = .returned (.int .u8 (bat s.data.toList (((stake : Int) + round * st) % s.size).toNat)) ∧ w = w' := by
  have hp0 : 0 ≤ (round : Int) * st := Int.mul_nonneg (by omega) h1.1
  have hp1 : (round : Int) * st ≤ 1000 * 1000 := Int.mul_le_mul (by omega) h1.2 h1.1 (by omega)
  obtain ⟨p, hp⟩ : ∃ p, (round : Int) * st = p := ⟨_, rfl⟩
  have q0 : IntKind.i64.wrap ((round : Int) * st) = p := by rw [hp]; exact IntWalk.i64_in p (by omega)
  rw [hp] at hp0 hp1 ⊢
  have hpos : (0 : Int) < s.size := by omega
  have q1 := IntWalk.i64_in (p + (stake : Int)) (by omega)
  obtain ⟨j, hj⟩ : ∃ j : Nat, ((stake : Int) + p) % s.size = (j : Int) := Int.eq_ofNat_of_zero_le (Int.emod_nonneg _ (by omega))
  have hjl : j < s.size := by have := Int.emod_lt_of_pos ((stake : Int) + p) hpos; omega
  have q2 : (p + (stake : Int)).tmod s.size = (j : Int) := by rw [Int.tmod_eq_emod_of_nonneg (by omega), Int.add_comm, hj]
  have hz : (s.size : Int) ≠ 0 := by omega
  have hz' : s.size ≠ 0 := by omega
  have hji : (j : Int) < s.size := by omega
  rw [hj, Int.toNat_natCast, ← bat_get hjl]
  clear hp hj
  go_enter Tryd.func57, Tryd.ntmps57
  go_wp2
  go_ret
  exact ⟨rfl, rfl⟩

set_option maxHeartbeats 1000000 in
theorem l06Stack_any (s : ByteArray) (st : Int) (k : Nat) (w : World) (hs0 : 1 ≤ s.size) (hs1 : s.size ≤ 12) (h0 : 1 ≤ st) (h1 : st ≤ 100) (hk : k ≤ 100) :
    Calls Tryd.prog 47 #[.string s, .int .i64 st, .int .i64 k] w fun e w' => e = .returned (.string (str (stackW s.data.toList st k))) ∧ Below w.heap.size w w' := by
  obtain ⟨l, Hl⟩ : ∃ l, Hid (l = s.data.toList) := ⟨_, rfl⟩
  have Hll := Lib.hid (show l.length = s.size by rw [Hl.out, size_list])
  rw [← Hl.out]
  have hag := agW_spec (n := s.size) (st := st) hs0 h0
  have Hag := Lib.hid (fun W => l06Again_any s st W hs0 (by omega) h0 (by omega))
  have Hres := Lib.hid (show stackW l st k = alongL l k st (agW s.size st) by unfold stackW; rw [Hll.out])
  obtain ⟨M, HM⟩ : ∃ M, Hid (M = agW s.size st) := ⟨_, rfl⟩
  rw [← HM.out] at hag Hag Hres
  have hM1 : 1 ≤ M := hag.2.1
  have hM2 : M ≤ 12 := by omega
  have Hat := Lib.hid (fun (j : Nat) (hj : j < M) (W : World) => by
    have h := l06At_any s st j k W hs0 (by omega) (by omega) (by omega) (by omega)
    rw [← Hl.out, show bat l (((k : Int) + j * st) % s.size).toNat = bat (alongL l k st M) j by
      unfold bat; rw [alongL_get hj, Hll.out]] at h
    exact h)
  clear hag
  go_enter Tryd.func47, Tryd.ntmps47
  go_wp2
  go_loopw [7, 8] (fun v i wr => ∃ j : Nat, j ≤ M ∧ i = .int .i64 j ∧ ∃ pre : List UInt8, Hid (pre = alongL l k st j) ∧ pre.length ≤ 12 ∧ wr.ownsRow w.heap.size 5 1 v pre.length (u8s (bytesI pre)) ∧ Below w.heap.size w wr) (fun _ i _ => M - (intOf i).toNat)
  case atStart => exact ⟨0, Nat.zero_le _, rfl, [], Lib.hid (by simp [alongL]), by simp, owns_empty rfl (Nat.le_refl _), (Below.refl _ _).alloc (Nat.le_refl _) _⟩
  case round =>
    obtain ⟨j, hj, rfl, pre, Hp, hpl, hown, hbel⟩ := hrel
    obtain ⟨a', c', rfl⟩ := owns_slice hown
    have hsz := hbel.size
    have Hown := Lib.hid hown
    have Hbel := Lib.hid hbel
    clear hown hbel
    go_wp2_with fail
    with_reducible refine (Hag.out _).mono ?_
    rintro e w' ⟨rfl, rfl⟩
    by_cases hjm : j < M
    · have Hst := Lib.hid (show bytesI (alongL l k st (j + 1)) = bytesI (alongL l k st j) ++ [((bat (alongL l k st M) j : Nat) : Int)] by
        rw [alongL_step, bytesI_append]
        congr 1
        simp only [bytesI, List.map_cons, List.map_nil, List.cons.injEq, and_true]
        unfold bat
        rw [alongL_get hjm])
      obtain ⟨x, Hx⟩ : ∃ x : Nat, Hid (x = bat (alongL l k st M) j) := ⟨_, rfl⟩
      have Ha2 := Lib.hid (by
        have h := Hat.out j hjm
        rw [← Hx.out] at h
        exact h)
      have d0 : decide ((j : Int) < M) = true := by simp; omega
      have d0' : decide (j < M) = true := by simp; omega
      go_wp2_with fail
      with_reducible refine (Ha2.out _).mono ?_
      rintro e w' ⟨rfl, rfl⟩
      have hown : wr.ownsRow w.heap.size 5 1 (.slice a' pre.length c') pre.length (u8s (bytesI pre)) := Hown.out
      have hbel : Below w.heap.size w wr := Hbel.out
      go_wp2_with (at_builtin; refine wpList_app1 rfl _ _ 22 rfl w.heap.size 5 _ 1 Tryd.underlying22 info_u8 (by decide) rfl _ pre.length _ rfl (hown.alloc _) wr.heap.size (.int .u8 x) rfl ?c1 rfl ?c2 ?c3 ?_)
      case c1 => exact cell_boxed rfl
      case c2 => omega
      case c3 => simp; omega
      intro v1 w3 hown1 hgrow
      have hb1 := below_app (hbel.alloc (by omega) _) (hown.alloc _) hgrow (Nat.le_refl _) (by simp; omega)
      clear hown hgrow
      go_wp2
      go_roundw
      case measure => simp [intOf]; omega
      case rel =>
        have hpre : bytesI pre ++ [(x : Int)] = bytesI (alongL l k st (j + 1)) := by rw [Hst.out, Hp.out, Hx.out]
        refine ⟨j + 1, by omega, by go_num, alongL l k st (j + 1), Lib.hid rfl, by rw [alongL_len]; omega, ?_, hb1⟩
        rw [alongL_len, ← hpre]
        have hpl2 : pre.length = j := by rw [Hp.out, alongL_len]
        rw [hpl2] at hown1
        simpa using hown1
    · have hjM : j = M := by omega
      have d0 : decide ((j : Int) < M) = false := by simp; omega
      have d0' : decide (j < M) = false := by simp; omega
      have hpre : pre = alongL l k st M := by rw [Hp.out, hjM]
      have hown : wr.ownsRow w.heap.size 5 1 (.slice a' pre.length c') pre.length (u8s (bytesI pre)) := Hown.out
      have hrv := (owns_read hown).1
      have hpl0 : pre.length ≠ 0 := by rw [hpre, alongL_len]; omega
      obtain ⟨b, o, rfl, _, _⟩ := hrv.cellv hpl0
      have hcv := run_to_string (P := Tryd.prog) 22 9 5 Tryd.underlying22 Tryd.underlying5 Tryd.underlying9 hrv
      obtain ⟨L, hL⟩ : ∃ L, pre.length = L := ⟨_, rfl⟩
      rw [hL] at hcv
      have Hpre := Lib.hid hpre
      clear hown hrv hpl0 hpre hjM Hown
      simp only [hL]
      clear hL
      go_wp2
      go_ret
      exact ⟨by rw [Hres.out, Hpre.out]; rfl, Hbel.out⟩

set_option maxHeartbeats 1000000 in
theorem l06Run_any (s : ByteArray) (w : World) (hs0 : 1 ≤ s.size) (hs1 : s.size ≤ 1000) :
    Calls Tryd.prog 39 #[.string s] w fun e w' => e = .returned (.int .i64 (runR s.data.toList : Nat)) ∧ ∃ q, w' = w.drewN q := by
  obtain ⟨l, Hl⟩ : ∃ l, Hid (l = s.data.toList) := ⟨_, rfl⟩
  have Hll := Lib.hid (show l.length = s.size by rw [Hl.out, size_list])
  rw [← Hl.out]
  have Hmn := Lib.hid (mostE_le l)
  have Hrn := Lib.hid (runE_le l)
  have Hbat := Lib.hid (fun k (hk : k < s.size) => show (s[k]'hk).toNat = bat l k by rw [Hl.out]; exact bat_get hk)
  obtain ⟨N, hN⟩ : ∃ N, s.size = N := ⟨_, rfl⟩
  rw [hN] at hs0 hs1 Hll
  go_enter Tryd.func39, Tryd.ntmps39
  go_wp2
  go_loopw [3, 4, 5] (fun q r i wr => ∃ k : Nat, k ≤ 2 * N ∧ i = .int .i64 k ∧ ∃ A R : Nat, q = .int .i64 A ∧ r = .int .i64 R ∧ A ≤ k ∧ R ≤ k ∧ Hid (A = mostE l k) ∧ Hid (R = runE l k) ∧ ∃ m, Hid (wr = w.drewN m)) (fun _ _ i _ => 2 * N - (intOf i).toNat)
  case atStart => exact ⟨0, by omega, rfl, 0, 0, rfl, rfl, by omega, by omega, Lib.hid (by simp [mostE]), Lib.hid rfl, 0, Lib.hid rfl⟩
  case round =>
    obtain ⟨k, hk, rfl, A, R, rfl, rfl, hA, hR, HA, HR, m, Hw⟩ := hrel
    by_cases hlt : k < 2 * N
    · have hd : decide ((k : Int) < 2 * N) = true := by simp; omega
      have Hmk := Lib.hid (show mostE l (k + 1) = if dif l k then max (mostE l k) (runE l k + 1) else mostE l k from rfl)
      have Hrk := Lib.hid (show runE l (k + 1) = if dif l k then 0 else runE l k + 1 from rfl)
      have hdf : dif l k = (bat l (k % N) != bat l ((k + 1) % N)) := by unfold dif; rw [Hll.out]
      obtain ⟨j1, hj1⟩ : ∃ j, j = k % N := ⟨_, rfl⟩
      obtain ⟨j2, hj2⟩ : ∃ j, j = (k + 1) % N := ⟨_, rfl⟩
      have hj1l : j1 < N := by rw [hj1]; exact Nat.mod_lt _ (by omega)
      have hj2l : j2 < N := by rw [hj2]; exact Nat.mod_lt _ (by omega)
      have q1 : (k : Int) % (N : Int) = (j1 : Int) := by rw [hj1]; simp
      have q2 : ((k : Int) + 1) % (N : Int) = (j2 : Int) := by rw [hj2]; simp
      have hw1 : IntKind.i64.wrap ((k : Int) + 1) = (k : Int) + 1 := IntWalk.i64_in _ (by omega)
      have hj1s : j1 < s.size := by rw [hN]; exact hj1l
      have hj2s : j2 < s.size := by rw [hN]; exact hj2l
      have hz : (N : Int) ≠ 0 := by omega
      have hz' : N ≠ 0 := by omega
      have hj1i : (j1 : Int) < N := by omega
      have hj2i : (j2 : Int) < N := by omega
      obtain ⟨c1, hc1⟩ : ∃ c : Nat, (s[j1]'hj1s).toNat = c := ⟨_, rfl⟩
      obtain ⟨c2, hc2⟩ : ∃ c : Nat, (s[j2]'hj2s).toNat = c := ⟨_, rfl⟩
      rw [← hj1, ← hj2, ← Hbat.out j1 hj1s, ← Hbat.out j2 hj2s, hc1, hc2] at hdf
      clear hj1 hj2
      by_cases hcc : c1 = c2
      · have hdf0 : dif l k = false := by rw [hdf, hcc]; simp
        have Hr1 := Lib.hid (show runE l (k + 1) = R + 1 by rw [Hrk.out, hdf0, HR.out]; rfl)
        have Hm1 := Lib.hid (show mostE l (k + 1) = A by rw [Hmk.out, hdf0, HA.out]; rfl)
        clear hdf hdf0
        subst hcc
        go_wp2
        go_quiet (fail)
        go_wp2
        go_roundw
        case measure => simp [intOf]; omega
        case rel => exact ⟨k + 1, by omega, by go_num, A, R + 1, rfl, by go_num, by omega, by omega, Lib.hid Hm1.out.symm, Lib.hid Hr1.out.symm, m + nq, Lib.hid (by rw [Hw.out, World.drewN_drewN])⟩
      · have hdf0 : dif l k = true := by rw [hdf]; simp [hcc]
        have Hr1 := Lib.hid (show runE l (k + 1) = 0 by rw [Hrk.out, hdf0]; rfl)
        have Hm1 := Lib.hid (show mostE l (k + 1) = max A (R + 1) by rw [Hmk.out, hdf0, HA.out, HR.out]; rfl)
        have d1 : ((c1 : Int) != (c2 : Int)) = true := by simp; omega
        have d1' : (c1 != c2) = true := by simp [hcc]
        have d2 : ((c1 : Int) == (c2 : Int)) = false := by simp; omega
        have d2' : (c1 == c2) = false := by simp [hcc]
        clear hcc hdf hdf0
        go_wp2
        go_quiet (fail)
        go_wp2_with (go_at_call 46; refine (l00Max_any _ _ _).mono ?_; rintro e w' ⟨rfl, rfl⟩)
        go_roundw
        case measure => simp [intOf]; omega
        case rel => exact ⟨k + 1, by omega, by go_num, max A (R + 1), 0, congrArg (Value.int .i64) (by omega), by go_num, by omega, by omega, Lib.hid Hm1.out.symm, Lib.hid Hr1.out.symm, m + nq, Lib.hid (by rw [Hw.out, World.drewN_drewN])⟩
    · have hd : decide ((k : Int) < 2 * N) = false := by simp; omega
      have hkn : k = 2 * N := by omega
      have Hf := Lib.hid (show A = runR l by rw [HA.out, hkn, runR, Hll.out])
      clear hkn
      go_wp2
      go_ret
      have e1 := Hf.out
      subst e1
      exact ⟨rfl, m, Hw.out⟩
end Go.Proofs.YtdbjcjabbefnoaaDoor
