/-
  Twills, on: ways along a row, longest runs, by walks.
-/
import Derived.Test.YtggbnibdpkblgaaDoorTwillRow
namespace Go.Proofs.YtggbnibdpkblgaaDoor
open Go.RowKit
set_option linter.unusedVariables false

set_option maxHeartbeats 1000000 in
theorem along_any (s : ByteArray) (f st : Int) (m : Nat) (w : World) (hs0 : 1 ≤ s.size) (hs1 : s.size ≤ 1000) (hf : 0 ≤ f ∧ f ≤ 100000) (hst : 0 ≤ st ∧ st ≤ 1000) (hm0 : 1 ≤ m) (hm1 : m ≤ 1000) :
    Calls Tryd.prog 52 #[.string s, .int .i64 f, .int .i64 st, .int .i64 m] w fun e w' => e = .returned (.string (str (alongL s.data.toList f st m))) ∧ Below w.heap.size w w' := by
  have hmk := fun W => run_make_row' (P := Tryd.prog) 22 5 (.int .u8 0) 1 Tryd.underlying22 info_u8 rfl .i64 .i64 m (by omega) (by omega) W
  generalize hcs : (madeCells #[Value.int .u8 0] m) = cs at hmk
  have Hcs := Lib.hid hcs
  clear hcs
  obtain ⟨xs, Hxs⟩ : ∃ xs, Hid (xs = bytesI (alongL s.data.toList f st m)) := ⟨_, rfl⟩
  have Hxl := Lib.hid (show xs.length = m by rw [Hxs.out, bytesI_len, alongL_len])
  go_enter Tryd.func52, Tryd.ntmps52
  go_wp2
  go_loopw [14] (fun i wr => ∃ k : Nat, k ≤ m ∧ i = .int .i64 k ∧ wr.ownsRow w.heap.size 5 1 (.slice (some ⟨w.heap.size, 0, none⟩) m m) m (filled xs m k) ∧ Below w.heap.size w wr ∧ w.heap.size < wr.heap.size) (fun i _ => m - (intOf i).toNat)
  case atStart =>
    refine ⟨0, Nat.zero_le _, rfl, ?_, (Below.refl _ _).alloc (Nat.le_refl _) _, by simp⟩
    have := owns_made8 w 5 m (by unfold maxLen; omega)
    rw [Hcs.out] at this
    simpa [filled] using this
  case round =>
    obtain ⟨k, hk, rfl, hown, hbl, hsz⟩ := hrel
    by_cases hlt : k < m
    · obtain ⟨u, hu⟩ : ∃ u, wr.cell? ⟨w.heap.size, k, none⟩ = some u := by
        have := hown.cellAt k (by omega)
        have hl : (filled xs m k).length = m := filled_length Hxl.out hk
        rw [List.getElem?_eq_getElem (by omega)] at this
        exact ⟨_, this⟩
      have hf' := hown.frozenAt k
      obtain ⟨j, hj⟩ : ∃ j : Nat, (f + k * st) % s.size = (j : Int) := Int.eq_ofNat_of_zero_le (Int.emod_nonneg _ (by omega))
      have hjl : j < s.size := by have := Int.emod_lt_of_pos (f + k * st) (show (0 : Int) < s.size by omega); omega
      have hxk : xs.getD k 0 = ((s[j]'hjl).toNat : Int) := by
        rw [Hxs.out, bytesI_get _ (by rw [alongL_len]; exact hlt), bat_get hjl]
        congr 1
        unfold bat
        rw [alongL_get hlt, size_list, hj, Int.toNat_natCast]
      have hs := hown.stored k (.int .u8 (xs.getD k 0))
      rw [filled_step Hxl.out hlt, hxk] at hs
      have Hs := Lib.hid hs
      have hp0 : 0 ≤ (k : Int) * st := Int.mul_nonneg (by omega) hst.1
      have hp1 : (k : Int) * st ≤ 1000 * 1000 := Int.mul_le_mul (by omega) hst.2 hst.1 (by omega)
      obtain ⟨p, hp⟩ : ∃ p, (k : Int) * st = p := ⟨_, rfl⟩
      have q0 : IntKind.i64.wrap ((k : Int) * st) = p := by rw [hp]; exact IntWalk.i64_in p (by omega)
      rw [hp] at hp0 hp1 hj
      have q2 : (f + p).tmod s.size = (j : Int) := by rw [Int.tmod_eq_emod_of_nonneg (by omega), hj]
      have hz : (s.size : Int) ≠ 0 := by omega
      have hz' : s.size ≠ 0 := by omega
      have hji : (j : Int) < s.size := by omega
      have Hb := Lib.hid hbl
      clear hs hown hbl hp hxk
      go_wp2
      go_roundw
      case rel =>
        exact ⟨k + 1, by omega, by go_num, Hs.out.1, Hb.out.grown Hs.out.2 (by omega) (fun k hk => by simp at hk; omega), by simpa using hsz⟩
      case measure => simp [intOf]; omega
    · have hkn : k = m := by omega
      have Hkn := Lib.hid hkn
      have hown2 : wr.ownsRow w.heap.size 5 1 (.slice (some ⟨w.heap.size, 0, none⟩) m m) m (u8s xs) := by
        have h := hown
        rw [hkn, filled_all Hxl.out] at h
        exact h
      have hrv := (owns_read hown2).1
      rw [Hxs.out] at hrv
      have hcv := run_to_string (P := Tryd.prog) 22 9 5 Tryd.underlying22 Tryd.underlying5 Tryd.underlying9 hrv
      have Hb := Lib.hid hbl
      clear hown hown2 hrv hbl hkn
      go_wp2
      go_ret
      exact ⟨rfl, Hb.out⟩

set_option maxHeartbeats 1000000 in
theorem longestRun_any (s : ByteArray) (w : World) (hs0 : 1 ≤ s.size) (hs1 : s.size ≤ 1000) :
    Calls Tryd.prog 51 #[.string s] w fun e w' => e = .returned (.int .i64 (longRun s.data.toList : Nat)) ∧ ∃ q, w' = w.drewN q := by
  obtain ⟨l, Hl⟩ : ∃ l, Hid (l = s.data.toList) := ⟨_, rfl⟩
  have Hll := Lib.hid (show l.length = s.size by rw [Hl.out, size_list])
  rw [← Hl.out]
  have hmn : ∀ k, mostK l k ≤ k := mostK_le l
  have hrn : ∀ k, runK l k ≤ k := runK_le l
  have Hmn := Lib.hid hmn
  have Hrn := Lib.hid hrn
  have Hbat := Lib.hid (fun k (hk : k < s.size) => show (s[k]'hk).toNat = bat l k by rw [Hl.out]; exact bat_get hk)
  clear hmn hrn
  obtain ⟨N, hN⟩ : ∃ N, s.size = N := ⟨_, rfl⟩
  rw [hN] at hs0 hs1 Hll
  go_enter Tryd.func51, Tryd.ntmps51
  go_wp2
  go_loopw [3, 4, 9] (fun q r i wr => ∃ k : Nat, k ≤ 2 * N ∧ i = .int .i64 k ∧ ∃ A R : Nat, q = .int .i64 A ∧ r = .int .i64 R ∧ A ≤ 1000 ∧ R ≤ k ∧ Hid (A = max 1 (min (mostK l k) N)) ∧ Hid (R = runK l k) ∧ ∃ m, Hid (wr = w.drewN m)) (fun _ _ i _ => 2 * N - (intOf i).toNat)
  case atStart => exact ⟨0, by omega, rfl, 1, 0, rfl, rfl, by omega, by omega, Lib.hid (by simp [mostK]), Lib.hid rfl, 0, Lib.hid rfl⟩
  case round =>
    obtain ⟨k, hk, rfl, A, R, rfl, rfl, hA, hR, HA, HR, m, Hw⟩ := hrel
    by_cases hlt : k < 2 * N
    · have hd : decide ((k : Int) < 2 * N) = true := by simp; omega
      have Hmk := Lib.hid (show mostK l (k + 1) = max (mostK l k) (runK l (k + 1)) from rfl)
      have Hrk := Lib.hid (show runK l (k + 1) = (if 0 < k ∧ bat l (k % N) ≠ bat l ((k - 1) % N) then 0 else runK l k) + 1 by rw [← Hll.out]; rfl)
      have hRb := Hrn.out k
      by_cases hk0 : k = 0
      · subst hk0
        have Hr1 := Lib.hid (show runK l 1 = R + 1 by rw [HR.out]; have := Hrk.out; simpa using this)
        clear hRb
        go_wp2
        go_quiet (fail)
        go_wp2
        go_roundw
        case measure => simp [intOf]; omega
        case rel =>
          refine ⟨1, by omega, by go_num, max A (min (R + 1) N), R + 1, congrArg (Value.int .i64) (by omega), by go_num, by omega, by omega, Lib.hid ?_, Lib.hid Hr1.out.symm, m + nq, Lib.hid (by rw [Hw.out, World.drewN_drewN])⟩
          have h1 := HA.out; have h2 := Hmk.out; have h3 := Hr1.out
          simp only [Nat.zero_add] at h2
          rw [h2, h3]; omega
      · obtain ⟨j1, hj1⟩ : ∃ j, j = k % N := ⟨_, rfl⟩
        obtain ⟨j2, hj2⟩ : ∃ j, j = (k - 1) % N := ⟨_, rfl⟩
        obtain ⟨k', hk'⟩ : ∃ k', k = k' + 1 := ⟨k - 1, by omega⟩
        have hj1l : j1 < N := by rw [hj1]; exact Nat.mod_lt _ (by omega)
        have hj2l : j2 < N := by rw [hj2]; exact Nat.mod_lt _ (by omega)
        have q1 : (k : Int) % (N : Int) = (j1 : Int) := by rw [hj1]; omega
        have q2 : (k' : Int) % (N : Int) = (j2 : Int) := by rw [hj2, hk']; simp
        have hw1 : IntKind.i64.wrap ((k : Int) - 1) = (k' : Int) := by rw [IntWalk.i64_in _ (by omega)]; omega
        have d0 : decide (0 < (k : Int)) = true := by simp; omega
        have d0' : decide (0 < k) = true := by simp; omega
        have hj1s : j1 < s.size := by rw [hN]; exact hj1l
        have hj2s : j2 < s.size := by rw [hN]; exact hj2l
        have hz : (N : Int) ≠ 0 := by omega
        have hz' : N ≠ 0 := by omega
        have hj1i : (j1 : Int) < N := by omega
        have hj2i : (j2 : Int) < N := by omega
        obtain ⟨c1, hc1⟩ : ∃ c : Nat, (s[j1]'hj1s).toNat = c := ⟨_, rfl⟩
        obtain ⟨c2, hc2⟩ : ∃ c : Nat, (s[j2]'hj2s).toNat = c := ⟨_, rfl⟩
        have e1 : c1 = bat l j1 := by rw [← hc1]; exact Hbat.out j1 hj1s
        have e2 : c2 = bat l j2 := by rw [← hc2]; exact Hbat.out j2 hj2s
        have hrk := Hrk.out
        rw [← hj1, ← hj2, ← e1, ← e2] at hrk
        have Hrk2 := Lib.hid hrk
        clear hrk hj1 hj2 e1 e2
        have Hk' := Lib.hid hk'
        clear hk'
        by_cases hcc : c1 = c2
        · have Hr1 := Lib.hid (show runK l (k + 1) = R + 1 by rw [Hrk2.out, HR.out, if_neg (by simp [hcc])])
          subst hcc
          go_wp2
          go_quiet (fail)
          go_wp2
          go_roundw
          case measure => simp [intOf]; omega
          case rel =>
            have hRk := HR.out
            refine ⟨k + 1, by omega, by go_num, max A (min (R + 1) N), R + 1, congrArg (Value.int .i64) (by omega), by go_num, by omega, by omega, Lib.hid ?_, Lib.hid Hr1.out.symm, m + nq, Lib.hid (by rw [Hw.out, World.drewN_drewN])⟩
            have h1 := HA.out; have h2 := Hmk.out; have h3 := Hr1.out
            rw [h2, h3]; omega
        · have Hr1 := Lib.hid (show runK l (k + 1) = 0 + 1 by rw [Hrk2.out, if_pos ⟨by omega, hcc⟩])
          have d1 : ((c1 : Int) != (c2 : Int)) = true := by simp; omega
          have d1' : (c1 != c2) = true := by simp [hcc]
          have d2 : ((c1 : Int) == (c2 : Int)) = false := by simp; omega
          have d2' : (c1 == c2) = false := by simp [hcc]
          clear hcc
          go_wp2
          go_quiet (fail)
          go_wp2
          go_roundw
          case measure => simp [intOf]; omega
          case rel =>
            refine ⟨k + 1, by omega, by go_num, max A (min 1 N), 1, congrArg (Value.int .i64) (by omega), by go_num, by omega, by omega, Lib.hid ?_, Lib.hid Hr1.out.symm, m + nq, Lib.hid (by rw [Hw.out, World.drewN_drewN])⟩
            have h1 := HA.out; have h2 := Hmk.out; have h3 := Hr1.out
            rw [h2, h3]; omega
    · have hd : decide ((k : Int) < 2 * N) = false := by simp; omega
      have hkn : k = 2 * N := by omega
      have Hf := Lib.hid (show A = longRun l by
        have h1 := HA.out
        have h2 := mostK_pos l (i := 2 * N) (by omega)
        rw [hkn] at h1
        rw [h1, longRun, Hll.out]; omega)
      clear hkn
      go_wp2
      go_ret
      have e1 := Hf.out
      subst e1
      exact ⟨rfl, m, Hw.out⟩

end Go.Proofs.YtggbnibdpkblgaaDoor
