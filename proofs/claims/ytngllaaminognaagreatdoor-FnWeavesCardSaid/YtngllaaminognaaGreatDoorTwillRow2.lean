/-
  Twills, on: ways along a row, longest runs, by walks.
-/
import Derived.Test.YtngllaaminognaaGreatDoorTwillRow
namespace Go.Proofs.YtngllaaminognaaGreatDoor
open Go.RowKit
set_option linter.unusedVariables false

set_option maxHeartbeats 1000000 in
theorem along_any (s : ByteArray) (f st : Int) (m : Nat) (w : World) (hs0 : 1 ≤ s.size) (hs1 : s.size ≤ 1000) (hf : 0 ≤ f ∧ f ≤ 100000) (hst : 0 ≤ st ∧ st ≤ 1000) (hm0 : 1 ≤ m) (hm1 : m ≤ 1000) :
    Calls Tryz.prog 18 #[.string s, .int .i64 f, .int .i64 st, .int .i64 m] w fun e w' => e = .returned (.string (str (alongL s.data.toList f st m))) ∧ Below w.heap.size w w' := by
  have hmk := fun W => run_make_row' (P := Tryz.prog) 22 5 (.int .u8 0) 1 Tryz.underlying22 info_u8 rfl .i64 .i64 m (by omega) (by omega) W
  generalize hcs : (madeCells #[Value.int .u8 0] m) = cs at hmk
  have Hcs := Lib.hid hcs
  clear hcs
  obtain ⟨xs, Hxs⟩ : ∃ xs, Hid (xs = bytesI (alongL s.data.toList f st m)) := ⟨_, rfl⟩
  have Hxl := Lib.hid (show xs.length = m by rw [Hxs.out, bytesI_len, alongL_len])
  go_enter Tryz.func18, Tryz.ntmps18
  go_wp2
  go_loopw [14] (fun i wr => ∃ k : Nat, k ≤ m ∧ i = .int .i64 k ∧ wr.ownsRow w.heap.size 5 1 (.slice (some ⟨w.heap.size, 0, none⟩) m m) m (filled xs m k) ∧ Below w.heap.size w wr ∧ w.heap.size < wr.heap.size) (fun i _ => m - (intOf i).toNat)
  case atStart =>
    refine ⟨0, Nat.zero_le _, rfl, ?_, (Below.refl _ _).alloc (Nat.le_refl _) _, by simp⟩
    have := owns_made8 w 5 m (by unfold maxLen; omega)
    rw [Hcs.out] at this
    simpa [filled] using this
  case round =>
    obtain ⟨k, hk, rfl, hown, hbl, hsz⟩ := hrel
    by_cases hlt : k < m
    · obtain ⟨u, hu⟩ : ∃ u, wr.cell? ⟨w.heap.size, k, none⟩ = some u := by
        have := hown.cellAt k (by omega)
        have hl : (filled xs m k).length = m := filled_length Hxl.out hk
        rw [List.getElem?_eq_getElem (by omega)] at this
        exact ⟨_, this⟩
      have hf' := hown.frozenAt k
      obtain ⟨j, hj⟩ : ∃ j : Nat, (f + k * st) % s.size = (j : Int) := Int.eq_ofNat_of_zero_le (Int.emod_nonneg _ (by omega))
      have hjl : j < s.size := by have := Int.emod_lt_of_pos (f + k * st) (show (0 : Int) < s.size by omega); omega
      have hxk : xs.getD k 0 = ((s[j]'hjl).toNat : Int) := by
        rw [Hxs.out, bytesI_get _ (by rw [alongL_len]; exact hlt), bat_get hjl]
        congr 1
        unfold bat
        rw [alongL_get hlt, size_list, hj, Int.toNat_natCast]
      have hs := hown.stored k (.int .u8 (xs.getD k 0))
      rw [filled_step Hxl.out hlt, hxk] at hs
      have Hs := Lib.hid hs
      have hp0 : 0 ≤ (k : Int) * st := Int.mul_nonneg (by omega) hst.1
      have hp1 : (k : Int) * st ≤ 1000 * 1000 := Int.mul_le_mul (by omega) hst.2 hst.1 (by omega)
      obtain ⟨p, hp⟩ : ∃ p, (k : Int) * st = p := ⟨_, rfl⟩
      have q0 : IntKind.i64.wrap ((k : Int) * st) = p := by rw [hp]; exact IntWalk.i64_in p (by omega)
      rw [hp] at hp0 hp1 hj
      have q2 : (f + p).tmod s.size = (j : Int) := by rw [Int.tmod_eq_emod_of_nonneg (by omega), hj]
      have hz : (s.size : Int) ≠ 0 := by omega
      have hz' : s.size ≠ 0 := by omega
      have hji : (j : Int) < s.size := by omega
      have Hb := Lib.hid hbl
      clear hs hown hbl hp hxk
      go_wp2
      go_roundw
      case rel =>
        exact ⟨k + 1, by omega, by go_num, Hs.out.1, Hb.out.grown Hs.out.2 (by omega) (fun k hk => by simp at hk; omega), by simpa using hsz⟩
      case measure => simp [intOf]; omega
    · have hkn : k = m := by omega
      have Hkn := Lib.hid hkn
      have hown2 : wr.ownsRow w.heap.size 5 1 (.slice (some ⟨w.heap.size, 0, none⟩) m m) m (u8s xs) := by
        have h := hown
        rw [hkn, filled_all Hxl.out] at h
        exact h
      have hrv := (owns_read hown2).1
      rw [Hxs.out] at hrv
      have hcv := run_to_string (P := Tryz.prog) 22 9 5 Tryz.underlying22 Tryz.underlying5 Tryz.underlying9 hrv
      have Hb := Lib.hid hbl
      clear hown hown2 hrv hbl hkn
      go_wp2
      go_ret
      exact ⟨rfl, Hb.out⟩


end Go.Proofs.YtngllaaminognaaGreatDoor
