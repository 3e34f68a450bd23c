/-
  Twills, on: faces, the reference, by walks.
-/
import Derived.Test.YtflejjfkgkmcgaaGreatDoorTwill9
namespace Go.Proofs.YtflejjfkgkmcgaaGreatDoor
open Go.RowKit
set_option linter.unusedVariables false

set_option maxHeartbeats 2000000 in
theorem specFaceOf_any (a : Option Addr) (n c : Nat) (xs : List Int) (st sk ro : Int) (w : World) (ha : RV w a n c (ints xs)) :
    Calls Tryz.prog 7 #[.agg #[.slice a n c, .int .i64 st], .int .i64 sk, .int .i64 ro] w fun e w' => RetS w 9 (faceR xs st sk ro) e w' := by
  have hA0 := TwAt.boxed st 26 ha
  have hB0 : Below w.heap.size w (w.alloc (.cells #[.slice a n c, .int .i64 st] 26)) := (Below.refl _ _).alloc (Nat.le_refl _) _
  have HA := Lib.hid hA0
  have HB := Lib.hid hB0
  have Hvt0 := Lib.hid (fun W h => l09Ok_any w.heap.size a n c xs st W h)
  cases hv : vTwill xs st
  · rw [show faceR xs st sk ro = ([], 1) by simp [faceR, hv]]
    rw [hv] at Hvt0
    clear ha hA0 hB0 hv
    go_enter Tryz.func7, Tryz.ntmps7
    go_wp2_with (go_at_call 32; refine (Hvt0.out _ (by exact HA.out)).mono ?_; rintro e w1 ⟨rfl, q0, rfl⟩)
    go_ret2
    exact ⟨_, rfl, Own.nil _ _ _ _, bdrewN HB.out q0⟩
  · obtain ⟨he, h7, hN0, hN1, hst0, hst1⟩ := row_facts hv
    rw [hv] at Hvt0
    by_cases hsr : (inB sk 1 40 && inB ro 1 40) = true
    · have hsr2 := hsr
      simp only [Bool.and_eq_true] at hsr2
      have hs1 := inB_iff.1 hsr2.1
      have hr1 := inB_iff.1 hsr2.2
      obtain ⟨m, rfl⟩ := Int.eq_ofNat_of_zero_le (show 0 ≤ sk by omega)
      obtain ⟨R, rfl⟩ := Int.eq_ofNat_of_zero_le (show 0 ≤ ro by omega)
      obtain ⟨l, Hl⟩ : ∃ l, Hid (l = rowW xs) := ⟨_, rfl⟩
      obtain ⟨N, HN⟩ : ∃ N, Hid (N = l.length) := ⟨_, rfl⟩
      rw [← Hl.out, ← HN.out] at hN0 hN1 hst1
      obtain ⟨s, Hs⟩ : ∃ s, Hid (s = str l) := ⟨_, rfl⟩
      have hsN : s.size = N := by rw [Hs.out, str_size, HN.out]
      have hsl : s.data.toList = l := by rw [Hs.out, str_list]
      rw [show faceR xs st m R = (faceTo l st m R, 0) by unfold faceR; rw [if_pos hv, if_pos hsr, ← Hl.out]; simp]
      have Hrow := Lib.hid (by
        have h := fun W h => l09Row_any w.heap.size a n c xs st W he h7 h
        rw [← Hl.out, ← Hs.out] at h
        exact h)
      have Hw1 := Lib.hid (by have h := fun W => l00In_any m 1 40 W; rw [hsr2.1] at h; exact h)
      have Hw2 := Lib.hid (by have h := fun W => l00In_any R 1 40 W; rw [hsr2.2] at h; exact h)
      have Hat := Lib.hid (fun (k r : Nat) (hk : k < m) (hr : r < R) (W : World) => by
        have h := l09At_any s st k r W (by omega) (by omega) (by omega) (by omega) (by omega)
        rw [hsl, hsN] at h
        exact h)
      clear ha hA0 hB0 hv he h7 hsl hsr hsr2
      go_enter Tryz.func7, Tryz.ntmps7
      go_wp2_with fail
      refine (Hvt0.out _ (by exact HA.out)).mono ?_
      rintro e w1 ⟨rfl, q0, rfl⟩
      go_wp2_with fail
      refine (Hw1.out _).mono ?_
      rintro e w' ⟨rfl, rfl⟩
      go_wp2_with fail
      refine (Hw2.out _).mono ?_
      rintro e w' ⟨rfl, rfl⟩
      go_wp2_with fail
      refine (Hrow.out _ (by exact HA.out)).mono ?_
      rintro e w2 ⟨rfl, rfl⟩
      obtain ⟨W0, hW0⟩ : ∃ W0, (w.alloc (.cells #[.slice a n c, .int .i64 st] 26)).drewN q0 = W0 := ⟨_, rfl⟩
      have Hcb2 : Hid (W0.cell? ⟨w.heap.size, 1, none⟩ = some (.int .i64 st)) := Lib.hid (by rw [← hW0]; exact HA.out.2.1)
      have HB2 : Hid (Below w.heap.size w W0) := Lib.hid (by rw [← hW0]; exact bdrewN HB.out q0)
      have hz2 : w.heap.size < W0.heap.size := by rw [← hW0]; simp
      rw [hW0]
      clear hW0
      go_wp2
      go_loopw [9, 10] (fun v i wr => ∃ k : Nat, k ≤ R ∧ i = .int .i64 k ∧ ∃ pre : List (List UInt8), Hid (pre = faceTo l st m k) ∧ pre.length ≤ 40 ∧ wr.ownsRow W0.heap.size 9 1 v pre.length (strs pre) ∧ Below W0.heap.size W0 wr) (fun _ i _ => R - (intOf i).toNat)
      case atStart => exact ⟨0, Nat.zero_le _, rfl, [], Lib.hid (by simp [faceTo]), by simp, owns_empty rfl (Nat.le_refl _), (Below.refl _ _).alloc (Nat.le_refl _) _⟩
      case round =>
        obtain ⟨k, hk, rfl, pre, Hp, hpl, hown, hbel⟩ := hrel
        obtain ⟨a', c', rfl⟩ := owns_slice hown
        have hsz := hbel.size
        have hki : (k : Int) ≤ R := by omega
        by_cases hlt : k < R
        · have d0 : decide ((k : Int) < R) = true := by simp; omega
          have Hcr := Lib.hid ((hbel.cell (p := ⟨w.heap.size, 1, none⟩) hz2).trans Hcb2.out)
          have Hst := Lib.hid (faceTo_step l st m k)
          have Hown := Lib.hid hown
          have Hbel := Lib.hid hbel
          obtain ⟨W1, rfl⟩ : ∃ W1, W1 = wr := ⟨wr, rfl⟩
          have hzW := Lib.hid (show w.heap.size < W1.heap.size by omega)
          clear hown hbel
          go_wp2
          go_loopw [11, 12] (fun v i wr => ∃ j : Nat, j ≤ m ∧ i = .int .i64 j ∧ ∃ q : List UInt8, Hid (q = lineW l st j k) ∧ q.length ≤ 40 ∧ wr.ownsRow W1.heap.size 5 1 v q.length (u8s (bytesI q)) ∧ Below W1.heap.size W1 wr) (fun _ i _ => m - (intOf i).toNat)
          case atStart => exact ⟨0, Nat.zero_le _, rfl, [], Lib.hid (by simp [lineW]), by simp, owns_empty rfl (Nat.le_refl _), (Below.refl _ _).alloc (Nat.le_refl _) _⟩
          case round =>
            obtain ⟨j, hj, rfl, q, Hq, hql, hown2, hbel2⟩ := hrel
            obtain ⟨a2, c2, rfl⟩ := owns_slice hown2
            have hsz2 := hbel2.size
            have hcr : wr.cell? ⟨w.heap.size, 1, none⟩ = some (.int .i64 st) := (hbel2.cell (p := ⟨w.heap.size, 1, none⟩) hzW.out).trans Hcr.out
            by_cases hjm : j < m
            · have d1 : decide ((j : Int) < m) = true := by simp; omega
              obtain ⟨x, Hx⟩ : ∃ x : Nat, Hid (x = bat l (((j : Int) - st * k) % N).toNat) := ⟨_, rfl⟩
              have Hst2 := Lib.hid (show bytesI (lineW l st (j + 1) k) = bytesI (lineW l st j k) ++ [(x : Int)] by
                rw [lineW_step, bytesI_append, Hx.out, ← HN.out]
                rfl)
              have Ha2 := Lib.hid (by
                have h := Hat.out j k hjm hlt
                rw [← Hx.out] at h
                exact h)
              go_wp2_with fail
              refine (Ha2.out _).mono ?_
              rintro e w' ⟨rfl, rfl⟩
              go_wp2_with (at_builtin; refine wpList_app1 rfl _ _ 22 rfl W1.heap.size 5 _ 1 Tryz.underlying22 info_u8 (by decide) rfl _ q.length _ rfl (hown2.alloc _) wr.heap.size (.int .u8 x) rfl ?c1 rfl ?c2 ?c3 ?_)
              case c1 => exact cell_boxed rfl
              case c2 => omega
              case c3 => simp; omega
              intro v1 w3 hown1 hgrow
              have hb1 := below_app (hbel2.alloc (by omega) _) (hown2.alloc _) hgrow (Nat.le_refl _) (by simp; omega)
              clear hown2 hgrow
              go_wp2
              go_roundw
              case measure => simp [intOf]; omega
              case rel =>
                have hpre : bytesI q ++ [(x : Int)] = bytesI (lineW l st (j + 1) k) := by rw [Hst2.out, Hq.out]
                refine ⟨j + 1, by omega, by go_num, lineW l st (j + 1) k, Lib.hid rfl, by rw [lineW_len]; omega, ?_, hb1⟩
                have hq2 : q.length = j := by rw [Hq.out, lineW_len]
                rw [lineW_len, ← hpre]
                rw [hq2] at hown1
                simpa using hown1
            · have hjm2 : j = m := by omega
              have d1 : decide ((j : Int) < m) = false := by simp; omega
              have hrv := (owns_read hown2).1
              rw [show u8s (bytesI q) = u8s (bytesI (lineW l st m k)) by rw [Hq.out, hjm2]] at hrv
              obtain ⟨b, o, hab, _, _⟩ := hrv.cellv (by rw [Hq.out, lineW_len]; omega)
              subst hab
              have hcv := run_to_string (P := Tryz.prog) 22 9 5 Tryz.underlying22 Tryz.underlying5 Tryz.underlying9 hrv
              obtain ⟨T, HT⟩ : ∃ T, Hid (T = str (lineW l st m k)) := ⟨_, rfl⟩
              rw [← HT.out] at hcv
              have hown : wr.ownsRow W0.heap.size 9 1 (.slice a' pre.length c') pre.length (strs pre) := owns_below Hown.out hbel2
              have hbel : Below W0.heap.size W0 wr := bstep Hbel.out hbel2 (Nat.le_refl _)
              have hszr := hbel.size
              clear hown2 hbel2 hrv hjm2
              go_wp2_with (at_builtin; refine wpList_app1 rfl _ _ 29 rfl W0.heap.size 9 _ 16 Tryz.underlying29 info_str (by decide) rfl _ pre.length _ rfl (hown.alloc _) wr.heap.size (.string T) rfl ?c1 rfl ?c2 ?c3 ?_)
              case c1 => exact cell_boxed rfl
              case c2 => omega
              case c3 => simp; omega
              intro v1 w4 hown1 hgrow
              have hb4 := below_app (hbel.alloc (by omega) _) (hown.alloc _) hgrow (Nat.le_refl _) (by simp; omega)
              clear hown hgrow hcv
              go_wp2
              go_roundw
              case measure => simp [intOf]; omega
              case rel =>
                have hpre : pre ++ [lineW l st m k] = faceTo l st m (k + 1) := by rw [Hst.out, Hp.out]
                refine ⟨k + 1, by omega, by go_num, pre ++ [lineW l st m k], Lib.hid hpre, by rw [hpre, faceTo_len]; omega, ?_, hb4⟩
                rw [HT.out] at hown1
                simpa using hown1
        · have hkn : k = R := by omega
          have d0 : decide ((k : Int) < R) = false := by simp; omega
          have Hown := Lib.hid hown
          have Hbel := Lib.hid hbel
          have Hpf := Lib.hid (show pre = faceTo l st m R by rw [Hp.out, hkn])
          clear hown hbel hkn
          go_wp2
          go_ret2
          have e1 := Hpf.out
          subst e1
          have ho := Own.of Hown.out
          exact ⟨_, rfl, ho.mono (by omega) (Nat.le_refl _), bstep HB2.out Hbel.out (Nat.le_refl _)⟩
    · have hsr2 : (inB sk 1 40 && inB ro 1 40) = false := by simpa using hsr
      rw [show faceR xs st sk ro = ([], 2) by unfold faceR; rw [if_pos hv, hsr2]; rfl]
      have Hw1 := Lib.hid (fun W => l00In_any sk 1 40 W)
      have Hw2 := Lib.hid (fun W => l00In_any ro 1 40 W)
      clear ha hA0 hB0 hv he h7 hsr
      cases h1 : inB sk 1 40
      · rw [h1] at Hw1
        clear hsr2 h1
        go_enter Tryz.func7, Tryz.ntmps7
        go_wp2_with fail
        refine (Hvt0.out _ (by exact HA.out)).mono ?_
        rintro e w1 ⟨rfl, q0, rfl⟩
        go_wp2_with fail
        refine (Hw1.out _).mono ?_
        rintro e w' ⟨rfl, rfl⟩
        go_wp2_with fail
        go_ret2
        exact ⟨_, rfl, Own.nil _ _ _ _, bdrewN HB.out q0⟩
      · have h2 : inB ro 1 40 = false := by rw [h1] at hsr2; simpa using hsr2
        rw [h1] at Hw1
        rw [h2] at Hw2
        clear hsr2 h1 h2
        go_enter Tryz.func7, Tryz.ntmps7
        go_wp2_with fail
        refine (Hvt0.out _ (by exact HA.out)).mono ?_
        rintro e w1 ⟨rfl, q0, rfl⟩
        go_wp2_with fail
        refine (Hw1.out _).mono ?_
        rintro e w' ⟨rfl, rfl⟩
        go_wp2_with fail
        refine (Hw2.out _).mono ?_
        rintro e w' ⟨rfl, rfl⟩
        go_wp2_with fail
        go_ret2
        exact ⟨_, rfl, Own.nil _ _ _ _, bdrewN HB.out q0⟩
end Go.Proofs.YtflejjfkgkmcgaaGreatDoor
