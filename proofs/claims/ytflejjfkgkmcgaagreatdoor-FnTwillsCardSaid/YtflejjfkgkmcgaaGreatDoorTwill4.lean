/-
  Twills, on: floats, the reference, by walks.
-/
import Derived.Test.YtflejjfkgkmcgaaGreatDoorTwill3
namespace Go.Proofs.YtflejjfkgkmcgaaGreatDoor
open Go.RowKit
set_option linter.unusedVariables false

set_option maxHeartbeats 4000000 in
theorem specFloatsOf_any (a : Option Addr) (n c : Nat) (xs : List Int) (st : Int) (w : World) (ha : RV w a n c (ints xs)) :
    Calls Tryz.prog 14 #[.agg #[.slice a n c, .int .i64 st]] w fun e w' => e = rt3t (floatsR xs st) ∧ Below w.heap.size w w' := by
  have hA0 := TwAt.boxed st 26 ha
  have hB0 : Below w.heap.size w (w.alloc (.cells #[.slice a n c, .int .i64 st] 26)) := (Below.refl _ _).alloc (Nat.le_refl _) _
  have HA := Lib.hid hA0
  have HB := Lib.hid hB0
  cases hv : vTwill xs st
  · rw [show floatsR xs st = (0, 0, 1) by simp [floatsR, hv]]
    have Hvt := Lib.hid (by
      have h := fun W h => l09Ok_any w.heap.size a n c xs st W h
      rw [hv] at h
      exact h)
    clear ha hA0 hB0 hv
    go_enter Tryz.func14, Tryz.ntmps14
    go_wp2_with (go_at_call 32; refine (Hvt.out _ (by exact HA.out)).mono ?_; rintro e w1 ⟨rfl, q, rfl⟩)
    go_ret3
    exact ⟨rfl, bdrewN HB.out q⟩
  · obtain ⟨he, h2, _, h4, h5, h6, h7⟩ := vTwill_iff hv
    have hrl := rowW_len he
    obtain ⟨l, Hl⟩ : ∃ l, Hid (l = rowW xs) := ⟨_, rfl⟩
    obtain ⟨N, HN⟩ : ∃ N, Hid (N = l.length) := ⟨_, rfl⟩
    rw [← Hl.out] at hrl
    rw [← HN.out] at hrl
    have hN0 : 2 ≤ N := by omega
    have hN1 : N ≤ 12 := by omega
    have hst0 : 1 ≤ st := h5
    have hst1 : st ≤ (N : Int) - 1 := by omega
    obtain ⟨s, Hs⟩ : ∃ s, Hid (s = str l) := ⟨_, rfl⟩
    have hsN : s.size = N := by rw [Hs.out, str_size, HN.out]
    have hsl : s.data.toList = l := by rw [Hs.out, str_list]
    obtain ⟨q1, q2, q3, q4, q5⟩ := againN_spec (n := N) (st := st) (by omega) hst0
    obtain ⟨M, HM⟩ : ∃ M, Hid (M = againN N st) := ⟨_, rfl⟩
    obtain ⟨G, HG⟩ : ∃ G, Hid (G = gcdI N st) := ⟨_, rfl⟩
    rw [← HM.out, ← HG.out] at q1
    rw [← HM.out] at q2 q3
    rw [← HG.out] at q4 q5
    have q1' : (N : Int) / G = (M : Int) := by rw [← Int.tdiv_eq_ediv_of_nonneg (by omega)]; exact q1
    obtain ⟨T, HT⟩ : ∃ T : Nat → ByteArray, Hid (∀ k, T k = str (alongL l k (N - st) M)) := ⟨_, fun _ => rfl⟩
    obtain ⟨r, Hr⟩ : ∃ r : Nat → Nat, Hid (∀ k, r k = longRun (alongL l k (N - st) M)) := ⟨_, fun _ => rfl⟩
    have hrb : ∀ k, r k ≤ 12 := fun k => by rw [Hr.out]; have := longRun_le (alongL l k (N - st) M); rw [alongL_len] at this; omega
    have Hrb := Lib.hid hrb
    have hres : floatsR xs st = (((longRun l : Nat) : Int), ((upR r N : Nat) : Int), 0) := by
      unfold floatsR
      rw [if_pos hv, ← Hl.out, ← HN.out]
      have : stakeRun l st = r := by funext k; rw [Hr.out]; unfold stakeRun; rw [← HN.out, ← HM.out]
      rw [this]
    rw [hres]
    have Hvt := Lib.hid (by
      have h := fun W h => l09Ok_any w.heap.size a n c xs st W h
      rw [hv] at h
      exact h)
    have Hrow := Lib.hid (by
      have h := fun W h => l09Row_any w.heap.size a n c xs st W he h7 h
      rw [← Hl.out, ← Hs.out] at h
      exact h)
    have Hdv := Lib.hid (by
      have h := fun W => l00Gcd_any N st W (by omega) (by omega) (by omega) (by omega)
      rw [← HG.out] at h
      exact h)
    have Hat := Lib.hid (fun (k i : Nat) (hk : k < N) (hi : i < M) (W : World) => by
      have h := l09At_any s st k i W (by omega) (by omega) (by omega) (by omega) (by omega)
      rw [hsl, hsN, show bat l (((k : Int) - st * i) % N).toNat = bat (alongL l k (N - st) M) i by
        unfold bat; rw [alongL_get hi, ← HN.out, alongIdx]] at h
      exact h)
    have Hlr := Lib.hid (fun (k : Nat) (W : World) => by
      have h := l09Run_any (T k) W (by rw [HT.out k, str_size, alongL_len]; omega) (by rw [HT.out k, str_size, alongL_len]; omega)
      rw [show longRun (T k).data.toList = r k by rw [HT.out k, str_list, Hr.out k]] at h
      exact h)
    have Hl0 := Lib.hid (fun (W : World) => by
      have h := l09Run_any s W (by omega) (by omega)
      rw [hsl] at h
      exact h)
    obtain ⟨R0, HR0⟩ : ∃ R0, Hid (R0 = longRun l) := ⟨_, rfl⟩
    rw [← HR0.out] at Hl0 ⊢
    have hGz : G ≠ 0 := by omega
    clear ha hA0 hB0 hv he h2 h4 h5 h6 h7 hrl hsl hrb hres
    obtain ⟨W0, HW0⟩ : ∃ W0, Hid (W0 = w.alloc (.cells #[.slice a n c, .int .i64 st] 26)) := ⟨_, rfl⟩
    have HB' : Hid (Below w.heap.size w W0) := Lib.hid (by rw [HW0.out]; exact HB.out)
    have HA' : Hid (TwAt W0 w.heap.size a n c xs st) := Lib.hid (by rw [HW0.out]; exact HA.out)
    have hz0 : w.heap.size < W0.heap.size := by rw [HW0.out]; simp
    go_enter Tryz.func14, Tryz.ntmps14
    go_wp2_with (first | (go_at_call 32; refine (Hvt.out _ (by exact HA.out)).mono ?_; rintro e w1 ⟨rfl, q0, rfl⟩) | (go_at_call 34; refine (Hrow.out _ (by exact HA.out)).mono ?_; rintro e w2 ⟨rfl, rfl⟩))
    go_loopw [7, 8] (fun q i wr => ∃ k : Nat, k ≤ N ∧ i = .int .i64 k ∧ ∃ A : Nat, q = .int .i64 A ∧ A ≤ 12 ∧ Hid (A = upR r k) ∧ Hid (Below W0.heap.size W0 wr)) (fun _ i _ => N - (intOf i).toNat)
    case atStart => exact ⟨0, Nat.zero_le _, rfl, 0, rfl, by omega, Lib.hid rfl, Lib.hid (by rw [HW0.out]; exact bdrewN (Below.refl _ _) _)⟩
    case round =>
      obtain ⟨k, hk, rfl, A, rfl, hA12, HAk, Hbw⟩ := hrel
      have hszw := Hbw.out.size
      by_cases hlt : k < N
      · have hrk := Hrb.out k
        have Hcr := Lib.hid ((Hbw.out.cell (p := ⟨w.heap.size, 1, none⟩) hz0).trans HA'.out.2.1)
        obtain ⟨W1, rfl⟩ : ∃ W1, W1 = wr := ⟨wr, rfl⟩
        have hzW := Lib.hid (show w.heap.size < W1.heap.size by omega)
        go_wp2
        go_loopw [9, 10] (fun v i wr => ∃ j : Nat, j ≤ M ∧ i = .int .i64 j ∧ ∃ pre : List UInt8, Hid (pre = alongL l k (N - st) j) ∧ pre.length ≤ 12 ∧ wr.ownsRow W1.heap.size 5 1 v pre.length (u8s (bytesI pre)) ∧ Below W1.heap.size W1 wr) (fun _ i _ => M - (intOf i).toNat)
        case atStart => exact ⟨0, Nat.zero_le _, rfl, [], Lib.hid (by simp [alongL]), by simp, owns_empty rfl (Nat.le_refl _), (Below.refl _ _).alloc (Nat.le_refl _) _⟩
        case round =>
          obtain ⟨j, hj, rfl, pre, Hp, hpl, hown, hbel⟩ := hrel
          obtain ⟨a', c', rfl⟩ := owns_slice hown
          have hsz := hbel.size
          have hcr : wr.cell? ⟨w.heap.size, 1, none⟩ = some (.int .i64 st) := (hbel.cell (p := ⟨w.heap.size, 1, none⟩) hzW.out).trans Hcr.out
          by_cases hjm : j < M
          · have Hst := Lib.hid (show bytesI (alongL l k (N - st) (j + 1)) = bytesI (alongL l k (N - st) j) ++ [((bat (alongL l k (N - st) M) j : Nat) : Int)] by
              rw [alongL_step, bytesI_append]
              congr 1
              simp only [bytesI, List.map_cons, List.map_nil, List.cons.injEq, and_true]
              unfold bat
              rw [alongL_get hjm])
            obtain ⟨x, Hx⟩ : ∃ x : Nat, Hid (x = bat (alongL l k (N - st) M) j) := ⟨_, rfl⟩
            have Ha2 := Lib.hid (by
              have h := Hat.out k j hlt hjm
              rw [← Hx.out] at h
              exact h)
            have Hown := Lib.hid hown
            have Hbel := Lib.hid hbel
            clear hown hbel
            have d0 : decide ((j : Int) < M) = true := by simp; omega
            have d0' : decide (j < M) = true := by simp; omega
            go_wp2_with fail
            refine (Hdv.out _).mono ?_
            rintro e w' ⟨rfl, rfl⟩
            go_wp2_with fail
            refine (Ha2.out _).mono ?_
            rintro e w' ⟨rfl, rfl⟩
            have hown : wr.ownsRow W1.heap.size 5 1 (.slice a' pre.length c') pre.length (u8s (bytesI pre)) := Hown.out
            have hbel : Below W1.heap.size W1 wr := Hbel.out
            go_wp2_with (at_builtin; refine wpList_app1 rfl _ _ 22 rfl W1.heap.size 5 _ 1 Tryz.underlying22 info_u8 (by decide) rfl _ pre.length _ rfl (hown.alloc _) wr.heap.size (.int .u8 x) rfl ?c1 rfl ?c2 ?c3 ?_)
            case c1 => exact cell_boxed rfl
            case c2 => omega
            case c3 => simp; omega
            intro v1 w3 hown1 hgrow
            have hb1 := below_app (hbel.alloc (by omega) _) (hown.alloc _) hgrow (Nat.le_refl _) (by simp; omega)
            clear hown hgrow
            go_wp2
            go_roundw
            case measure => simp [intOf]; omega
            case rel =>
              have hpre : bytesI pre ++ [(x : Int)] = bytesI (alongL l k (N - st) (j + 1)) := by rw [Hst.out, Hp.out, Hx.out]
              refine ⟨j + 1, by omega, by go_num, alongL l k (N - st) (j + 1), Lib.hid rfl, by rw [alongL_len]; omega, ?_, hb1⟩
              rw [alongL_len, ← hpre]
              have hpl2 : pre.length = j := by rw [Hp.out, alongL_len]
              rw [hpl2] at hown1
              simpa using hown1
          · have hjm2 : j = M := by omega
            have d0 : decide ((j : Int) < M) = false := by simp; omega
            have d0' : decide (j < M) = false := by simp; omega
            have hrv := (owns_read hown).1
            rw [show u8s (bytesI pre) = u8s (bytesI (alongL l k (N - st) M)) by rw [Hp.out, hjm2]] at hrv
            obtain ⟨b, o, ha, _, _⟩ := hrv.cellv (by rw [Hp.out, alongL_len]; omega)
            subst ha
            have hcv := run_to_string (P := Tryz.prog) 22 9 5 Tryz.underlying22 Tryz.underlying5 Tryz.underlying9 hrv
            rw [← HT.out k] at hcv
            have Hbel := Lib.hid (bstep Hbw.out hbel (Nat.le_refl _))
            have Hcv := Lib.hid hcv
            clear hown hbel hrv hjm2 hcv
            go_wp2_with fail
            refine (Hdv.out _).mono ?_
            rintro e w' ⟨rfl, rfl⟩
            have hcv2 := Hcv.out
            go_wp2_with fail
            refine (Hlr.out k _).mono ?_
            rintro e w' ⟨rfl, q, rfl⟩
            go_wp2_with (go_at_call 47; refine (l00Max_any _ _ _).mono ?_; rintro e w' ⟨rfl, rfl⟩)
            go_roundw
            case measure => simp [intOf]; omega
            case rel => exact ⟨k + 1, by omega, by go_num, max A (r k), congrArg (Value.int .i64) (by omega), by omega, Lib.hid (by rw [HAk.out]; rfl), Lib.hid (bdrewN Hbel.out q)⟩
      · have hkn : k = N := by omega
        have Hf := Lib.hid (show A = upR r N by rw [HAk.out, hkn])
        clear hkn
        go_wp2_with (go_at_call 48; refine (Hl0.out _).mono ?_; rintro e w4 ⟨rfl, q, rfl⟩)
        go_ret3
        have e1 := Hf.out
        subst e1
        exact ⟨rfl, bdrewN (bstep HB'.out Hbw.out (Nat.le_refl _)) q⟩
end Go.Proofs.YtflejjfkgkmcgaaGreatDoor
