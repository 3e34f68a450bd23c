/-
  Bends: the list of first words, the reference, by walks.
-/
import Derived.Test.YtcpacfedmppaeaaDoorBend10
namespace Go.Proofs.YtcpacfedmppaeaaDoor
open Go.RowKit
set_option linter.unusedVariables false

set_option maxHeartbeats 4000000 in
theorem l11List_any (n : Nat) (w : World) (hn : 1 ≤ n ∧ n ≤ 8) :
    Calls Tryd.prog 52 #[.int .i64 n] w fun e w' => ∃ v : Value, e = .returned v ∧ Own w' w.heap.size w'.heap.size 9 v (strs (listTo n (2 ^ n))) ∧ Below w.heap.size w w' := by
  obtain ⟨M, hM⟩ : ∃ M : Nat, 2 ^ n = M := ⟨_, rfl⟩
  have hM8 : M ≤ 256 := by rw [← hM]; exact pow_le hn.2
  have hpow : (2 : Int) ^ n = (M : Int) := by rw [← hM]; simp
  have HM := Lib.hid hM
  rw [hM]
  clear hM
  go_enter Tryd.func52, Tryd.ntmps52
  go_wp2
  go_loopw [3, 4] (fun v i wr => ∃ set : Nat, set ≤ M ∧ i = .int .i64 set ∧ ∃ pre : List (List UInt8), Hid (pre = listTo n set) ∧ pre.length ≤ set ∧ (∃ a c, v = .slice a pre.length c) ∧ Hid (wr.ownsRow w.heap.size 9 1 v pre.length (strs pre)) ∧ Hid (Below w.heap.size w wr)) (fun _ i _ => M - (intOf i).toNat)
  case atStart => exact ⟨0, Nat.zero_le _, rfl, [], Lib.hid rfl, by simp, ⟨_, _, rfl⟩, Lib.hid (owns_empty rfl (Nat.le_refl _)), Lib.hid ((Below.refl _ _).alloc (Nat.le_refl _) _)⟩
  case round =>
    obtain ⟨set, hset, rfl, pre, Hp, hpl, ⟨a1, c1, rfl⟩, Hown, Hb⟩ := hrel
    by_cases hlt : set < M
    · obtain ⟨wo, rfl⟩ : ∃ x : World, x = wr := ⟨_, rfl⟩
      obtain ⟨wd, Hwd⟩ : ∃ wd, Hid (wd = wordTo n set n) := ⟨_, rfl⟩
      have hlti : (set : Int) < M := by omega
      go_wp2
      go_loopw [5, 6] (fun v i wr => ∃ j : Nat, j ≤ n ∧ i = .int .i64 ((n : Int) - 1 - j) ∧ (∃ a c, v = .slice a j c) ∧ Hid (wr.ownsRow wo.heap.size 5 1 v j (u8s (bytesI (wordTo n set j)))) ∧ Hid (Below wo.heap.size wo wr)) (fun _ i _ => (intOf i + 1).toNat)
      case atStart => exact ⟨0, Nat.zero_le _, by simp, ⟨_, _, rfl⟩, Lib.hid (owns_empty rfl (Nat.le_refl _)), Lib.hid ((Below.refl _ _).alloc (Nat.le_refl _) _)⟩
      case round =>
        obtain ⟨j, hj, rfl, ⟨a8, c8, rfl⟩, Hown8, Hb2⟩ := hrel
        by_cases hjn : j < n
        · obtain ⟨m, hm⟩ : ∃ m : Nat, n - 1 - j = m := ⟨_, rfl⟩
          have Hstp := Lib.hid (wordTo_step n set j)
          rw [hm] at Hstp
          have hm1 : (n : Int) - 1 - j = (m : Int) := by omega
          obtain ⟨D, hD⟩ : ∃ D : Nat, 2 ^ m = D := ⟨_, rfl⟩
          rw [hD] at Hstp
          have hpm : (2 : Int) ^ m = (D : Int) := by rw [← hD]; simp
          obtain ⟨q, hq⟩ : ∃ q : Nat, set / D = q := ⟨_, rfl⟩
          rw [hq] at Hstp
          have hq1 : (set : Int) / (D : Int) = (q : Int) := by rw [← hq]; simp
          have hq2 : q < 256 := by
            rw [← hq]
            exact Nat.lt_of_le_of_lt (Nat.div_le_self _ _) (by omega)
          have hand := and_one q hq2
          have hm64 : min m 64 = m := by omega
          have hown8 := Hown8.out
          have hsz2 := Hb2.out.size
          have hm7 : m ≤ 7 := by omega
          rw [hm1]
          clear hD hq
          rcases Nat.mod_two_eq_zero_or_one q with hr | hr
          · rw [hr] at hand Hstp
            rw [if_neg (by omega)] at Hstp
            clear hr
            go_wp2_with (at_builtin; refine wpList_app1 rfl _ _ 22 rfl wo.heap.size 5 _ 1 Tryd.underlying22 info_u8s (by decide) rfl _ j _ rfl (hown8.alloc _) wr.heap.size (.int .u8 98) rfl ?c1 rfl ?c2 ?c3 ?_)
            case c1 => exact cell_boxed rfl
            case c2 => omega
            case c3 => first | omega | (simp; omega)
            intro v5 w5 hown5 hgrow5
            have Hb5 := Lib.hid (below_app (Hb2.out.alloc (by omega) _) (hown8.alloc _) hgrow5 (Nat.le_refl _) (by simp; omega))
            have Hown5 := Lib.hid hown5
            obtain ⟨a5, c5, rfl⟩ := owns_slice hown5
            clear hown8 hgrow5 hown5
            go_wp2
            go_roundw
            case rel => exact ⟨j + 1, by omega, by congr 1; omega, ⟨_, _, rfl⟩, Lib.hid (by rw [Hstp.out, bytesI_append, show u8s (bytesI (wordTo n set j) ++ bytesI [98]) = u8s (bytesI (wordTo n set j)) ++ [.int .u8 98] from List.map_append]; exact Hown5.out), Hb5⟩
            case measure => first | (simp [intOf]; done) | (simp [intOf]; omega)
          · rw [hr] at hand Hstp
            rw [if_pos rfl] at Hstp
            clear hr
            go_wp2_with (at_builtin; refine wpList_app1 rfl _ _ 22 rfl wo.heap.size 5 _ 1 Tryd.underlying22 info_u8s (by decide) rfl _ j _ rfl (hown8.alloc _) wr.heap.size (.int .u8 102) rfl ?c1 rfl ?c2 ?c3 ?_)
            case c1 => exact cell_boxed rfl
            case c2 => omega
            case c3 => first | omega | (simp; omega)
            intro v5 w5 hown5 hgrow5
            have Hb5 := Lib.hid (below_app (Hb2.out.alloc (by omega) _) (hown8.alloc _) hgrow5 (Nat.le_refl _) (by simp; omega))
            have Hown5 := Lib.hid hown5
            obtain ⟨a5, c5, rfl⟩ := owns_slice hown5
            clear hown8 hgrow5 hown5
            go_wp2
            go_roundw
            case rel => exact ⟨j + 1, by omega, by congr 1; omega, ⟨_, _, rfl⟩, Lib.hid (by rw [Hstp.out, bytesI_append, show u8s (bytesI (wordTo n set j) ++ bytesI [102]) = u8s (bytesI (wordTo n set j)) ++ [.int .u8 102] from List.map_append]; exact Hown5.out), Hb5⟩
            case measure => first | (simp [intOf]; done) | (simp [intOf]; omega)
        · have hjn2 : j = n := by omega
          subst hjn2
          obtain ⟨g8, rfl⟩ : ∃ g8, a8 = some ⟨g8, 0, none⟩ := by
            rcases Hown8.out.2 with ⟨h, h0⟩ | ⟨g, cap, cur, hv, _⟩
            · omega
            · simp only [Value.slice.injEq] at hv
              exact ⟨g, hv.1⟩
          have Hrv := Lib.hid (show RV wr (some ⟨g8, 0, none⟩) j c8 (u8s (bytesI wd)) by
            rw [Hwd.out]; exact (owns_read Hown8.out).1)
          have hneg : decide ((0 : Int) ≤ (j : Int) - 1 - (j : Int)) = false := by simp; omega
          have hval : (j : Int) - 1 - (j : Int) = -1 := by omega
          rw [hval]
          obtain ⟨S, HS⟩ : ∃ S, Hid (S = str wd) := ⟨_, rfl⟩
          have hS8 : S.size = j := by rw [HS.out, str_size, Hwd.out, wordTo_len]
          have Hfw := Lib.hid (fun W => by
            have h := (l11First_any S W (by omega) (by omega)).mono (fun e w' h => (⟨h.1, by obtain ⟨q, hq⟩ := h.2; rw [hq]; exact bdrewN (Below.refl _ _) q⟩ : _ ∧ Below W.heap.size W w'))
            rw [show S.data.toList = wd by rw [HS.out, str_list]] at h
            exact h)
          have Hcv := Lib.hid (fun W (h : RV W (some ⟨g8, 0, none⟩) j c8 (u8s (bytesI wd))) => by
            have h := run_to_string (P := Tryd.prog) 22 9 5 Tryd.underlying22 Tryd.underlying5 Tryd.underlying9 h
            rw [← HS.out] at h
            exact h)
          have hcv0 := Hcv.out _ Hrv.out
          obtain ⟨F, HF⟩ : ∃ F, Hid (F = str (firstW wd)) := ⟨_, rfl⟩
          rw [← HF.out] at Hfw
          cases hb : (firstW wd == wd)
          · have t1 : (F.toList == S.toList) = false := by rw [HF.out, HS.out, str_toList, str_toList]; exact hb
            have Hn := Lib.hid (show listTo j (set + 1) = listTo j set by rw [listTo_step, ← Hwd.out, hb]; simp)
            clear hb
            go_wp2
            go_region_held3 (fun w' => (convert 22 9 (.slice (some ⟨g8, 0, none⟩) j c8)).run Tryd.prog w' = .ok (.string S) w' ∧ Below wo.heap.size wo w') (first | exact ⟨Hcv.out _ Hrv.out, Hb2.out.os, Hb2.out.tape, Hb2.out.output, Hb2.out.size, Hb2.out.block⟩ | exact ⟨Hcv.out _ Hrv3.out, Hb3.out⟩ | assumption) (first | (go_at_call 57; (with_reducible refine (Hfw.out _).mono ?_); rintro e w3 ⟨rfl, hb3⟩; replace hb3 : Below wr.heap.size wr w3 := ⟨hb3.os, hb3.tape, hb3.output, hb3.size, hb3.block⟩; have Hrv3 := Lib.hid (Hrv.out.below hb3); have Hb3 := Lib.hid (bstep Hb2.out hb3 (Nat.le_refl _)); clear hb3))
            all_goals
              go_wp2
              go_roundw
              case rel => exact ⟨set + 1, by omega, by go_num, pre, Lib.hid (by rw [Hn.out, Hp.out]), by omega, ⟨_, _, rfl⟩, Lib.hid (owns_below Hown.out Hb3.out), Lib.hid (bstep Hb.out Hb3.out (Nat.le_refl _))⟩
              case measure => simp [intOf]; omega
          · have t1 : (F.toList == S.toList) = true := by rw [HF.out, HS.out, str_toList, str_toList]; exact hb
            have Hn := Lib.hid (show listTo j (set + 1) = listTo j set ++ [wd] by rw [listTo_step, ← Hwd.out, hb]; simp)
            clear hb
            go_wp2
            go_region_held3 (fun w' => (convert 22 9 (.slice (some ⟨g8, 0, none⟩) j c8)).run Tryd.prog w' = .ok (.string S) w' ∧ Below wo.heap.size wo w') (first | exact ⟨Hcv.out _ Hrv.out, Hb2.out.os, Hb2.out.tape, Hb2.out.output, Hb2.out.size, Hb2.out.block⟩ | exact ⟨Hcv.out _ Hrv3.out, Hb3.out⟩ | assumption) (first | (go_at_call 57; (with_reducible refine (Hfw.out _).mono ?_); rintro e w3 ⟨rfl, hb3⟩; replace hb3 : Below wr.heap.size wr w3 := ⟨hb3.os, hb3.tape, hb3.output, hb3.size, hb3.block⟩; have Hrv3 := Lib.hid (Hrv.out.below hb3); have Hb3 := Lib.hid (bstep Hb2.out hb3 (Nat.le_refl _)); clear hb3))
            all_goals
              have hown3 := owns_below Hown.out Hb3.out
              have hsz3 := Hb3.out.size
              have hszo := Hb.out.size
              go_wp2_with (at_builtin; refine wpList_app1 rfl _ _ 37 rfl w.heap.size 9 _ 16 Tryd.underlying37 info_str (by decide) rfl _ pre.length _ rfl (hown3.alloc _) w3.heap.size (.string S) rfl ?c1 rfl ?c2 ?c3 ?_)
              case c1 => exact cell_boxed rfl
              case c2 => omega
              case c3 => first | omega | (simp; omega)
              intro v5 w5 hown5 hgrow5
              have Hb5 := Lib.hid (below_app ((bstep Hb.out Hb3.out (Nat.le_refl _)).alloc (by omega) _) (hown3.alloc _) hgrow5 (Nat.le_refl _) (by simp; omega))
              have Hown5 := Lib.hid hown5
              obtain ⟨a5, c5, rfl⟩ := owns_slice hown5
              clear hown3 hgrow5 hown5
              go_wp2
              go_roundw
              case rel => exact ⟨set + 1, by omega, by go_num, pre ++ [wd], Lib.hid (by rw [Hn.out, Hp.out]), by simp; omega, ⟨a5, c5, by simp⟩, Lib.hid (by simpa [HS.out] using Hown5.out), Hb5⟩
              case measure => simp [intOf]; omega
    · have Hf := Lib.hid (show pre = listTo n M by rw [Hp.out, show set = M by omega])
      go_wp2
      go_ret
      have e1 := Hf.out
      subst e1
      exact ⟨_, rfl, Own.of (by simpa using Hown.out), Hb.out⟩
end Go.Proofs.YtcpacfedmppaeaaDoor
