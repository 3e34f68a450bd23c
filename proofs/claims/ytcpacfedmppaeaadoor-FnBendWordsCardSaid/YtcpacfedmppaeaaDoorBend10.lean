/-
  Bends: the list of first words, the program, by walks.
-/
import Derived.Test.YtcpacfedmppaeaaDoorBend5
import Derived.Test.YtcpacfedmppaeaaDoorStrS
namespace Go.Proofs.YtcpacfedmppaeaaDoor
open Go.RowKit
set_option linter.unusedVariables false

theorem and_one (q : Nat) (h : q < 256) : bits .and .i64 (q : Int) 1 = ((q % 2 : Nat) : Int) := by
  have hall : ∀ x : Fin 256, bits .and .i64 (x.val : Int) 1 = ((x.val % 2 : Nat) : Int) := of_decide_eq_true (by kernel_rfl)
  exact hall ⟨q, h⟩
theorem word_get {n set k : Nat} (h : k < n) : (bytesI (wordTo n set n)).getD k 0 = if set / 2 ^ (n - 1 - k) % 2 = 1 then 102 else 98 := by
  rw [bytesI_get _ (by rw [wordTo_len]; exact h)]
  simp only [bat, wordTo, List.getD_eq_getElem?_getD, List.getElem?_map, List.getElem?_range h]
  simp only [Option.map_some, Option.getD_some]
  split <;> rfl
theorem pow_le {a b : Nat} (h : a ≤ b) : 2 ^ a ≤ 2 ^ b := Nat.pow_le_pow_right (by omega) h
theorem made8 (n : Nat) (xs : List Int) : madeCells #[Value.int .u8 0] n = (filled xs n 0).toArray := by
  apply Array.ext'
  apply List.ext_getElem?
  intro i
  by_cases hi : i < n
  · simp [madeCells, filled, hi, Nat.mod_one]
  · simp [madeCells, filled, hi]
theorem rv_blk {w : World} {b n : Nat} {vs : List Value} {e : TypeId} (h : Blk w b vs e) (hl : vs.length = n) (hm : n ≤ maxLen) : RV w (some ⟨b, 0, none⟩) n n vs := by
  refine ⟨hl, Nat.le_refl _, hm, .inr ⟨b, 0, rfl, h.lt, fun i u hu => ?_⟩⟩
  rw [Nat.zero_add]
  exact h.cell i u hu

set_option maxHeartbeats 4000000 in
theorem listWords_any (n : Nat) (w : World) (hn : 1 ≤ n ∧ n ≤ 8) :
    Calls Tryd.prog 51 #[.int .i64 n] w fun e w' => ∃ v : Value, e = .returned v ∧ Own w' w.heap.size w'.heap.size 9 v (strs (listTo n (2 ^ n))) ∧ Below w.heap.size w w' := by
  obtain ⟨M, hM⟩ : ∃ M : Nat, 2 ^ n = M := ⟨_, rfl⟩
  have hM8 : M ≤ 256 := by rw [← hM]; exact pow_le hn.2
  have hpow : (2 : Int) ^ n = (M : Int) := by rw [← hM]; simp
  have HM := Lib.hid hM
  rw [hM]
  clear hM
  have hmk := fun W => run_make_row' (P := Tryd.prog) 22 5 (.int .u8 0) 1 Tryd.underlying22 info_u8s rfl .i64 .i64 n (by omega) (by omega) W
  have Hcs := Lib.hid (fun xs => made8 n xs)
  generalize (madeCells #[Value.int .u8 0] n) = cs at hmk Hcs
  go_enter Tryd.func51, Tryd.ntmps51
  go_wp2
  go_loopw [3, 10] (fun v i wr => ∃ set : Nat, set ≤ M ∧ i = .int .i64 set ∧ ∃ pre : List (List UInt8), Hid (pre = listTo n set) ∧ pre.length ≤ set ∧ (∃ a c, v = .slice a pre.length c) ∧ Hid (wr.ownsRow w.heap.size 9 1 v pre.length (strs pre)) ∧ Hid (Below w.heap.size w wr)) (fun _ i _ => M - (intOf i).toNat)
  case atStart => exact ⟨0, Nat.zero_le _, rfl, [], Lib.hid rfl, by simp, ⟨_, _, rfl⟩, Lib.hid (owns_empty rfl (Nat.le_refl _)), Lib.hid ((Below.refl _ _).alloc (Nat.le_refl _) _)⟩
  case round =>
    obtain ⟨set, hset, rfl, pre, Hp, hpl, ⟨a1, c1, rfl⟩, Hown, Hb⟩ := hrel
    by_cases hlt : set < M
    · obtain ⟨wo, rfl⟩ : ∃ x : World, x = wr := ⟨_, rfl⟩
      obtain ⟨gb, hgb⟩ : ∃ gb, wo.heap.size = gb := ⟨_, rfl⟩
      obtain ⟨wd, Hwd⟩ : ∃ wd, Hid (wd = wordTo n set n) := ⟨_, rfl⟩
      obtain ⟨xs, Hxs⟩ : ∃ xs, Hid (xs = bytesI wd) := ⟨_, rfl⟩
      have Hxl := Lib.hid (show xs.length = n by rw [Hxs.out, bytesI_len, Hwd.out, wordTo_len])
      have Hblk0 := Lib.hid (show Blk (wo.alloc (.cells cs 5)) gb (filled xs n 0) 5 by rw [Hcs.out xs]; exact Blk.box wo _ _ hgb.symm)
      have Hget := Lib.hid (fun k (hk : k < n) => show xs.getD k 0 = if set / 2 ^ (n - 1 - k) % 2 = 1 then 102 else 98 by rw [Hxs.out, Hwd.out]; exact word_get hk)
      have hlti : (set : Int) < M := by omega
      go_wp2
      go_loopw [17] (fun i wr2 => ∃ k : Nat, k ≤ n ∧ i = .int .i64 k ∧ Hid (Blk wr2 gb (filled xs n k) 5) ∧ Hid (Below wo.heap.size wo wr2)) (fun i _ => n - (intOf i).toNat)
      case atStart => exact ⟨0, Nat.zero_le _, rfl, Hblk0, Lib.hid ((Below.refl _ _).alloc (Nat.le_refl _) _)⟩
      case round =>
        obtain ⟨k, hk, rfl, Hblk, Hb2⟩ := hrel
        by_cases hkn : k < n
        · obtain ⟨u, hu⟩ : ∃ u, (filled xs n k)[k]? = some u := ⟨_, List.getElem?_eq_getElem (by rw [filled_length Hxl.out hk]; exact hkn)⟩
          have hck := Hblk.out.cell k u hu
          have hfk := Hblk.out.frozen k
          have hsz := Hblk.out.lt
          have Hset1 := Hblk.out.set k (.int .u8 98)
          have hck2 := Hset1.cell k (.int .u8 98) (by simp [filled_length Hxl.out hk, hkn])
          have hfk2 := Hset1.frozen k
          have HS2 := Lib.hid (Hset1.set k (.int .u8 102))
          have HS1 := Lib.hid Hset1
          have Hstp := Lib.hid (filled_step Hxl.out hkn)
          have Hg := Lib.hid (Hget.out k hkn)
          obtain ⟨m, hm⟩ : ∃ m : Nat, n - 1 - k = m := ⟨_, rfl⟩
          rw [hm] at Hg
          have hm1 : (n : Int) - 1 - k = (m : Int) := by omega
          obtain ⟨D, hD⟩ : ∃ D : Nat, 2 ^ m = D := ⟨_, rfl⟩
          rw [hD] at Hg
          have hpm : (2 : Int) ^ m = (D : Int) := by rw [← hD]; simp
          obtain ⟨q, hq⟩ : ∃ q : Nat, set / D = q := ⟨_, rfl⟩
          rw [hq] at Hg
          have hq1 : (set : Int) / (D : Int) = (q : Int) := by rw [← hq]; simp
          have hq2 : q < 256 := by
            rw [← hq]
            exact Nat.lt_of_le_of_lt (Nat.div_le_self _ _) (by omega)
          have hand := and_one q hq2
          have hm64 : min m 64 = m := by omega
          have hki : (k : Int) < n := by omega
          clear Hset1 hu hD hq
          rcases Nat.mod_two_eq_zero_or_one q with hr | hr
          · rw [hr] at hand Hg
            rw [if_neg (by omega)] at Hg
            rw [Hg.out] at Hstp
            have HB := Lib.hid (Hb2.out.setCell (p := ⟨gb, k, none⟩) (Nat.le_of_eq hgb) (.int .u8 98))
            clear hr
            go_wp2
            go_roundw
            case rel => exact ⟨k + 1, by omega, by go_num, Lib.hid (by rw [← Hstp.out]; exact HS1.out), HB⟩
            case measure => simp [intOf]; omega
          · rw [hr] at hand Hg
            rw [if_pos rfl] at Hg
            rw [Hg.out] at Hstp
            have HB := Lib.hid ((Hb2.out.setCell (p := ⟨gb, k, none⟩) (Nat.le_of_eq hgb) (.int .u8 98)).setCell (p := ⟨gb, k, none⟩) (Nat.le_of_eq hgb) (.int .u8 102))
            clear hr
            go_wp2
            go_roundw
            case rel => exact ⟨k + 1, by omega, by go_num, Lib.hid (by rw [← Hstp.out, ← List.set_set (a := .int .u8 98)]; exact HS2.out), HB⟩
            case measure => simp [intOf]; omega
        · have hkn2 : k = n := by omega
          have Hrv := Lib.hid (show RV wr (some ⟨gb, 0, none⟩) n n (u8s (bytesI wd)) by
            have h := Hblk.out
            rw [hkn2, filled_all Hxl.out] at h
            rw [← Hxs.out]
            exact rv_blk h (by simp [Hxl.out]) (by unfold maxLen; omega))
          have hsz := Hblk.out.lt
          obtain ⟨S, HS⟩ : ∃ S, Hid (S = str wd) := ⟨_, rfl⟩
          have hS8 : S.size = n := by rw [HS.out, str_size, Hwd.out, wordTo_len]
          have Hfw := Lib.hid (fun W => by
            have h := firstWord_any S W (by rw [HS.out, str_list, Hwd.out]; exact wordTo_two n set n) (by omega)
            rw [show S.data.toList = wd by rw [HS.out, str_list]] at h
            exact h)
          have Hcv := Lib.hid (fun W (h : RV W (some ⟨gb, 0, none⟩) n n (u8s (bytesI wd))) => by
            have h := run_to_string (P := Tryd.prog) 22 9 5 Tryd.underlying22 Tryd.underlying5 Tryd.underlying9 h
            rw [← HS.out] at h
            exact h)
          have hcv0 := Hcv.out _ Hrv.out
          obtain ⟨F, HF⟩ : ∃ F, Hid (F = str (firstW wd)) := ⟨_, rfl⟩
          rw [← HF.out] at Hfw
          clear hkn2
          cases hb : (firstW wd == wd)
          · have t1 : (F.toList == S.toList) = false := by rw [HF.out, HS.out, str_toList, str_toList]; exact hb
            have Hn := Lib.hid (show listTo n (set + 1) = listTo n set by rw [listTo_step, ← Hwd.out, hb]; simp)
            clear hb
            go_wp2
            go_region_held3 (fun w' => (convert 22 9 (.slice (some ⟨gb, 0, none⟩) n n)).run Tryd.prog w' = .ok (.string S) w' ∧ Below wo.heap.size wo w') (first | exact ⟨Hcv.out _ Hrv.out, Hb2.out.os, Hb2.out.tape, Hb2.out.output, Hb2.out.size, Hb2.out.block⟩ | exact ⟨Hcv.out _ Hrv3.out, Hb3.out⟩ | assumption) (first | (go_at_call 55; (with_reducible refine (Hfw.out _).mono ?_); rintro e w3 ⟨rfl, hb3⟩; replace hb3 : Below wr.heap.size wr w3 := ⟨hb3.os, hb3.tape, hb3.output, hb3.size, hb3.block⟩; have Hrv3 := Lib.hid (Hrv.out.below hb3); have Hb3 := Lib.hid (bstep Hb2.out hb3 (Nat.le_refl _)); clear hb3))
            all_goals
              go_wp2
              go_roundw
              case rel => exact ⟨set + 1, by omega, by go_num, pre, Lib.hid (by rw [Hn.out, Hp.out]), by omega, ⟨_, _, rfl⟩, Lib.hid (owns_below Hown.out Hb3.out), Lib.hid (bstep Hb.out Hb3.out (Nat.le_refl _))⟩
              case measure => simp [intOf]; omega
          · have t1 : (F.toList == S.toList) = true := by rw [HF.out, HS.out, str_toList, str_toList]; exact hb
            have Hn := Lib.hid (show listTo n (set + 1) = listTo n set ++ [wd] by rw [listTo_step, ← Hwd.out, hb]; simp)
            clear hb
            go_wp2
            go_region_held3 (fun w' => (convert 22 9 (.slice (some ⟨gb, 0, none⟩) n n)).run Tryd.prog w' = .ok (.string S) w' ∧ Below wo.heap.size wo w') (first | exact ⟨Hcv.out _ Hrv.out, Hb2.out.os, Hb2.out.tape, Hb2.out.output, Hb2.out.size, Hb2.out.block⟩ | exact ⟨Hcv.out _ Hrv3.out, Hb3.out⟩ | assumption) (first | (go_at_call 55; (with_reducible refine (Hfw.out _).mono ?_); rintro e w3 ⟨rfl, hb3⟩; replace hb3 : Below wr.heap.size wr w3 := ⟨hb3.os, hb3.tape, hb3.output, hb3.size, hb3.block⟩; have Hrv3 := Lib.hid (Hrv.out.below hb3); have Hb3 := Lib.hid (bstep Hb2.out hb3 (Nat.le_refl _)); clear hb3))
            all_goals
              have hown3 := owns_below Hown.out Hb3.out
              have hsz3 := Hb3.out.size
              have hszo := Hb.out.size
              go_wp2_with (at_builtin; refine wpList_app1 rfl _ _ 37 rfl w.heap.size 9 _ 16 Tryd.underlying37 info_str (by decide) rfl _ pre.length _ rfl (hown3.alloc _) w3.heap.size (.string S) rfl ?c1 rfl ?c2 ?c3 ?_)
              case c1 => exact cell_boxed rfl
              case c2 => omega
              case c3 => first | omega | (simp; omega)
              intro v5 w5 hown5 hgrow5
              have Hb5 := Lib.hid (below_app ((bstep Hb.out Hb3.out (Nat.le_refl _)).alloc (by omega) _) (hown3.alloc _) hgrow5 (Nat.le_refl _) (by simp; omega))
              have Hown5 := Lib.hid hown5
              obtain ⟨a5, c5, rfl⟩ := owns_slice hown5
              clear hown3 hgrow5 hown5
              go_wp2
              go_roundw
              case rel => exact ⟨set + 1, by omega, by go_num, pre ++ [wd], Lib.hid (by rw [Hn.out, Hp.out]), by simp; omega, ⟨a5, c5, by simp⟩, Lib.hid (by simpa [HS.out] using Hown5.out), Hb5⟩
              case measure => simp [intOf]; omega
    · have Hf := Lib.hid (show pre = listTo n M by rw [Hp.out, show set = M by omega])
      go_wp2
      go_ret
      have e1 := Hf.out
      subst e1
      exact ⟨_, rfl, Own.of (by simpa using Hown.out), Hb.out⟩
end Go.Proofs.YtcpacfedmppaeaaDoor
