/-
  Bends: how many rods can be drawn out, the reference, by walks.
-/
import Derived.Test.YtcpacfedmppaeaaDoorBend7
namespace Go.Proofs.YtcpacfedmppaeaaDoor
open Go.RowKit
set_option linter.unusedVariables false

def lenS : Value → Nat
  | .slice _ n _ => n
  | _ => 0

theorem l00Has_any (a : Option Addr) (n c : Nat) (xs : List Int) (v : Int) (w : World) (ha : RV w a n c (ints xs)) :
    Calls Tryd.prog 64 #[.slice a n c, .int .i64 v] w fun e w' => e = .returned (.bool (decide (v ∈ xs))) ∧ w = w' := by
  have hl := ha.lenI
  have hm := ha.small
  have Hl := Lib.hid hl
  have Ha := Lib.hid ha
  clear hl ha
  go_enter Tryd.func64, Tryd.ntmps64
  go_wp2
  go_loop [5] (fun i => ∃ k : Nat, k ≤ n ∧ i = .int .i64 k ∧ Hid (v ∉ xs.take k)) (fun i => n - (intOf i).toNat)
  case atStart => exact ⟨0, Nat.zero_le _, rfl, Lib.hid (by simp)⟩
  case round =>
    obtain ⟨k, hk, rfl, hR⟩ := hrel
    by_cases hlt : k < n
    · obtain ⟨b, o, rfl, hb, hc⟩ := Ha.out.cell (by omega)
      have e1 := hc k hlt
      have Hx := Lib.hid (show xs.take (k + 1) = xs.take k ++ [xs.getD k 0] from take_snocB (by rw [Hl.out]; exact hlt))
      have Hmem := Lib.hid (show xs.getD k 0 ∈ xs by simp [show k < xs.length by rw [Hl.out]; exact hlt])
      clear hc
      obtain ⟨x, hx⟩ : ∃ x, xs.getD k 0 = x := ⟨_, rfl⟩
      rw [hx] at e1 Hx Hmem
      clear hx
      have hki : (k : Int) < n := by omega
      by_cases hxv : x = v
      · have t1 : (x == v) = true := by simp [hxv]
        have Hf := Lib.hid (show decide (v ∈ xs) = true by rw [← hxv]; simpa using Hmem.out)
        clear hxv
        go_wp2
        go_ret
        exact ⟨ret_bool Hf.out.symm, rfl⟩
      · have t1 : (x == v) = false := by simp [hxv]
        have Hn := Lib.hid (show v ∉ xs.take (k + 1) by
          rw [Hx.out]
          intro h
          rcases List.mem_append.1 h with h | h
          · exact hR.out h
          · simp at h; exact hxv h.symm)
        clear hxv
        go_wp2
        go_round
        case rel => exact ⟨k + 1, by omega, by go_num, Hn⟩
        case measure => simp [intOf]; omega
    · have Hf := Lib.hid (show decide (v ∈ xs) = false by
        have h := hR.out
        rw [List.take_of_length_le (by rw [Hl.out]; omega)] at h
        simp [h])
      go_wp2
      go_ret
      exact ⟨ret_bool Hf.out.symm, rfl⟩

theorem l00Own_one (g : Nat) (w : World) (hc : w.cell? ⟨g, 0, none⟩ = some (.int .i64 0)) (hg : g < w.heap.size) :
    Calls Tryd.prog 63 #[.slice (some ⟨g, 0, none⟩) 1 1] w fun e w' => RetO w 2 [0] e w' := by
  have hown := owns_empty (w := w) (e := 2) (size := 1) rfl (Nat.le_refl _)
  have hc2 : (w.alloc (.cells #[] 2)).cell? ⟨g, 0, none⟩ = some (.int .i64 0) := (Below.cell (p := ⟨g, 0, none⟩) ((Below.refl w.heap.size w).alloc (Nat.le_refl _) _) hg).trans hc
  go_enter Tryd.func63, Tryd.ntmps63
  go_wp2_with (at_builtin; refine wpList_app1 rfl _ _ 32 rfl w.heap.size 2 _ 8 Tryd.underlying32 info_i64 (by decide) rfl _ 0 _ rfl hown g (.int .i64 0) rfl ?c1 rfl ?c2 ?c3 ?_)
  case c1 => exact hc2
  case c2 => omega
  case c3 => simp
  intro v1 w1 hown1 hgrow
  have hb1 := below_app ((Below.refl w.heap.size w).alloc (Nat.le_refl _) (.cells #[] 2)) hown hgrow (Nat.le_refl _) (by simp)
  clear hgrow
  go_wp2
  go_ret
  exact ⟨_, rfl, Own.of hown1, hb1⟩

set_option maxHeartbeats 4000000 in
theorem l11Out_any (s : ByteArray) (N g : Nat) (w : World) (h8 : s.size ≤ 8) (hN : 1 ≤ N ∧ N ≤ 40) (hc : w.cell? ⟨g, 0, none⟩ = some (.int .i64 0)) (hg : g < w.heap.size) :
    Calls Tryd.prog 41 #[.string s, .int .i64 N, .slice (some ⟨g, 0, none⟩) 1 1] w fun e w' => RetO w 2 (outW s.data.toList N) e w' := by
  obtain ⟨l, Hl⟩ : ∃ l, Hid (l = s.data.toList) := ⟨_, rfl⟩
  have Hll := Lib.hid (show l.length = s.size by rw [Hl.out, size_list])
  have Hcov := Lib.hid (fun (k : Nat) (W : World) (hk : k < N) => l11Covers_any s N k W h8 (by omega) (by omega))
  rw [← Hl.out] at Hcov ⊢
  obtain ⟨RES, HR⟩ : ∃ RES, Hid (RES = outW l N) := ⟨_, rfl⟩
  rw [← HR.out]
  have Hown := Lib.hid (l00Own_one g w hc hg)
  clear hc
  go_enter Tryd.func41, Tryd.ntmps41
  go_wp2_with (go_at_call 63; refine Hown.out.mono ?_; rintro e w0 ⟨v0, rfl, ho0, hb0⟩; obtain ⟨a0, c0, rfl, hr0⟩ := ho0.sliceI; have Ho0 := Lib.hid ho0; have Hb0 := Lib.hid hb0; clear hr0 ho0 hb0)
  go_loopw [7] (fun v wr => ∃ out : List Int, Hid (Some N out) ∧ 1 ≤ out.length ∧ out.length ≤ N ∧ Hid (∃ f, N + 1 ≤ f + out.length ∧ outF l N f out = RES) ∧ (∃ a c, v = .slice a out.length c) ∧ Hid (wr.ownsRow w.heap.size 2 1 v out.length (ints out)) ∧ Hid (Below w.heap.size w wr)) (fun v _ => N + 1 - lenS v)
  case atStart =>
    exact ⟨[0], Lib.hid ⟨by simp, fun x hx => by simp at hx; omega⟩, by simp, by simp; omega, Lib.hid ⟨N + 1, by simp, HR.out.symm⟩, ⟨_, _, rfl⟩, Lib.hid Ho0.out.1, Hb0⟩
  case round =>
    obtain ⟨out, Hsome, ho1, hoN, HF, ⟨a1, c1, rfl⟩, Ho, Hb⟩ := hrel
    go_wp2
    go_loopw [7, 8, 9] (fun v g i wr2 => ∃ k : Nat, k ≤ N ∧ i = .int .i64 k ∧ ∃ o2 : List Int, Hid (o2 = passTo l N out k) ∧ Hid (Some N o2) ∧ o2.length ≤ N ∧ (∃ a c, v = .slice a o2.length c) ∧ g = .bool (decide (out.length < o2.length)) ∧ Hid (wr2.ownsRow w.heap.size 2 1 v o2.length (ints o2)) ∧ Hid (Below w.heap.size w wr2)) (fun _ _ i _ => N - (intOf i).toNat)
    case atStart => exact ⟨0, Nat.zero_le _, rfl, out, Lib.hid rfl, Hsome, hoN, ⟨_, _, rfl⟩, by simp, Ho, Hb⟩
    case round =>
      obtain ⟨k, hk, rfl, o2, Ho2, Hs2, hl2, ⟨a2, c2, rfl⟩, rfl, Hown2, Hb2⟩ := hrel
      by_cases hlt : k < N
      · have hlti : (k : Int) < N := by omega
        have Hrv := Lib.hid (owns_read Hown2.out).1
        have Hhas := Lib.hid (fun (v : Int) (W : World) (h : RV W a2 o2.length c2 (ints o2)) => l00Has_any a2 o2.length c2 o2 v W h)
        obtain ⟨ag, Hag⟩ : ∃ ag, Hid (decide (out.length < o2.length) = ag) := ⟨_, rfl⟩
        rw [Hag.out]
        obtain ⟨L2, HL2⟩ : ∃ L2, Hid (o2.length = L2) := ⟨_, rfl⟩
        by_cases hnk : (k : Int) ∈ o2
        · have Hh0 := Lib.hid (by
            have h := Hhas.out k
            rw [decide_eq_true hnk] at h
            exact h)
          have Hn := Lib.hid (show passTo l N out (k + 1) = o2 by
            show outStep l N (passTo l N out k) k = o2
            rw [← Ho2.out]
            unfold outStep
            rw [decide_eq_true hnk]
            rfl)
          clear hnk
          go_wp2_with (go_at_call 64; refine (Hh0.out _ (by exact Hrv.out)).mono ?_; rintro e w3 ⟨rfl, rfl⟩)
          go_roundw
          case rel => exact ⟨k + 1, by omega, by go_num, o2, Lib.hid Hn.out.symm, Hs2, hl2, ⟨_, _, rfl⟩, by rw [Hag.out], Hown2, Hb2⟩
          case measure => simp [intOf]; omega
        · have Hh0 := Lib.hid (by
            have h := Hhas.out k
            rw [decide_eq_false hnk] at h
            exact h)
          have Hnk := Lib.hid (decide_eq_false hnk)
          clear hnk
          go_wp2_with (first | (go_at_call 64; refine (Hh0.out _ (by exact Hrv.out)).mono ?_; rintro e w3 ⟨rfl, rfl⟩) | (go_at_call 45; (with_reducible refine (Hcov.out _ _ hlt).mono ?_); rintro e w3 ⟨v, rfl, ho, hb3⟩; have Hb3 := Lib.hid (bstep Hb2.out hb3 (Nat.le_refl _)); have Hown3 := Lib.hid (owns_below Hown2.out hb3); obtain ⟨a3, c3, rfl, hr3⟩ := ho.sliceI; have Hr3 := Lib.hid hr3; clear hr3 ho hb3))
          have Hrv3 := Lib.hid (owns_read Hown3.out).1
          obtain ⟨m, Hm⟩ : ∃ m, Hid ((coversW l N k).length = m) := ⟨_, rfl⟩
          have hm8 : m ≤ 8 := by
            rw [← Hm.out]
            have := coversTo_len l N k l.length
            rw [Hll.out] at this
            show (coversTo l N k l.length).length ≤ 8
            rw [Hll.out]; omega
          rw [Hm.out] at Hr3 ⊢
          go_loop [10, 12] (fun fr i => ∃ j : Nat, j ≤ m ∧ i = .int .i64 j ∧ ∃ b : Bool, fr = .bool b ∧ Hid (b = freeTo l N k o2 j)) (fun _ i => m - (intOf i).toNat)
          case atStart => exact ⟨0, Nat.zero_le _, rfl, true, rfl, Lib.hid (by simp [freeTo])⟩
          case round =>
            obtain ⟨j, hj, rfl, b, rfl, Hbj⟩ := hrel
            by_cases hjm : j < m
            · obtain ⟨b1, o1, rfl, hb1, hcc⟩ := Hr3.out.cell (by omega)
              have e1 := hcc j hjm
              have Hfs := Lib.hid (freeTo_step l N k o2 (j := j) (by rw [Hm.out]; exact hjm))
              obtain ⟨x, hx⟩ : ∃ x, (coversW l N k).getD j 0 = x := ⟨_, rfl⟩
              rw [hx] at e1 Hfs
              obtain ⟨d, hd⟩ : ∃ d, decide (x ∈ o2) = d := ⟨_, rfl⟩
              have Hh1 := Lib.hid (by
                have h := Hhas.out x
                rw [hd] at h
                exact h)
              rw [hd] at Hfs
              have hji : (j : Int) < m := by omega
              clear hcc hx hd
              cases b
              · go_wp2
                go_round
                case rel => exact ⟨j + 1, by omega, by go_num, false, rfl, Lib.hid (by rw [Hfs.out, ← Hbj.out]; rfl)⟩
                case measure => simp [intOf]; omega
              · go_wp2_with (go_at_call 64; refine (Hh1.out _ (by exact Hrv3.out)).mono ?_; rintro e w4 ⟨rfl, rfl⟩)
                go_round
                case rel => exact ⟨j + 1, by omega, by go_num, d, rfl, Lib.hid (by rw [Hfs.out, ← Hbj.out]; simp)⟩
                case measure => simp [intOf]; omega
            · have hjm2 : j = m := by omega
              have Hbf := Lib.hid (show b = freeW l N k o2 by rw [Hbj.out, freeTo_all l N k o2 (by rw [Hm.out]; exact hjm2)])
              have Hgrow := Lib.hid (passTo_len l N out k)
              rw [← Ho2.out] at Hgrow
              clear hjm2
              cases b
              · have Hn := Lib.hid (show passTo l N out (k + 1) = o2 by
                  show outStep l N (passTo l N out k) k = o2
                  rw [← Ho2.out]
                  unfold outStep
                  rw [Hnk.out, ← Hbf.out]
                  rfl)
                go_wp2
                go_roundw
                case rel => exact ⟨k + 1, by omega, by go_num, o2, Lib.hid Hn.out.symm, Hs2, hl2, ⟨_, _, rfl⟩, by rw [Hag.out], Hown3, Hb3⟩
                case measure => simp [intOf]; omega
              · have Hn := Lib.hid (show passTo l N out (k + 1) = o2 ++ [(k : Int)] by
                  show outStep l N (passTo l N out k) k = _
                  rw [← Ho2.out]
                  unfold outStep
                  rw [Hnk.out, ← Hbf.out]
                  rfl)
                have Hs3 := Lib.hid (show Some N (o2 ++ [(k : Int)]) by
                  have h := outStep_some (l := l) (st := N) Hs2.out hlt
                  have e : outStep l N o2 k = o2 ++ [(k : Int)] := by
                    unfold outStep
                    rw [Hnk.out, ← Hbf.out]
                    rfl
                  rw [e] at h
                  exact h)
                have Hl3 := Lib.hid (some_len Hs3.out)
                have hsz3 := Hb3.out.size
                have hown3 := Hown3.out
                go_wp2_with (at_builtin; refine wpList_app1 rfl _ _ 32 rfl w.heap.size 2 _ 8 Tryd.underlying32 info_i64 (by decide) rfl _ o2.length _ rfl (hown3.alloc _) w3.heap.size (.int .i64 k) rfl ?c1 rfl ?c2 ?c3 ?_)
                case c2 => omega
                case c3 => first | omega | (simp; omega)
                intro v5 w5 hown5 hgrow5
                have Hb5 := Lib.hid (below_app (Hb3.out.alloc (by omega) _) (hown3.alloc _) hgrow5 (Nat.le_refl _) (by simp; omega))
                have Hown5 := Lib.hid hown5
                obtain ⟨a5, c5, rfl⟩ := owns_slice hown5
                clear hown3 hgrow5 hown5
                go_wp2
                go_roundw
                case rel =>
                  refine ⟨k + 1, by omega, by go_num, o2 ++ [(k : Int)], Lib.hid Hn.out.symm, Hs3, Hl3.out, ⟨a5, c5, by simp⟩, ?_, Lib.hid (by simpa using Hown5.out), Hb5⟩
                  have h1 := Hgrow.out
                  simp; omega
                case measure => simp [intOf]; omega
      · have hkN : k = N := by omega
        have He := Lib.hid (show o2 = passTo l N out N by rw [Ho2.out, hkN])
        have Hgrow := Lib.hid (passTo_grows l N out N)
        rw [← He.out] at Hgrow
        have Hun := Lib.hid (show ∃ f', N + 1 ≤ f' + 1 + out.length ∧ (if o2.length = out.length then out else outF l N f' o2) = RES by
          obtain ⟨f, hf, h⟩ := HF.out
          obtain ⟨f', rfl⟩ : ∃ f', f = f' + 1 := ⟨f - 1, by omega⟩
          unfold outF at h
          rw [Int.toNat_natCast, ← He.out] at h
          exact ⟨f', hf, h⟩)
        clear hkN
        by_cases hg : out.length < o2.length
        · have dg : decide (out.length < o2.length) = true := by simp [hg]
          rw [dg]
          go_wp2
          go_roundw
          case rel =>
            obtain ⟨f', hf, h3⟩ := Hun.out
            rw [if_neg (by omega)] at h3
            exact ⟨o2, Hs2, by omega, hl2, Lib.hid ⟨f', by omega, h3⟩, ⟨_, _, rfl⟩, Hown2, Hb2⟩
          case measure => simp [lenS]; omega
        · have dg : decide (out.length < o2.length) = false := by simp [hg]
          have Hf := Lib.hid (show o2 = RES by
            obtain ⟨f', hf, h3⟩ := Hun.out
            obtain ⟨r, hr⟩ := Hgrow.out
            have hlen : o2.length = out.length + r.length := by rw [hr]; simp
            rw [if_pos (by omega)] at h3
            have : r = [] := List.eq_nil_of_length_eq_zero (by omega)
            rw [hr, this, List.append_nil]; exact h3)
          rw [dg]
          go_wp2
          go_ret
          have e1 := Hf.out
          subst e1
          exact ⟨_, rfl, Own.of Hown2.out, Hb2.out⟩
end Go.Proofs.YtcpacfedmppaeaaDoor
