/-
  Bends: the words of locked borders, the program, by walks.
-/
import Derived.Test.YtcpacfedmppaeaaDoorBend13
namespace Go.Proofs.YtcpacfedmppaeaaDoor
open Go.RowKit
set_option linter.unusedVariables false

set_option maxHeartbeats 4000000 in
theorem lockedWords_any (n st : Int) (w : World) (hnb : -9223372036854775808 ≤ n ∧ n ≤ 9223372036854775807) :
    Calls Tryd.prog 28 #[.int .i64 n, .int .i64 st] w fun e w' => RetS w 9 (lockR2 n st) e w' := by
  cases h : inB n 1 8
  · rw [show lockR2 n st = ([], 2) by simp [lockR2, h]]
    go_enter Tryd.func28, Tryd.ntmps28
    go_wp2_with (go_at_call 50; refine (within_any _ _ _ _).mono ?_; rintro e w2 ⟨rfl, rfl⟩)
    go_ret2
    exact ⟨_, rfl, Own.nil _ _ _ _, Below.refl _ _⟩
  · have h2 := inB_iff.1 h
    cases h3 : inB st (n + 2) 40
    · rw [show lockR2 n st = ([], 2) by simp [lockR2, h3]]
      go_enter Tryd.func28, Tryd.ntmps28
      go_wp2_with (go_at_call 50; refine (within_any _ _ _ _).mono ?_; rintro e w2 ⟨rfl, rfl⟩)
      go_ret2
      exact ⟨_, rfl, Own.nil _ _ _ _, Below.refl _ _⟩
    · have h4 := inB_iff.1 h3
      obtain ⟨m, rfl⟩ : ∃ m : Nat, n = (m : Int) := ⟨n.toNat, by omega⟩
      obtain ⟨N, rfl⟩ : ∃ N : Nat, st = (N : Int) := ⟨st.toNat, by omega⟩
      have hR : lockR2 m N = (lockTo (listTo m (2 ^ m)) N (listTo m (2 ^ m)).length, 0) := by
        rw [lockR2, h, h3]
        simp only [Bool.and_self, if_true, Int.toNat_natCast]
      rw [hR]
      have Hl := Lib.hid (fun W => listWords_any m W (by omega))
      have hL8 := list_le (n := m) (by omega)
      have Hmem := Lib.hid (fun l (hl : l ∈ listTo m (2 ^ m)) => show l.length = m ∧ two 98 102 l = true by
        obtain ⟨set, _, rfl, _⟩ := listTo_mem hl
        exact ⟨wordTo_len _ _ _, wordTo_two _ _ _⟩)
      obtain ⟨L, HL⟩ : ∃ L, Hid (L = listTo m (2 ^ m)) := ⟨_, rfl⟩
      rw [← HL.out] at Hl hL8 Hmem ⊢
      obtain ⟨K, hK⟩ : ∃ K, L.length = K := ⟨_, rfl⟩
      have HK := Lib.hid hK
      rw [hK] at hL8 ⊢
      clear hR hK
      have Hown0 := Lib.hid (owns_empty (w := w) (e := 9) (size := 1) rfl (Nat.le_refl _))
      have HB0 := Lib.hid (show Below w.heap.size w (w.alloc (.cells #[] 9)) from (Below.refl _ _).alloc (Nat.le_refl _) _)
      go_enter Tryd.func28, Tryd.ntmps28
      go_wp2_with (first | (go_at_call 50; refine (within_any _ _ _ _).mono ?_; rintro e w2 ⟨rfl, rfl⟩) | (go_at_call 51; refine (Hl.out (w.alloc (.cells #[] 9))).mono ?_; rintro e w1 ⟨v, rfl, ho, hb⟩; obtain ⟨aL, cL, rfl, hrL⟩ := ho.sliceS; have HoL := Lib.hid ho; have Hb1 := Lib.hid (bstep HB0.out hb (Nat.le_refl _)); have Hown1 := Lib.hid (owns_below Hown0.out hb); have hs1 := hb.size; clear ho hb hrL))
      rw [HK.out] at HoL ⊢
      simp only [World.size_alloc] at hs1 HoL
      go_loopw [6, 23] (fun v i wr => ∃ k : Nat, k ≤ K ∧ i = .int .i64 k ∧ ∃ pre : List (List UInt8), Hid (pre = lockTo L N k) ∧ pre.length ≤ k ∧ (∃ a c, v = .slice a pre.length c) ∧ Hid (wr.ownsRow w.heap.size 9 1 v pre.length (strs pre)) ∧ Hid (Below w.heap.size w wr) ∧ Hid (Own wr (w.heap.size + 1) w1.heap.size 9 (.slice aL K cL) (strs L)) ∧ Hid (∀ b, v.ownBlock = some b → b < w.heap.size + 1 ∨ w1.heap.size ≤ b) ∧ w1.heap.size ≤ wr.heap.size) (fun _ i _ => K - (intOf i).toNat)
      case atStart => exact ⟨0, Nat.zero_le _, rfl, [], Lib.hid rfl, by simp, ⟨_, _, rfl⟩, Hown1, Hb1, HoL, Lib.hid (fun b hb => by simp [Value.ownBlock] at hb; omega), Nat.le_refl _⟩
      case round =>
        obtain ⟨k, hk, rfl, pre, Hp, hpl, ⟨a1, c1, rfl⟩, Hown, Hb, HL3, Hap, hw1⟩ := hrel
        by_cases hlt : k < K
        · have Ha' : RV wr aL K cL (strs L) := HL3.out.rv
          obtain ⟨b1, o1, rfl, hb1, hc1⟩ := Ha'.cellv (by omega)
          have hkL : k < L.length := by rw [HK.out]; exact hlt
          have e1 := hc1 k _ (strs_get hkL)
          have Hst := Lib.hid (lockTo_step L N hkL)
          obtain ⟨l, hl⟩ : ∃ l, L.getD k [] = l := ⟨_, rfl⟩
          rw [hl] at e1 Hst
          have hlm := Hmem.out l (by rw [← hl]; simp [hkL])
          obtain ⟨S, hS⟩ : ∃ S, str l = S := ⟨_, rfl⟩
          have hSl : S.data.toList = l := by rw [← hS, str_list]
          have hSs : S.size = m := by rw [← hS, str_size]; exact hlm.1
          rw [hS] at e1
          have HS := Lib.hid hS
          obtain ⟨d, hd⟩ : ∃ d, (outW l N).length = d := ⟨_, rfl⟩
          have Hout := Lib.hid (fun W => by
            have h := drawnOut_any S N W (by rw [hSl]; exact hlm.2) (by omega) (by omega)
            rw [hSl, hd] at h
            exact h)
          have hki : (k : Int) < K := by omega
          have hszr := Hb.out.size
          rw [hd] at Hst
          clear hc1 hl hSl hS hkL hd hlm Ha'
          by_cases hd1 : d = 1
          · have t1 : ((d : Int) == 1) = true := by simp [hd1]
            have t1' : (d == 1) = true := by simp [hd1]
            rw [t1', if_pos rfl] at Hst
            clear hd1
            go_wp2_with (first | (go_at_call 40; refine (Hout.out _).mono ?_; rintro e w3 ⟨rfl, hb3⟩; have Hb3 := Lib.hid hb3; have hown3 := owns_below Hown.out hb3; have hsz3 := hb3.size; clear hb3) | (at_builtin; refine wpList_app1_at rfl _ _ 37 rfl w.heap.size 9 _ 16 Tryd.underlying37 info_str (by decide) rfl _ pre.length _ rfl (hown3.alloc _) w3.heap.size (.string S) rfl ?c1 rfl ?c2 ?c3 ?_))
            case c1 => exact cell_boxed rfl
            case c2 => omega
            case c3 => first | omega | (simp; omega)
            intro v5 w5 hown5 hgrow5 hat5
            have Hb5 := Lib.hid (below_app ((bstep Hb.out Hb3.out (Nat.le_refl _)).alloc (by omega) _) (hown3.alloc _) hgrow5 (Nat.le_refl _) (by simp; omega))
            have HL5 := Lib.hid (((HL3.out.below Hb3.out).below ((Below.refl w3.heap.size w3).alloc (Nat.le_refl _) (.cells #[.string S] 9))).kept hgrow5 (fun b hb => Hap.out b hb))
            have Hap5 := Lib.hid (show ∀ b, v5.ownBlock = some b → b < w.heap.size + 1 ∨ w1.heap.size ≤ b by
              intro b hb
              rcases hat5 with h | h
              · exact Hap.out b (by rw [← h]; exact hb)
              · rw [h] at hb
                simp at hb
                omega)
            have hsz5 : w1.heap.size ≤ w5.heap.size := by have := hgrow5.size; simp at this; omega
            have Hown5 := Lib.hid hown5
            obtain ⟨a5, c5, rfl⟩ := owns_slice hown5
            clear hown3 hgrow5 hown5 hat5
            go_wp2
            go_roundw
            case rel => exact ⟨k + 1, by omega, by go_num, pre ++ [l], Lib.hid (by rw [Hst.out, Hp.out]), by simp; omega, ⟨a5, c5, by simp⟩, Lib.hid (by simpa [HS.out] using Hown5.out), Hb5, HL5, Hap5, hsz5⟩
            case measure => simp [intOf]; omega
          · have t1 : ((d : Int) == 1) = false := by simp; omega
            have t1' : (d == 1) = false := by simp [hd1]
            rw [t1'] at Hst
            clear hd1
            go_wp2_with (go_at_call 40; refine (Hout.out _).mono ?_; rintro e w3 ⟨rfl, hb3⟩; have Hb3 := Lib.hid hb3; have hsz3 := hb3.size; clear hb3)
            go_roundw
            case rel => exact ⟨k + 1, by omega, by go_num, pre, Lib.hid (by rw [Hst.out, Hp.out]; simp), by omega, ⟨_, _, rfl⟩, Lib.hid (owns_below Hown.out Hb3.out), Lib.hid (bstep Hb.out Hb3.out (Nat.le_refl _)), Lib.hid (HL3.out.below Hb3.out), Hap, by omega⟩
            case measure => simp [intOf]; omega
        · have Hf := Lib.hid (show pre = lockTo L N K by rw [Hp.out, show k = K by omega])
          go_wp2
          go_ret2
          have e1 := Hf.out
          subst e1
          exact ⟨_, rfl, Own.of (by simpa using Hown.out), Hb.out⟩
end Go.Proofs.YtcpacfedmppaeaaDoor
