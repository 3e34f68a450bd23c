/-
  Drafts of rows, the program, by walks.
-/
import Derived.Test.YtggbnibdpkblgaaDoorDraft
import Derived.Test.YtggbnibdpkblgaaDoorTwill2
namespace Go.Proofs.YtggbnibdpkblgaaDoor
open Go.RowKit
set_option linter.unusedVariables false
set_option maxRecDepth 100000

theorem goodFrom_first {l : List UInt8} : ∀ {f i j : Nat}, i ≤ j → j < i + f → goodT l j = true → (∀ k, i ≤ k → k < j → goodT l k = false) → goodFrom l f i = some j := by
  intro f
  induction f with
  | zero => intro i j h1 h2; omega
  | succ f ih =>
    intro i j h1 h2 h3 h4
    unfold goodFrom
    rcases Nat.eq_or_lt_of_le h1 with e | e
    · subst e; rw [h3]; rfl
    · rw [h4 i (Nat.le_refl _) e]
      simp only [Bool.false_eq_true, if_false]
      exact ih e (by omega) h3 (fun k h5 h6 => h4 k (by omega) h6)
theorem turnW_add {r : List UInt8} : ∀ {m : Nat}, m + 1 ≤ r.length → turnW (turnW r 1) m = turnW r (m + 1) := by
  intro m
  induction m with
  | zero => intro _; rw [turnW_zero]
  | succ m ih =>
    intro h
    rw [turnW_succ (by rw [turnW_len]; omega), ih (by omega), ← turnW_succ (by omega)]
theorem goodT_turn {r : List UInt8} {k : Nat} (h : k + 1 < r.length) : goodT (turnW r 1) k = goodT r (k + 1) := by
  unfold goodT
  rw [turnW_len, turnW_bat (by omega) (by omega), turnW_bat (by omega) (Nat.mod_lt _ (by omega)), Nat.add_mod_mod]
  rw [show (1 + k) % r.length = k + 1 by rw [Nat.mod_eq_of_lt (by omega)]; omega]
  rw [show 1 + (k + r.length - 1) = k + 1 + r.length - 1 by omega]
theorem turn_good {r : List UInt8} {m : Nat} (h : goodI r = some (m + 1)) : goodI (turnW r 1) = some m ∧ turnT (turnW r 1) = turnT r := by
  have h2 := goodFrom_some h
  have hm : m + 1 < r.length := by omega
  have h3 : goodI (turnW r 1) = some m := by
    unfold goodI
    rw [turnW_len]
    refine goodFrom_first (Nat.zero_le _) (by omega) ?_ ?_
    · rw [goodT_turn hm]; exact h2.2.2.1
    · intro k _ hk
      rw [goodT_turn (by omega)]
      exact h2.2.2.2 (k + 1) (by omega) (by omega)
  refine ⟨h3, ?_⟩
  unfold turnT
  rw [h3, h]
  exact turnW_add (by omega)
theorem good_zero {r : List UInt8} (h : goodI r = some 0) : goodT r 0 = true ∧ turnT r = r := by
  refine ⟨(goodFrom_some h).2.2.1, ?_⟩
  unfold turnT
  rw [h]
  exact turnW_zero r
theorem good_more {r : List UInt8} {m : Nat} (h : goodI r = some (m + 1)) : goodT r 0 = false := (goodFrom_some h).2.2.2 0 (Nat.zero_le _) (by omega)
/-- how far a text is from its turning place -/
def farS : Value → Nat
  | .string t => (goodI t.data.toList).getD 0
  | _ => 0

theorem inc_store {xs : List Int} (h : 1 ≤ xs.length) : (ints xs).set (xs.length - 1) (.int .i64 (xs.getD (xs.length - 1) 0 + 1)) = ints (incLast xs) := by
  show _ = List.map (Value.int .i64) (xs.set (xs.length - 1) (xs.getD (xs.length - 1) 0 + 1))
  rw [List.map_set]

set_option maxHeartbeats 4000000 in
theorem draftOf_any (s : ByteArray) (st : Int) (w : World) (m0 : Nat) (hg : goodI s.data.toList = some m0) (h2 : 2 ≤ s.size) (h12 : s.size ≤ 12) :
    Calls Tryd.prog 30 #[.string s, .int .i64 st] w (RetT w 2 (partsW (turnT s.data.toList)) st) := by
  obtain ⟨N, hN⟩ : ∃ N, s.size = N := ⟨_, rfl⟩
  obtain ⟨T, HT⟩ : ∃ T, Hid (T = turnT s.data.toList) := ⟨_, rfl⟩
  rw [← HT.out]
  have Hg := Lib.hid hg
  have Hs := Lib.hid (show s = str s.data.toList from (str_of s).symm)
  have Hl := Lib.hid (show s.data.toList.length = N by rw [← hN]; rfl)
  rw [hN] at h2 h12
  clear hg
  go_enter Tryd.func30, Tryd.ntmps30
  go_wp2
  go_loopw [0] (fun v wr => ∃ r : List UInt8, v = .string (str r) ∧ Hid (r.length = N) ∧ (∃ m, Hid (goodI r = some m)) ∧ Hid (turnT r = T) ∧ Hid (Blk wr w.heap.size [.slice none 0 0, .int .i64 0] 28) ∧ Hid (Below w.heap.size w wr)) (fun v _ => farS v)
  case atStart => exact ⟨s.data.toList, by rw [← Hs.out], Hl, ⟨m0, Hg⟩, Lib.hid HT.out.symm, Lib.hid (Blk.box w [.slice none 0 0, .int .i64 0] 28 rfl), Lib.hid ((Below.refl _ _).alloc (Nat.le_refl _) _)⟩
  case round =>
    obtain ⟨r, rfl, Hr, ⟨m, Hm⟩, Htr, Hblk, Hb⟩ := hrel
    obtain ⟨S, HS⟩ : ∃ S, Hid (S = str r) := ⟨_, rfl⟩
    have hSz : S.size = N := by rw [HS.out, str_size, Hr.out]
    have hSl := Lib.hid (show S.data.toList = r by rw [HS.out, str_list])
    rw [← HS.out]
    have h0S : 0 < S.size := by omega
    have hnS : N - 1 < S.size := by omega
    obtain ⟨c0, hc0⟩ : ∃ c : Nat, (S[0]'h0S).toNat = c := ⟨_, rfl⟩
    obtain ⟨c1, hc1⟩ : ∃ c : Nat, (S[N - 1]'hnS).toNat = c := ⟨_, rfl⟩
    have Hg0 := Lib.hid (show goodT r 0 = ((c0 == 70) && (c1 == 66)) by
      unfold goodT
      rw [Hr.out, show (0 + N - 1) % N = N - 1 by rw [Nat.zero_add]; exact Nat.mod_eq_of_lt (by omega), ← hc0, ← hc1, ← hSl.out, bat_get h0S, bat_get hnS])
    have hn1 : (N : Int) - 1 = ((N - 1 : Nat) : Int) := by omega
    have hn1i : ((N - 1 : Nat) : Int) < N := by omega
    generalize hM : N - 1 = M at *
    have HM := Lib.hid hM
    clear hM
    cases m with
    | zero =>
      have hgz := good_zero Hm.out
      have hc := hgz.1
      rw [Hg0.out] at hc
      simp only [Bool.and_eq_true, beq_iff_eq] at hc
      have t0 : ((c0 : Int) != 70) = false := by simp; omega
      have t0' : (c0 != 70) = false := by simp [hc.1]
      have t1 : ((c1 : Int) != 66) = false := by simp; omega
      have t1' : (c1 != 66) = false := by simp [hc.2]
      have HrT := Lib.hid (show r = T by rw [← Htr.out, hgz.2])
      obtain ⟨w1, rfl⟩ : ∃ x : World, x = wr := ⟨_, rfl⟩
      have hz1 := Hblk.out.lt
      clear hgz hc
      go_wp2
      go_loopw [5, 26] (fun v i wr => ∃ k : Nat, k ≤ N ∧ i = .int .i64 k ∧ ∃ p : List Int, Hid (p = partsTo r k) ∧ p.length ≤ k ∧ (∃ a c, v = .slice a p.length c) ∧ Hid (wr.ownsRow w1.heap.size 2 1 v p.length (ints p)) ∧ Hid (Below w1.heap.size w1 wr)) (fun _ i _ => N - (intOf i).toNat)
      case atStart => exact ⟨0, Nat.zero_le _, rfl, [], Lib.hid rfl, by simp, ⟨_, _, rfl⟩, Lib.hid (owns_empty rfl (Nat.le_refl _)), Lib.hid ((Below.refl _ _).alloc (Nat.le_refl _) _)⟩
      case round =>
        obtain ⟨k, hk, rfl, p, Hp, hpl, ⟨a5, c5, rfl⟩, Hown, Hb5⟩ := hrel
        by_cases hlt : k < N
        · have hkS : k < S.size := by omega
          have Hst0 := Lib.hid (show partsTo r (k + 1) = if decide (k = 0) || decide (bat r k ≠ bat r (k - 1)) then p ++ [1] else incLast p by rw [partsTo, ← Hp.out])
          have hki : (k : Int) < N := by omega
          by_cases hk0 : k = 0
          · have t2 : ((k : Int) == 0) = true := by simp [hk0]
            have t2' : (k == 0) = true := by simp [hk0]
            have Hstp := Lib.hid (show partsTo r (k + 1) = p ++ [1] by rw [Hst0.out, if_pos (by simp [hk0])])
            clear hk0
            go_wp2
            go_quiet (fail)
            have hownq : (wr.drewN nq).ownsRow w1.heap.size 2 1 (.slice a5 p.length c5) p.length (ints p) := Hown.out
            have Hbq := Lib.hid (bdrewN Hb5.out nq)
            obtain ⟨wq, hwq⟩ : ∃ wq, wr.drewN nq = wq := ⟨_, rfl⟩
            rw [hwq] at hownq Hbq ⊢
            clear hwq
            have hszq := Hbq.out.size
            go_wp2_with (at_builtin; refine wpList_app1 rfl _ _ 26 rfl w1.heap.size 2 _ 8 Tryd.underlying26 info_i64 (by decide) rfl _ p.length _ rfl (hownq.alloc _) wq.heap.size (.int .i64 0) rfl ?c1 rfl ?c2 ?c3 ?_)
            case c1 => exact cell_boxed rfl
            case c2 => omega
            case c3 => first | omega | (simp; omega)
            intro v6 w6 hown6 hgrow6
            have Hb6 := Lib.hid (below_app (Hbq.out.alloc (by omega) _) (hownq.alloc _) hgrow6 (Nat.le_refl _) (by simp; omega))
            obtain ⟨g6, c6, rfl⟩ : ∃ g6 c6, v6 = .slice (some ⟨g6, 0, none⟩) (p.length + 1) c6 := by
              rcases hown6.2 with ⟨h, h0⟩ | ⟨g, cap, cur, hv, _⟩
              · omega
              · exact ⟨g, cap, hv⟩
            have hcell : w6.cell? ⟨g6, p.length, none⟩ = some (.int .i64 0) := by
              rw [hown6.cellAt p.length (by omega)]; simp
            have hfr := hown6.frozenAt p.length
            have hsto := hown6.stored p.length (.int .i64 1)
            rw [show (ints p ++ [Value.int .i64 0]).set p.length (.int .i64 1) = ints (p ++ [1]) by simp [List.set_append_right]] at hsto
            have Hsto := Lib.hid hsto
            have Hb7 := Lib.hid (Hb6.out.grown hsto.2 (by have := Hb6.out.size; omega) (fun b hb => by
              have h := hown6.lt b hb
              omega))
            have hpi : (p.length : Int) < (p.length : Int) + 1 := by omega
            clear hownq hown6 hgrow6 hsto
            go_wp2
            go_roundw
            case rel => exact ⟨k + 1, by omega, by go_num, p ++ [1], Lib.hid (by rw [Hstp.out]), by simp; omega, ⟨some ⟨g6, 0, none⟩, c6, by simp⟩, Lib.hid (by simpa using Hsto.out.1), Hb7⟩
            case measure => simp [intOf]; omega
          · have t2 : ((k : Int) == 0) = false := by simp; omega
            have t2' : (k == 0) = false := by simp [hk0]
            obtain ⟨j, hj⟩ : ∃ j, k - 1 = j := ⟨_, rfl⟩
            have hj1 : (k : Int) - 1 = (j : Int) := by omega
            have hjS : j < S.size := by omega
            have hji : (j : Int) < N := by omega
            obtain ⟨d0, hd0⟩ : ∃ c : Nat, (S[k]'hkS).toNat = c := ⟨_, rfl⟩
            obtain ⟨d1, hd1⟩ : ∃ c : Nat, (S[j]'hjS).toNat = c := ⟨_, rfl⟩
            have hb0 : bat r k = d0 := by rw [← hd0, bat_get hkS, hSl.out]
            have hb1 : bat r (k - 1) = d1 := by rw [hj, ← hd1, bat_get hjS, hSl.out]
            have hp1 : 1 ≤ p.length := by
              rw [Hp.out, show k = (k - 1) + 1 by omega]; exact partsTo_pos r (k - 1)
            rw [hb0, hb1] at Hst0
            clear hb0 hb1 hj
            by_cases hdd : d0 = d1
            · have t3 : ((d0 : Int) != (d1 : Int)) = false := by simp [hdd]
              have t3' : (d0 != d1) = false := by simp [hdd]
              have Hstp := Lib.hid (show partsTo r (k + 1) = incLast p by rw [Hst0.out, if_neg (by simp [hk0, hdd])])
              clear hdd hk0
              obtain ⟨L, hL⟩ : ∃ L, p.length = L + 1 := ⟨p.length - 1, by omega⟩
              have hown := Hown.out
              rw [hL] at hown
              obtain ⟨g6, rfl⟩ : ∃ g6, a5 = some ⟨g6, 0, none⟩ := by
                rcases hown.2 with ⟨h, h0⟩ | ⟨g, cap, cur, hv, _⟩
                · omega
                · simp only [Value.slice.injEq] at hv
                  exact ⟨g, hv.1⟩
              obtain ⟨x, hx⟩ : ∃ x, p.getD L 0 = x := ⟨_, rfl⟩
              have hxb : 0 ≤ x ∧ x ≤ 12 := by
                have h := partsTo_bd r k x (by rw [← Hp.out, ← hx]; simp [show L < p.length by omega])
                omega
              have hcell : wr.cell? ⟨g6, L, none⟩ = some (.int .i64 x) := by
                rw [hown.cellAt L (by omega)]
                rw [← hx]
                simp [show L < p.length by omega]
              have hfr := hown.frozenAt L
              have hsto := hown.stored L (.int .i64 (x + 1))
              rw [show (ints p).set L (.int .i64 (x + 1)) = ints (incLast p) by
                have h := inc_store (xs := p) (by omega)
                rw [hL, show L + 1 - 1 = L by omega, hx] at h
                exact h] at hsto
              have Hsto := Lib.hid hsto
              have Hb7 := Lib.hid (Hb5.out.grown hsto.2 Hb5.out.size (fun b hb => (hown.lt b hb).1))
              have HL := Lib.hid hL
              rw [hL]
              clear hown hsto hx
              go_wp2
              go_quiet (fail)
              go_wp2
              go_roundw
              case rel => exact ⟨k + 1, by omega, by go_num, incLast p, Lib.hid (by rw [Hstp.out]), by rw [incLast_len]; omega, ⟨_, _, by rw [incLast_len, HL.out]⟩, Lib.hid (by rw [incLast_len, HL.out]; exact Hsto.out.1), Lib.hid (bdrewN Hb7.out _)⟩
              case measure => simp [intOf]; omega
            · have t3 : ((d0 : Int) != (d1 : Int)) = true := by simp; omega
              have t3' : (d0 != d1) = true := by simp [hdd]
              have Hstp := Lib.hid (show partsTo r (k + 1) = p ++ [1] by rw [Hst0.out, if_pos (by simp [hdd])])
              clear hdd hk0
              go_wp2
              go_quiet (fail)
              have hownq : (wr.drewN nq).ownsRow w1.heap.size 2 1 (.slice a5 p.length c5) p.length (ints p) := Hown.out
              have Hbq := Lib.hid (bdrewN Hb5.out nq)
              obtain ⟨wq, hwq⟩ : ∃ wq, wr.drewN nq = wq := ⟨_, rfl⟩
              rw [hwq] at hownq Hbq ⊢
              clear hwq
              have hszq := Hbq.out.size
              go_wp2_with (at_builtin; refine wpList_app1 rfl _ _ 26 rfl w1.heap.size 2 _ 8 Tryd.underlying26 info_i64 (by decide) rfl _ p.length _ rfl (hownq.alloc _) wq.heap.size (.int .i64 0) rfl ?c1 rfl ?c2 ?c3 ?_)
              case c1 => exact cell_boxed rfl
              case c2 => omega
              case c3 => first | omega | (simp; omega)
              intro v6 w6 hown6 hgrow6
              have Hb6 := Lib.hid (below_app (Hbq.out.alloc (by omega) _) (hownq.alloc _) hgrow6 (Nat.le_refl _) (by simp; omega))
              obtain ⟨g6, c6, rfl⟩ : ∃ g6 c6, v6 = .slice (some ⟨g6, 0, none⟩) (p.length + 1) c6 := by
                rcases hown6.2 with ⟨h, h0⟩ | ⟨g, cap, cur, hv, _⟩
                · omega
                · exact ⟨g, cap, hv⟩
              have hcell : w6.cell? ⟨g6, p.length, none⟩ = some (.int .i64 0) := by
                rw [hown6.cellAt p.length (by omega)]; simp
              have hfr := hown6.frozenAt p.length
              have hsto := hown6.stored p.length (.int .i64 1)
              rw [show (ints p ++ [Value.int .i64 0]).set p.length (.int .i64 1) = ints (p ++ [1]) by simp [List.set_append_right]] at hsto
              have Hsto := Lib.hid hsto
              have Hb7 := Lib.hid (Hb6.out.grown hsto.2 (by have := Hb6.out.size; omega) (fun b hb => by
                have h := hown6.lt b hb
                omega))
              have hpi : (p.length : Int) < (p.length : Int) + 1 := by omega
              clear hownq hown6 hgrow6 hsto
              go_wp2
              go_roundw
              case rel => exact ⟨k + 1, by omega, by go_num, p ++ [1], Lib.hid (by rw [Hstp.out]), by simp; omega, ⟨some ⟨g6, 0, none⟩, c6, by simp⟩, Lib.hid (by simpa using Hsto.out.1), Hb7⟩
              case measure => simp [intOf]; omega
        · have hkN : k = N := by omega
          have Hf := Lib.hid (show p = partsW T by rw [Hp.out, partsW, ← HrT.out, Hr.out, hkN])
          have Hblk5 := Lib.hid (Hblk.out.below Hb5.out)
          have hc5 := Hblk5.out.cell 0 _ rfl
          have hc6 := Hblk5.out.cell 1 _ rfl
          have hf5 := Hblk5.out.frozen 0
          have hf6 := Hblk5.out.frozen 1
          have hz5 := Hblk5.out.lt
          have Hblk6 := (Hblk5.out.set 0 (.slice a5 p.length c5)).set 1 (.int .i64 st)
          have h0 := Hblk6.cell 0 _ rfl
          have h1 := Hblk6.cell 1 _ rfl
          clear hkN Hblk6
          go_wp2
          rw [← Hf.out]
          refine bodyPost_ret (v := .agg #[.slice a5 p.length c5, .int .i64 st]) (by simp [results, Tryd.results30, go_sem, h0, h1]) rfl ⟨_, rfl, ?_, ?_⟩
          · have ho := Own.of (e := 2) (vs := ints p) Hown.out
            exact ((ho.set (by omega) 0 _).set (by omega) 1 _).mono Hb.out.size (by simp)
          · exact ((bstep Hb.out Hb5.out (Nat.le_refl _)).setCell (Nat.le_refl _) _).setCell (Nat.le_refl _) _
    | succ m =>
      have hgf := good_more Hm.out
      have htg := turn_good Hm.out
      have Hg1 := Lib.hid htg.1
      have Ht1 := Lib.hid (show turnT (turnW r 1) = T by rw [htg.2, Htr.out])
      have Hext := Lib.hid (turn_ext r S hSl.out 1 (by omega))
      obtain ⟨X, hX⟩ : ∃ X, S.extract 1 S.size = X := ⟨_, rfl⟩
      obtain ⟨Y, hY⟩ : ∃ Y, S.extract 0 1 = Y := ⟨_, rfl⟩
      have hXs : X.size ≤ 12 := by rw [← hX]; simp; omega
      have hYs : Y.size ≤ 12 := by rw [← hY]; simp; omega
      have Hxy := Lib.hid (show X ++ Y = str (turnW r 1) by rw [← hX, ← hY]; exact Hext.out)
      rw [hSz] at hX
      rw [Hg0.out] at hgf
      have hN1 : (1 : Int) ≤ N := by omega
      have hfin : ∀ wq : World, Blk wq w.heap.size [.slice none 0 0, .int .i64 0] 28 → True := fun _ _ => trivial
      have Hfar0 := Lib.hid (show farS (.string S) = m + 1 by show (goodI S.data.toList).getD 0 = m + 1; rw [hSl.out, Hm.out]; rfl)
      have Hfar1 := Lib.hid (show farS (.string (X ++ Y)) = m by rw [Hxy.out]; show (goodI (str (turnW r 1)).data.toList).getD 0 = m; rw [str_list, Hg1.out]; rfl)
      clear htg hfin
      by_cases h0 : c0 = 70
      · have t0 : ((c0 : Int) != 70) = false := by simp; omega
        have t0' : (c0 != 70) = false := by simp [h0]
        have h1 : c1 ≠ 66 := by intro e; rw [h0, e] at hgf; simp at hgf
        have t1 : ((c1 : Int) != 66) = true := by simp; omega
        have t1' : (c1 != 66) = true := by simp [h1]
        clear h0 h1 hgf
        go_wp2
        go_quiet (fail)
        go_wp2
        go_roundw
        case rel => exact ⟨turnW r 1, by rw [Hxy.out], Lib.hid (by rw [turnW_len, Hr.out]), ⟨m, Hg1⟩, Ht1, Hblk, Lib.hid (bdrewN Hb.out _)⟩
        case measure => rw [Hfar0.out, Hfar1.out]; omega
      · have t0 : ((c0 : Int) != 70) = true := by simp; omega
        have t0' : (c0 != 70) = true := by simp [h0]
        clear h0 hgf
        go_wp2
        go_quiet (fail)
        go_wp2
        go_roundw
        case rel => exact ⟨turnW r 1, by rw [Hxy.out], Lib.hid (by rw [turnW_len, Hr.out]), ⟨m, Hg1⟩, Ht1, Hblk, Lib.hid (bdrewN Hb.out _)⟩
        case measure => rw [Hfar0.out, Hfar1.out]; omega
end Go.Proofs.YtggbnibdpkblgaaDoor
