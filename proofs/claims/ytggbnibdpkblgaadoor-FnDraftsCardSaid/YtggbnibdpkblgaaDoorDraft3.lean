/-
  Drafts of rows, the reference, by walks.
-/
import Derived.Test.YtggbnibdpkblgaaDoorDraft2
namespace Go.Proofs.YtggbnibdpkblgaaDoor
open Go.RowKit
set_option linter.unusedVariables false
set_option maxRecDepth 100000

/-- a block of another type is not the row's own -/
theorem owns_noblk {w : World} {base b : Nat} {e e' : TypeId} {size : Nat} {v : Value} {n : Nat} {xs cs : List Value} (h : w.ownsRow base e size v n xs) (hb : Blk w b cs e') (hne : e ≠ e') : v.ownBlock ≠ some b := by
  intro e1
  rcases h.2 with ⟨rfl, _⟩ | ⟨g', cap, cur, rfl, _, hg, _⟩
  · simp [Value.ownBlock] at e1
  · simp [Value.ownBlock] at e1
    subst e1
    unfold Blk at hb
    rw [hg] at hb
    simp only [Option.some.injEq, Obj.cells.injEq] at hb
    exact hne hb.2.1
theorem owns_setK {w : World} {base b : Nat} {e : TypeId} {v : Value} {n : Nat} {xs : List Value} (h : w.ownsRow base e 1 v n xs) (hb : v.ownBlock ≠ some b) (i : Nat) (u : Value) : (w.setCell ⟨b, i, none⟩ u).ownsRow base e 1 v n xs :=
  h.kept (gsetK w b i u) (.inr hb)

set_option maxHeartbeats 4000000 in
theorem l09Draft_any (s : ByteArray) (st : Int) (w : World) (h2 : 2 ≤ s.size) (h12 : s.size ≤ 12) :
    Calls Tryd.prog 34 #[.string s, .int .i64 st] w (RetT w 2 (partsW s.data.toList) st) := by
  obtain ⟨N, hN⟩ : ∃ N, s.size = N := ⟨_, rfl⟩
  obtain ⟨r, Hr0⟩ : ∃ r, Hid (r = s.data.toList) := ⟨_, rfl⟩
  have Hr := Lib.hid (show r.length = N by rw [Hr0.out, ← hN]; rfl)
  rw [← Hr0.out]
  rw [hN] at h2 h12
  have hne : (2 : TypeId) ≠ 28 := by decide
  go_enter Tryd.func34, Tryd.ntmps34
  go_wp2
  go_loopw [6] (fun i wr => ∃ k : Nat, k ≤ N ∧ i = .int .i64 k ∧ ∃ p : List Int, Hid (p = partsTo r k) ∧ p.length ≤ k ∧ (∃ a c, Hid (wr.ownsRow (w.heap.size + 1) 2 1 (.slice a p.length c) p.length (ints p)) ∧ Hid (Blk wr (w.heap.size + 2) [.slice a p.length c, .int .i64 st] 28)) ∧ Hid (Blk wr w.heap.size [.slice none 0 0, .int .i64 0] 28) ∧ Hid (Below w.heap.size w wr)) (fun i _ => N - (intOf i).toNat)
  case atStart =>
    refine ⟨0, Nat.zero_le _, rfl, [], Lib.hid rfl, by simp, ⟨some ⟨w.heap.size + 1, 0, none⟩, 0, Lib.hid ?_, Lib.hid ?_⟩, Lib.hid ?_, Lib.hid ?_⟩
    · exact (owns_empty (w := w.alloc (.cells #[.slice none 0 0, .int .i64 0] 28)) (e := 2) (size := 1) (g := w.heap.size + 1) (by simp) (Nat.le_refl _)).alloc _
    · exact Blk.box _ [.slice (some ⟨w.heap.size + 1, 0, none⟩) 0 0, .int .i64 st] _ (by simp)
    · exact ((Blk.box w [.slice none 0 0, .int .i64 0] _ rfl).alloc _).alloc _
    · exact (((Below.refl _ _).alloc (Nat.le_refl _) _).alloc (by simp) _).alloc (by simp; omega) _
  case round =>
    obtain ⟨k, hk, rfl, p, Hp, hpl, ⟨a5, c5, Hown, Hblk⟩, Hblk4, Hb5⟩ := hrel
    have hc0 := Hblk.out.cell 0 _ rfl
    have hc1 := Hblk.out.cell 1 _ rfl
    have hf0 := Hblk.out.frozen 0
    have hz := Hblk.out.lt
    by_cases hlt : k < N
    · have hkS : k < s.size := by omega
      have Hst0 := Lib.hid (show partsTo r (k + 1) = if decide (k = 0) || decide (bat r k ≠ bat r (k - 1)) then p ++ [1] else incLast p by rw [partsTo, ← Hp.out])
      have hki : (k : Int) < N := by omega
      by_cases hk0 : k = 0
      · have t2 : decide (0 < (k : Int)) = false := by simp; omega
        have t2' : decide (0 < k) = false := by simp; omega
        have Hstp := Lib.hid (show partsTo r (k + 1) = p ++ [1] by rw [Hst0.out, if_pos (by simp [hk0])])
        clear hk0
        go_wp2
        go_quiet (fail)
        have hownq : (wr.drewN nq).ownsRow (w.heap.size + 1) 2 1 (.slice a5 p.length c5) p.length (ints p) := Hown.out
        have Hbq := Lib.hid (bdrewN Hb5.out nq)
        have hblkq : Blk (wr.drewN nq) (w.heap.size + 2) [.slice a5 p.length c5, .int .i64 st] 28 := Hblk.out
        have Hblkq := Lib.hid hblkq
        have Hblk4q := Lib.hid (show Blk (wr.drewN nq) w.heap.size [.slice none 0 0, .int .i64 0] 28 from Hblk4.out)
        obtain ⟨wq, hwq⟩ : ∃ wq, wr.drewN nq = wq := ⟨_, rfl⟩
        rw [hwq] at hownq Hbq Hblkq Hblk4q hblkq ⊢
        clear hwq
        have hq0 := hblkq.cell 0 _ rfl
        have hq1 := hblkq.cell 1 _ rfl
        have hqf := hblkq.frozen 0
        have hqz := hblkq.lt
        have hszq := Hbq.out.size
        clear hc0 hc1 hf0 hz hblkq
        go_wp2_with (at_builtin; refine wpList_app1 rfl _ _ 26 rfl (w.heap.size + 1) 2 _ 8 Tryd.underlying26 info_i64 (by decide) rfl _ p.length _ rfl (hownq.alloc _) wq.heap.size (.int .i64 1) rfl ?c1 rfl ?c2 ?c3 ?_)
        case c1 => exact cell_boxed rfl
        case c2 => omega
        case c3 => first | omega | (simp; omega)
        intro v6 w6 hown6 hgrow6
        have Hb6 := Lib.hid (below_app (Hbq.out.alloc (by omega) _) (hownq.alloc _) hgrow6 (Nat.le_succ _) (by simp; omega))
        have hno := owns_noblk hownq Hblkq.out hne
        have hno4 := owns_noblk hownq Hblk4q.out hne
        have Hblk6 := Lib.hid ((Hblkq.out.alloc (.cells #[.int .i64 1] 2)).grown hgrow6 (fun e => hno e.symm))
        have Hblk46 := Lib.hid ((Hblk4q.out.alloc (.cells #[.int .i64 1] 2)).grown hgrow6 (fun e => hno4 e.symm))
        have h60 := Hblk6.out.cell 0 _ rfl
        have h6f := Hblk6.out.frozen 0
        have h6z := Hblk6.out.lt
        obtain ⟨a6, c6, rfl⟩ := owns_slice hown6
        have Hown7 := Lib.hid (owns_setK hown6 (owns_noblk hown6 Hblk6.out hne) 0 (.slice a6 (p.length + 1) c6))
        have Hblk7 := Lib.hid (Hblk6.out.set 0 (.slice a6 (p.length + 1) c6))
        have Hblk47 := Lib.hid (Hblk46.out.other (g := w.heap.size + 2) (i := 0) (by omega) (.slice a6 (p.length + 1) c6))
        have Hb7 := Lib.hid (Hb6.out.setCell (p := ⟨w.heap.size + 2, 0, none⟩) (by show w.heap.size ≤ w.heap.size + 2; omega) (.slice a6 (p.length + 1) c6))
        clear hownq hown6 hgrow6 hno hno4 hq0 hq1 hqf hqz
        go_wp2
        go_roundw
        case rel => exact ⟨k + 1, by omega, by go_num, p ++ [1], Lib.hid (by rw [Hstp.out]), by simp; omega, ⟨a6, c6, Lib.hid (by simpa using Hown7.out), Lib.hid (by rw [List.length_append]; exact Hblk7.out)⟩, Hblk47, Hb7⟩
        case measure => simp [intOf]; omega
      · have t2 : decide (0 < (k : Int)) = true := by simp; omega
        have t2' : decide (0 < k) = true := by simp; omega
        obtain ⟨j, hj⟩ : ∃ j, k - 1 = j := ⟨_, rfl⟩
        have hj1 : (k : Int) - 1 = (j : Int) := by omega
        have hjS : j < s.size := by omega
        have hji : (j : Int) < N := by omega
        obtain ⟨d0, hd0⟩ : ∃ c : Nat, (s[k]'hkS).toNat = c := ⟨_, rfl⟩
        obtain ⟨d1, hd1⟩ : ∃ c : Nat, (s[j]'hjS).toNat = c := ⟨_, rfl⟩
        have hb0 : bat r k = d0 := by rw [← hd0, bat_get hkS, Hr0.out]
        have hb1 : bat r (k - 1) = d1 := by rw [hj, ← hd1, bat_get hjS, Hr0.out]
        have hp1 : 1 ≤ p.length := by
          rw [Hp.out, show k = (k - 1) + 1 by omega]; exact partsTo_pos r (k - 1)
        rw [hb0, hb1] at Hst0
        clear hb0 hb1 hj
        by_cases hdd : d0 = d1
        · have t3 : ((d0 : Int) == (d1 : Int)) = true := by simp [hdd]
          have t3' : (d0 == d1) = true := by simp [hdd]
          have Hstp := Lib.hid (show partsTo r (k + 1) = incLast p by rw [Hst0.out, if_neg (by simp [hk0, hdd])])
          clear hdd hk0
          obtain ⟨L, hL⟩ : ∃ L, p.length = L + 1 := ⟨p.length - 1, by omega⟩
          have hown := Hown.out
          have hno := owns_noblk hown Hblk.out hne
          have hno4 := owns_noblk hown Hblk4.out hne
          rw [hL] at hown hc0 hno hno4
          obtain ⟨g6, rfl⟩ : ∃ g6, a5 = some ⟨g6, 0, none⟩ := by
            rcases hown.2 with ⟨h, h0⟩ | ⟨g, cap, cur, hv, _⟩
            · omega
            · simp only [Value.slice.injEq] at hv
              exact ⟨g, hv.1⟩
          have hg62 : w.heap.size + 2 ≠ g6 := fun e => hno (by simp [Value.ownBlock, e])
          have hg60 : w.heap.size ≠ g6 := fun e => hno4 (by simp [Value.ownBlock, e])
          obtain ⟨x, hx⟩ : ∃ x, p.getD L 0 = x := ⟨_, rfl⟩
          have hxb : 0 ≤ x ∧ x ≤ 12 := by
            have h := partsTo_bd r k x (by rw [← Hp.out, ← hx]; simp [show L < p.length by omega])
            omega
          have hcell : wr.cell? ⟨g6, L, none⟩ = some (.int .i64 x) := by
            rw [hown.cellAt L (by omega)]
            rw [← hx]
            simp [show L < p.length by omega]
          have hfr := hown.frozenAt L
          have hsto := hown.stored L (.int .i64 (x + 1))
          rw [show (ints p).set L (.int .i64 (x + 1)) = ints (incLast p) by
            have h := inc_store (xs := p) (by omega)
            rw [hL, show L + 1 - 1 = L by omega, hx] at h
            exact h] at hsto
          have Hsto := Lib.hid hsto
          have Hb7 := Lib.hid (Hb5.out.grown hsto.2 Hb5.out.size (fun b hb => by have := (hown.lt b hb).1; omega))
          have Hblk7 := Lib.hid (Hblk.out.other (i := L) hg62 (.int .i64 (x + 1)))
          have Hblk47 := Lib.hid (Hblk4.out.other (i := L) hg60 (.int .i64 (x + 1)))
          have HL := Lib.hid hL
          clear hown hsto hx hno hno4
          go_wp2
          go_quiet (fail)
          go_wp2
          go_roundw
          case rel => exact ⟨k + 1, by omega, by go_num, incLast p, Lib.hid (by rw [Hstp.out]), by rw [incLast_len]; omega, ⟨some ⟨g6, 0, none⟩, c5, Lib.hid (by rw [incLast_len, HL.out]; exact Hsto.out.1), Lib.hid (by rw [incLast_len]; exact Hblk7.out)⟩, Hblk47, Lib.hid (bdrewN Hb7.out _)⟩
          case measure => simp [intOf]; omega
        · have t3 : ((d0 : Int) == (d1 : Int)) = false := by simp; omega
          have t3' : (d0 == d1) = false := by simp [hdd]
          have Hstp := Lib.hid (show partsTo r (k + 1) = p ++ [1] by rw [Hst0.out, if_pos (by simp [hdd])])
          clear hdd hk0
          go_wp2
          go_quiet (fail)
          have hownq : (wr.drewN nq).ownsRow (w.heap.size + 1) 2 1 (.slice a5 p.length c5) p.length (ints p) := Hown.out
          have Hbq := Lib.hid (bdrewN Hb5.out nq)
          have hblkq : Blk (wr.drewN nq) (w.heap.size + 2) [.slice a5 p.length c5, .int .i64 st] 28 := Hblk.out
          have Hblkq := Lib.hid hblkq
          have Hblk4q := Lib.hid (show Blk (wr.drewN nq) w.heap.size [.slice none 0 0, .int .i64 0] 28 from Hblk4.out)
          obtain ⟨wq, hwq⟩ : ∃ wq, wr.drewN nq = wq := ⟨_, rfl⟩
          rw [hwq] at hownq Hbq Hblkq Hblk4q hblkq ⊢
          clear hwq
          have hq0 := hblkq.cell 0 _ rfl
          have hq1 := hblkq.cell 1 _ rfl
          have hqf := hblkq.frozen 0
          have hqz := hblkq.lt
          have hszq := Hbq.out.size
          clear hc0 hc1 hf0 hz hblkq
          go_wp2_with (at_builtin; refine wpList_app1 rfl _ _ 26 rfl (w.heap.size + 1) 2 _ 8 Tryd.underlying26 info_i64 (by decide) rfl _ p.length _ rfl (hownq.alloc _) wq.heap.size (.int .i64 1) rfl ?c1 rfl ?c2 ?c3 ?_)
          case c1 => exact cell_boxed rfl
          case c2 => omega
          case c3 => first | omega | (simp; omega)
          intro v6 w6 hown6 hgrow6
          have Hb6 := Lib.hid (below_app (Hbq.out.alloc (by omega) _) (hownq.alloc _) hgrow6 (Nat.le_succ _) (by simp; omega))
          have hno := owns_noblk hownq Hblkq.out hne
          have hno4 := owns_noblk hownq Hblk4q.out hne
          have Hblk6 := Lib.hid ((Hblkq.out.alloc (.cells #[.int .i64 1] 2)).grown hgrow6 (fun e => hno e.symm))
          have Hblk46 := Lib.hid ((Hblk4q.out.alloc (.cells #[.int .i64 1] 2)).grown hgrow6 (fun e => hno4 e.symm))
          have h60 := Hblk6.out.cell 0 _ rfl
          have h6f := Hblk6.out.frozen 0
          have h6z := Hblk6.out.lt
          obtain ⟨a6, c6, rfl⟩ := owns_slice hown6
          have Hown7 := Lib.hid (owns_setK hown6 (owns_noblk hown6 Hblk6.out hne) 0 (.slice a6 (p.length + 1) c6))
          have Hblk7 := Lib.hid (Hblk6.out.set 0 (.slice a6 (p.length + 1) c6))
          have Hblk47 := Lib.hid (Hblk46.out.other (g := w.heap.size + 2) (i := 0) (by omega) (.slice a6 (p.length + 1) c6))
          have Hb7 := Lib.hid (Hb6.out.setCell (p := ⟨w.heap.size + 2, 0, none⟩) (by show w.heap.size ≤ w.heap.size + 2; omega) (.slice a6 (p.length + 1) c6))
          clear hownq hown6 hgrow6 hno hno4 hq0 hq1 hqf hqz
          go_wp2
          go_roundw
          case rel => exact ⟨k + 1, by omega, by go_num, p ++ [1], Lib.hid (by rw [Hstp.out]), by simp; omega, ⟨a6, c6, Lib.hid (by simpa using Hown7.out), Lib.hid (by rw [List.length_append]; exact Hblk7.out)⟩, Hblk47, Hb7⟩
          case measure => simp [intOf]; omega
    · have hkN : k = N := by omega
      have Hf := Lib.hid (show p = partsW r by rw [Hp.out, partsW, Hr.out, hkN])
      have h40 := Hblk4.out.cell 0 _ rfl
      have h41 := Hblk4.out.cell 1 _ rfl
      have hf40 := Hblk4.out.frozen 0
      have hf41 := Hblk4.out.frozen 1
      have hz4 := Hblk4.out.lt
      have Hblk6 := (Hblk4.out.set 0 (.slice a5 p.length c5)).set 1 (.int .i64 st)
      have h0 := Hblk6.cell 0 _ rfl
      have h1 := Hblk6.cell 1 _ rfl
      have hno4 := owns_noblk Hown.out Hblk4.out hne
      clear hkN Hblk6
      go_wp2
      rw [← Hf.out]
      refine bodyPost_ret (v := .agg #[.slice a5 p.length c5, .int .i64 st]) (by simp [results, Tryd.results34, go_sem, h0, h1]) rfl ⟨_, rfl, ?_, ?_⟩
      · have ho := Own.of (e := 2) (vs := ints p) Hown.out
        exact ((ho.set (by omega) 0 _).set (by omega) 1 _).mono (by omega) (by simp)
      · exact (Hb5.out.setCell (Nat.le_refl _) _).setCell (Nat.le_refl _) _
end Go.Proofs.YtggbnibdpkblgaaDoor
