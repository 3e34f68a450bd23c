/-
  The program's search for an order of rods: walks.
-/
import Derived.Test.YtdbgicfbigjmmaaLaidL
import Derived.BigRegion
namespace Go.Proofs.Ytdbgicfbigjmmaa
open Go.RowKit
set_option linter.unusedVariables false

set_option maxHeartbeats 4000000 in
theorem srchI_any (W0 : World) (st be : Int) (a : Option Addr) (n c : Nat) (xs : List Int) (hst : 3 ≤ st ∧ st ≤ 60) (hok : okRods xs = true) (hr : RV W0 a n c (ints xs)) (q : PS) (hq : PSok q) :
    ∀ (f : Nat) (o : List Nat) (S : SS) (vo vl bv : Value) (w : World), o.length + f = n → (∀ x ∈ o, x < n) → CI W0 q st be a n c xs o S vo vl bv w →
      Calls Try.prog 39 #[.pointer (some ⟨q.L, 0, none⟩), .pointer (some ⟨q.S, 0, none⟩), .pointer (some ⟨q.A, 0, none⟩), .pointer (some ⟨q.B, 0, none⟩), .pointer (some ⟨q.O, 0, none⟩), .pointer (some ⟨q.R, 0, none⟩), .pointer (some ⟨q.E, 0, none⟩), .pointer (some ⟨q.U, 0, none⟩), .pointer (some ⟨q.P, 0, none⟩)] w
        fun e w' => e = .returned (.tuple #[]) ∧ ∃ vo' vl' bv', CI W0 q st be a n c xs o (srch (meas st xs be) n f o S) vo' vl' bv' w' := by
  have Hmono := Lib.hid (fun o k => meas_mono st xs be o k)
  have h7 : n ≤ 7 := by have := (okRods_iff.1 hok).2; rw [hr.lenI] at this; exact this
  have Hr := Lib.hid hr
  have Hok := Lib.hid hok
  have Hxl := Lib.hid hr.lenI
  have hnc : n ≤ c := hr.2.1
  have Hq := Lib.hid hq
  clear hr hok hq
  intro f
  induction f with
  | zero => exact fun o S vo vl bv w hlen hlt hC => srchI_zero W0 st be a n c xs hst Hok.out Hr.out q Hq.out o S vo vl bv w (by omega) hlt hC
  | succ f ih =>
    intro o S vo vl bv w hlen hlt hC
    have hS1 := hC.b1.1
    have hS2 := hC.b1.2
    have HC := Lib.hid hC
    have Hlt := Lib.hid hlt
    have cL := hC.l.cell 0 _ rfl
    have cS := hC.s.cell 0 _ rfl
    have cA := hC.fa.cell 0 _ rfl
    have cB := hC.b.cell 0 _ rfl
    obtain ⟨m, Hm⟩ : ∃ m, Hid (m = meas st xs be o) := ⟨_, rfl⟩
    have hm7 : m ≤ 7 := by rw [Hm.out]; exact meas_le (by omega)
    obtain ⟨al, cl, hvl⟩ := owns_slice hC.rl
    subst hvl
    have Hrl := Lib.hid ((owns_read hC.rl).1)
    have Hab := Lib.hid (fun W h => aboves_any st be al o.length cl (laidIn xs o) W hst (laidIn_ok Hok.out (by omega) (by rw [Hxl.out]; exact hlt)) h)
    have Hml := Lib.hid (show (abovesTo (places (laidIn xs o)) st be (places (laidIn xs o)).length).length = m by rw [Hm.out]; rfl)
    clear hC hlt
    have HS0 := Lib.hid (show w.cell? ⟨q.L, 0, none⟩ = some (.int .i64 S.2) ∧ w.cell? ⟨q.S, 0, none⟩ = some (.int .i64 st) ∧ w.cell? ⟨q.A, 0, none⟩ = some (.slice al o.length cl) ∧ w.cell? ⟨q.B, 0, none⟩ = some (.int .i64 be) from ⟨cL, cS, cA, cB⟩)
    have HB0 := Lib.hid (Below.refl w.heap.size w)
    go_enter Try.func39, Try.ntmps39
    go_wp2_with fail
    go_cut [20] (fun sq wx => sq = .bool (decide (0 ≤ S.2 ∧ S.2 ≤ (m : Int))) ∧ Below w.heap.size w wx)
    case first =>
      by_cases h0 : 0 ≤ S.2
      · have d0 : decide (0 ≤ S.2) = true := by simp [h0]
        go_region_held3 (fun w' => w'.cell? ⟨q.L, 0, none⟩ = some (.int .i64 S.2) ∧ w'.cell? ⟨q.S, 0, none⟩ = some (.int .i64 st) ∧ w'.cell? ⟨q.A, 0, none⟩ = some (.slice al o.length cl) ∧ w'.cell? ⟨q.B, 0, none⟩ = some (.int .i64 be)) (first | exact HS0.out | exact HS.out | exact k4_alloc _ (by assumption) | assumption) (first | (go_at_call 30; (with_reducible refine (Hab.out _ (Hrl.out.below (by repeat' (first | (with_reducible exact HB0.out) | (with_reducible exact Below.refl _ _) | (with_reducible refine bdrewN ?_ _) | (with_reducible refine Below.drew ?_) | (with_reducible refine Below.setCell ?_ ?_ _) | (with_reducible refine Below.alloc ?_ ?_ _) | omega | (simp; done) | (simp; omega))))).mono ?_); rintro e w1 ⟨rfl, hb1⟩; rw [Hml.out]; have HS := Lib.hid (k4_below (by assumption) hb1); have HB1 := Lib.hid (show Below w.heap.size w w1 from bundrew hb1); clear hb1))
        all_goals
          go_wp2_with fail
          go_meet
          exact ⟨by first | (simp [h0]; done) | (simp; omega), HB1.out⟩
      · have d0 : decide (0 ≤ S.2) = false := by simp [h0]
        go_quiet (fail)
        go_wp2_with fail
        go_meet
        exact ⟨by simp; omega, bdrewN HB0.out _⟩
    obtain ⟨wc1, rfl⟩ : ∃ x : World, x = wc := ⟨_, rfl⟩
    obtain ⟨rfl, hB⟩ := hcut
    have hC1 := HC.out.below' hB
    clear HC hB HS0 HB0 cL cS cA cB Hrl
    by_cases hp : 0 ≤ S.2 ∧ S.2 ≤ (m : Int)
    · have Hs := Lib.hid (srch_same Hmono.out n (f + 1) o S hp.1 (by rw [← Hm.out]; exact hp.2))
      have t0 : decide (0 ≤ S.2 ∧ S.2 ≤ (m : Int)) = true := by simp [hp]
      rw [t0]
      have HC1 := Lib.hid hC1
      clear hp hC1
      go_wp2
      (first | go_end0 | (simp only [Exit.inBlock, Exit.then]; refine bodyPost_ret (results_none rfl _ _ _) rfl ?_) | refine bodyPost_ret (results_none rfl _ _ _) rfl ?_)
      rw [Hs.out]
      exact ⟨rfl, _, _, _, HC1.out⟩
    · have t0 : decide (0 ≤ S.2 ∧ S.2 ≤ (m : Int)) = false := by simp only [decide_eq_false_iff_not]; exact hp
      rw [t0]
      obtain ⟨ao, co, hvo⟩ := owns_slice hC1.ro
      subst hvo
      have cO := hC1.fo.cell 0 _ rfl
      have cR := hC1.r.cell 0 _ rfl
      have hne : ((o.length : Int) == (n : Int)) = false := by simp; omega
      have HC1 := Lib.hid hC1
      clear hp hC1 t0
      go_wp2_with fail
      go_loopw [35] (fun i wr => ∃ k : Nat, k ≤ n ∧ i = .int .i64 k ∧ ∃ T vo vl bv, Hid (T = srchTo (srch (meas st xs be) n f) o S k) ∧ Hid (CI W0 q st be a n c xs o T vo vl bv wr)) (fun i _ => n - (intOf i).toNat)
      case atStart => exact ⟨0, Nat.zero_le _, rfl, S, _, _, _, Lib.hid rfl, HC1⟩
      case round =>
        obtain ⟨k, hk, rfl, T, vo, vl, bv, HT, HCr⟩ := hrel
        have hC := HCr.out
        have cR := hC.r.cell 0 _ rfl
        have cU := hC.u.cell 0 _ rfl
        by_cases hlt : k < n
        · have hkn : (k : Int) < n := by omega
          obtain ⟨b, o', rfl, hb, hc⟩ := Hr.out.cell (show n ≠ 0 by omega)
          have e1 := (hC.below.cell (p := ⟨b, o' + k, none⟩) (by rw [hC.size]; exact hb)).trans (hc k hlt)
          obtain ⟨x, Hx⟩ : ∃ x, Hid (x = xs.getD k 0) := ⟨_, rfl⟩
          rw [← Hx.out] at e1
          have cG := hC.g.cell k _ (usedV_get hlt)
          have cP := hC.p.cell 0 _ rfl
          by_cases hmem : k ∈ o
          · have Hn := Lib.hid (show T = srchTo (srch (meas st xs be) n f) o S (k + 1) by rw [srchTo, if_pos hmem]; exact HT.out)
            rw [show decide (k ∈ o) = true by simp [hmem]] at cG
            clear hmem hC hc
            go_wp2
            go_roundw
            case rel => exact ⟨k + 1, by omega, by go_num, T, _, _, _, Hn, HCr⟩
            case measure => simp [intOf]; omega
          · have Hn := Lib.hid (show srch (meas st xs be) n f (o ++ [k]) T = srchTo (srch (meas st xs be) n f) o S (k + 1) by rw [srchTo, if_neg hmem, HT.out])
            rw [show decide (k ∈ o) = false by simp [hmem]] at cG
            have Hmem := Lib.hid hmem
            clear hmem hc
            obtain ⟨a1, c1, hvo⟩ := owns_slice hC.ro
            obtain ⟨a2, c2, hvl⟩ := owns_slice hC.rl
            subst hvo hvl
            have hCd := hC.drew
            have hgn : (k : Int) < (n : Int) := by omega
            clear hC HCr
            go_wp2_with fail
            clear cR cU cG cP e1
            go_cut [9] (fun s9 wx => s9 = .int .i64 k ∧ ∃ g1 cap1 g2 cap2, CI W0 q st be (some ⟨b, o', none⟩) n c xs (o ++ [k]) T (.slice (some ⟨g1, 0, none⟩) (o.length + 1) cap1) (.slice (some ⟨g2, 0, none⟩) (o.length + 1) cap2) bv wx)
            case first =>
              refine wp_region_head (fun w' => w'.cell? ⟨q.U, 0, none⟩ = some (.slice (some ⟨q.G, 0, none⟩) n n) ∧ w'.cell? ⟨q.O, 0, none⟩ = some (.slice a1 o.length c1) ∧ w'.cell? ⟨q.A, 0, none⟩ = some (.slice a2 o.length c2)) 11 (by kernel_rfl) (by decide) ?_
              generalize wr.drew = wd at hCd ⊢
              have HS0 := Lib.hid (And.intro (hCd.u.cell 0 _ rfl) (And.intro (hCd.fo.cell 0 _ rfl) (hCd.fa.cell 0 _ rfl)))
              have HCd := Lib.hid hCd
              have hZd : q.Z ≤ wd.heap.size := by have z := hCd.below.size; have z2 := hCd.size; omega
              have hqGO : q.G ≠ q.O := Hq.out.og.symm
              have hqGA : q.G ≠ q.A := Hq.out.ag.symm
              have hqOA : q.O ≠ q.A := Hq.out.oa
              clear hCd
              refine wpHead_take (i := 0) (v := ?_) rfl (by kernel_rfl) (fun _ _ _ h => h) (Or.inl ⟨by rfl, ?_⟩) HS0.out ?_
              rotate_left
              · intro w hSw; (try dsimp only at hSw); go_simp; (try with_reducible rfl)
              (try simp only [Act.put, List.setIfInBounds_toArray, List.set_cons_zero, List.set_cons_succ])
              refine wpHead_take (i := 1) (v := ?_) rfl (by kernel_rfl) (fun _ _ _ h => h) (Or.inl ⟨by rfl, ?_⟩) HS0.out ?_
              rotate_left
              · intro w hSw; (try dsimp only at hSw); go_simp; (try with_reducible rfl)
              (try simp only [Act.put, List.setIfInBounds_toArray, List.set_cons_zero, List.set_cons_succ])
              refine wpHead_take (i := 2) (v := ?_) rfl (by kernel_rfl) (fun _ _ _ h => h) (Or.inl ⟨by rfl, ?_⟩) HS0.out ?_
              rotate_left
              · intro w hSw; (try dsimp only at hSw); go_simp; (try with_reducible rfl)
              (try simp only [Act.put, List.setIfInBounds_toArray, List.set_cons_zero, List.set_cons_succ])
              refine wpHead_take (i := 3) (v := ?_) rfl (by kernel_rfl) (fun _ _ _ h => h) (Or.inl ⟨by rfl, ?_⟩) HS0.out ?_
              rotate_left
              · intro w hSw; (try dsimp only at hSw); go_simp; (try with_reducible rfl)
              (try simp only [Act.put, List.setIfInBounds_toArray, List.set_cons_zero, List.set_cons_succ])
              refine wpHead_take (i := 6) (v := ?_) rfl (by kernel_rfl) (fun _ _ _ h => h) (Or.inl ⟨by rfl, ?_⟩) HS0.out ?_
              rotate_left
              · intro w hSw; (try dsimp only at hSw); go_simp; (try with_reducible rfl)
              (try simp only [Act.put, List.setIfInBounds_toArray, List.set_cons_zero, List.set_cons_succ])
              refine wpHead_take (i := 7) (v := ?_) rfl (by kernel_rfl) (fun _ _ _ h => h) (Or.inl ⟨by rfl, ?_⟩) HS0.out ?_
              rotate_left
              · intro w hSw; (try dsimp only at hSw); go_simp; (try with_reducible rfl)
              (try simp only [Act.put, List.setIfInBounds_toArray, List.set_cons_zero, List.set_cons_succ])
              refine wpHead_two (i := 4) (j := 8) (by kernel_rfl) (by decide) (by decide) rfl rfl (fun K hK => ?_) (fun K hK => ?_)
              · go_simp
                refine hK.out _ _ (k3_alloc _ HS0.out) ?_
                clear hK K
                (try simp only [Act.put, List.setIfInBounds_toArray, List.set_cons_zero, List.set_cons_succ])
                refine wpHead_two (i := 5) (j := 8) (by kernel_rfl) (by decide) (by decide) rfl rfl (fun K hK => ?_) (fun K hK => ?_)
                · refine step_app1a rfl _ _ 22 rfl q.Z 2 _ 8 Try.underlying22 info_i64 (by decide) rfl (.slice a1 o.length c1) o.length (ints (nats o)) rfl (HCd.out.alloc _).ro _ (.int .i64 k) rfl (cell_boxed rfl) rfl (by omega) (by first | omega | (simp; omega)) ?_
                  intro g1 cap1 w1 ho1 hg1 hat1
                  have hA := Lib.hid ((HCd.out.alloc _).stepA ho1 hg1 hat1)
                  have hZ1 : q.Z ≤ w1.heap.size := by have z := hA.out.cb.below.size; have z2 := hA.out.cb.size; omega
                  have hSA := Lib.hid (And.intro (hA.out.cb.u.cell 0 _ rfl) (And.intro (hA.out.cb.fo.cell 0 _ rfl) (hA.out.cb.fa.cell 0 _ rfl)))
                  clear ho1 hg1 hat1
                  refine hK.out _ _ (hSA.out) ?_
                  clear hK K
                  (try simp only [Act.put, List.setIfInBounds_toArray, List.set_cons_zero, List.set_cons_succ])
                  refine wpHead_one (i := 8) (by kernel_rfl) (by decide) rfl (fun K hK => ?_)
                  go_simp
                  refine hK.out _ _ (k3_alloc _ hSA.out) ?_
                  clear hK K
                  (try simp only [Act.put, List.setIfInBounds_toArray, List.set_cons_zero, List.set_cons_succ])
                  refine wpHead_one (i := 9) (by kernel_rfl) (by decide) rfl (fun K hK => ?_)
                  refine step_app1a rfl _ _ 22 rfl q.Z 2 _ 8 Try.underlying22 info_i64 (by decide) rfl (.slice a2 o.length c2) o.length (ints (laidIn xs o)) rfl (hA.out.alloc _).rl _ (.int .i64 x) rfl (cell_boxed rfl) rfl (by omega) (by first | omega | (simp; omega)) ?_
                  intro g2 cap2 w2 ho2 hg2 hat2
                  rw [Hx.out] at ho2
                  have hBB := (hA.out.alloc _).stepB Hq.out hlt ho2 hg2 hat2
                  have hcb := hBB.1
                  have hSB := Lib.hid (And.intro (hcb.u.cell 0 _ rfl) (And.intro (hcb.fo.cell 0 _ rfl) (hcb.fa.cell 0 _ rfl)))
                  clear ho2 hg2 hat2
                  refine hK.out _ _ (hSB.out) ?_
                  clear hK K
                  (try simp only [Act.put, List.setIfInBounds_toArray, List.set_cons_zero, List.set_cons_succ])
                  refine wpHead_take (i := 10) (v := ?_) rfl (by kernel_rfl) (fun _ _ _ h => h) (Or.inl ⟨by rfl, ?_⟩) hSB.out ?_
                  rotate_left
                  · intro w hSw; (try dsimp only at hSw); go_simp; (try with_reducible rfl)
                  (try simp only [Act.put, List.setIfInBounds_toArray, List.set_cons_zero, List.set_cons_succ])
                  refine wpHead_done (by kernel_rfl) ?_
                  simp only [List.drop_succ_cons, List.drop_zero]
                  have d1 := hcb.g.cell k _ (usedV_get hlt)
                  have d2 := hcb.fo.cell 0 _ rfl
                  have d3 := hcb.fa.cell 0 _ rfl
                  have f1 := hcb.g.frozen k
                  have f2 := hcb.fo.frozen 0
                  have f3 := hcb.fa.frozen 0
                  have HBB := Lib.hid hBB.2
                  clear hcb hBB
                  go_wp2_with fail
                  go_meet
                  exact ⟨rfl, g1, cap1, g2, cap2, HBB.out⟩
                · go_simp
                  refine hK.out _ _ (k3_alloc _ (k3_alloc _ HS0.out)) ?_
                  clear hK K
                  (try simp only [Act.put, List.setIfInBounds_toArray, List.set_cons_zero, List.set_cons_succ])
                  refine wpHead_one (i := 5) (by kernel_rfl) (by decide) rfl (fun K hK => ?_)
                  refine step_app1a rfl _ _ 22 rfl q.Z 2 _ 8 Try.underlying22 info_i64 (by decide) rfl (.slice a1 o.length c1) o.length (ints (nats o)) rfl ((HCd.out.alloc _).alloc _).ro _ (.int .i64 k) rfl (cell_boxed2 rfl) rfl (by omega) (by first | omega | (simp; omega)) ?_
                  intro g1 cap1 w1 ho1 hg1 hat1
                  have hA := Lib.hid (((HCd.out.alloc _).alloc _).stepA ho1 hg1 hat1)
                  have hZ1 : q.Z ≤ w1.heap.size := by have z := hA.out.cb.below.size; have z2 := hA.out.cb.size; omega
                  have hSA := Lib.hid (And.intro (hA.out.cb.u.cell 0 _ rfl) (And.intro (hA.out.cb.fo.cell 0 _ rfl) (hA.out.cb.fa.cell 0 _ rfl)))
                  have hp := pendg1 hg1 (fun e => by have q1 := (HCd.out.ro.lt _ e).2; first | omega | (simp at q1; done) | (simp at q1; omega))
                  clear ho1 hg1 hat1
                  refine hK.out _ _ (hSA.out) ?_
                  clear hK K
                  (try simp only [Act.put, List.setIfInBounds_toArray, List.set_cons_zero, List.set_cons_succ])
                  refine wpHead_one (i := 9) (by kernel_rfl) (by decide) rfl (fun K hK => ?_)
                  refine step_app1a rfl _ _ 22 rfl q.Z 2 _ 8 Try.underlying22 info_i64 (by decide) rfl (.slice a2 o.length c2) o.length (ints (laidIn xs o)) rfl (hA.out).rl _ (.int .i64 x) rfl (by first | exact hp | simpa using hp) rfl (by omega) (by first | omega | (simp; omega)) ?_
                  intro g2 cap2 w2 ho2 hg2 hat2
                  rw [Hx.out] at ho2
                  have hBB := (hA.out).stepB Hq.out hlt ho2 hg2 hat2
                  have hcb := hBB.1
                  have hSB := Lib.hid (And.intro (hcb.u.cell 0 _ rfl) (And.intro (hcb.fo.cell 0 _ rfl) (hcb.fa.cell 0 _ rfl)))
                  clear ho2 hg2 hat2
                  refine hK.out _ _ (hSB.out) ?_
                  clear hK K
                  (try simp only [Act.put, List.setIfInBounds_toArray, List.set_cons_zero, List.set_cons_succ])
                  refine wpHead_take (i := 10) (v := ?_) rfl (by kernel_rfl) (fun _ _ _ h => h) (Or.inl ⟨by rfl, ?_⟩) hSB.out ?_
                  rotate_left
                  · intro w hSw; (try dsimp only at hSw); go_simp; (try with_reducible rfl)
                  (try simp only [Act.put, List.setIfInBounds_toArray, List.set_cons_zero, List.set_cons_succ])
                  refine wpHead_done (by kernel_rfl) ?_
                  simp only [List.drop_succ_cons, List.drop_zero]
                  have d1 := hcb.g.cell k _ (usedV_get hlt)
                  have d2 := hcb.fo.cell 0 _ rfl
                  have d3 := hcb.fa.cell 0 _ rfl
                  have f1 := hcb.g.frozen k
                  have f2 := hcb.fo.frozen 0
                  have f3 := hcb.fa.frozen 0
                  have HBB := Lib.hid hBB.2
                  clear hcb hBB
                  go_wp2_with fail
                  go_meet
                  exact ⟨rfl, g1, cap1, g2, cap2, HBB.out⟩
              · go_simp
                refine hK.out _ _ (k3_alloc _ HS0.out) ?_
                clear hK K
                (try simp only [Act.put, List.setIfInBounds_toArray, List.set_cons_zero, List.set_cons_succ])
                refine wpHead_one (i := 4) (by kernel_rfl) (by decide) rfl (fun K hK => ?_)
                go_simp
                refine hK.out _ _ (k3_alloc _ (k3_alloc _ HS0.out)) ?_
                clear hK K
                (try simp only [Act.put, List.setIfInBounds_toArray, List.set_cons_zero, List.set_cons_succ])
                refine wpHead_one (i := 5) (by kernel_rfl) (by decide) rfl (fun K hK => ?_)
                refine step_app1a rfl _ _ 22 rfl q.Z 2 _ 8 Try.underlying22 info_i64 (by decide) rfl (.slice a1 o.length c1) o.length (ints (nats o)) rfl ((HCd.out.alloc _).alloc _).ro _ (.int .i64 k) rfl (by first | exact cell_boxed rfl | exact cell_boxed (by simp)) rfl (by omega) (by first | omega | (simp; omega)) ?_
                intro g1 cap1 w1 ho1 hg1 hat1
                have hA := Lib.hid (((HCd.out.alloc _).alloc _).stepA ho1 hg1 hat1)
                have hZ1 : q.Z ≤ w1.heap.size := by have z := hA.out.cb.below.size; have z2 := hA.out.cb.size; omega
                have hSA := Lib.hid (And.intro (hA.out.cb.u.cell 0 _ rfl) (And.intro (hA.out.cb.fo.cell 0 _ rfl) (hA.out.cb.fa.cell 0 _ rfl)))
                have hp := pendg2 hg1 (fun e => by have q1 := (HCd.out.ro.lt _ e).2; first | omega | (simp at q1; done) | (simp at q1; omega))
                clear ho1 hg1 hat1
                refine hK.out _ _ (hSA.out) ?_
                clear hK K
                (try simp only [Act.put, List.setIfInBounds_toArray, List.set_cons_zero, List.set_cons_succ])
                refine wpHead_one (i := 9) (by kernel_rfl) (by decide) rfl (fun K hK => ?_)
                refine step_app1a rfl _ _ 22 rfl q.Z 2 _ 8 Try.underlying22 info_i64 (by decide) rfl (.slice a2 o.length c2) o.length (ints (laidIn xs o)) rfl (hA.out).rl _ (.int .i64 x) rfl (by first | exact hp | simpa using hp) rfl (by omega) (by first | omega | (simp; omega)) ?_
                intro g2 cap2 w2 ho2 hg2 hat2
                rw [Hx.out] at ho2
                have hBB := (hA.out).stepB Hq.out hlt ho2 hg2 hat2
                have hcb := hBB.1
                have hSB := Lib.hid (And.intro (hcb.u.cell 0 _ rfl) (And.intro (hcb.fo.cell 0 _ rfl) (hcb.fa.cell 0 _ rfl)))
                clear ho2 hg2 hat2
                refine hK.out _ _ (hSB.out) ?_
                clear hK K
                (try simp only [Act.put, List.setIfInBounds_toArray, List.set_cons_zero, List.set_cons_succ])
                refine wpHead_take (i := 10) (v := ?_) rfl (by kernel_rfl) (fun _ _ _ h => h) (Or.inl ⟨by rfl, ?_⟩) hSB.out ?_
                rotate_left
                · intro w hSw; (try dsimp only at hSw); go_simp; (try with_reducible rfl)
                (try simp only [Act.put, List.setIfInBounds_toArray, List.set_cons_zero, List.set_cons_succ])
                refine wpHead_done (by kernel_rfl) ?_
                simp only [List.drop_succ_cons, List.drop_zero]
                have d1 := hcb.g.cell k _ (usedV_get hlt)
                have d2 := hcb.fo.cell 0 _ rfl
                have d3 := hcb.fa.cell 0 _ rfl
                have f1 := hcb.g.frozen k
                have f2 := hcb.fo.frozen 0
                have f3 := hcb.fa.frozen 0
                have HBB := Lib.hid hBB.2
                clear hcb hBB
                go_wp2_with fail
                go_meet
                exact ⟨rfl, g1, cap1, g2, cap2, HBB.out⟩
            obtain ⟨wc1, rfl⟩ : ∃ x : World, x = wc := ⟨_, rfl⟩
            obtain ⟨rfl, g1, cap1, g2, cap2, hC2⟩ := hcut
            have cP := hC2.p.cell 0 _ rfl
            unfold FV at cP
            have Hih := Lib.hid (ih (o ++ [k]) T _ _ _ _ (by simp; omega) (by
              intro y hy
              rcases List.mem_append.1 hy with h | h
              · exact Hlt.out y h
              · simp at h; omega) hC2)
            clear hC2
            go_wp2_with (go_at_call 39; (with_reducible refine Hih.out.mono ?_); rintro e w5 ⟨rfl, vo5, vl5, bv5, hC5⟩; obtain ⟨g5, c5, hv5, hcap5⟩ := row_form hC5.ro (by simp); obtain ⟨g6, c6, hv6, hcap6⟩ := row_form hC5.rl (by simp); subst hv5 hv6; have HC5 := Lib.hid hC5; clear hC5)
            have hC5 := HC5.out
            simp only [List.length_append, List.length_singleton] at hC5 hcap5 hcap6
            have d0 := hC5.u.cell 0 _ rfl
            have d1 := hC5.g.cell k _ (usedV_get hlt)
            have d2 := hC5.fo.cell 0 _ rfl
            have d3 := hC5.fa.cell 0 _ rfl
            have f1 := hC5.g.frozen k
            have f2 := hC5.fo.frozen 0
            have f3 := hC5.fa.frozen 0
            have e1 : (((o.length + 1 : Nat) : Int) - 1) = (o.length : Int) := by omega
            clear cP
            have HC6 := Lib.hid (hC5.pop Hq.out hlt Hmem.out)
            clear hC5 HC5 Hih
            have hqGO : q.G ≠ q.O := Hq.out.og.symm
            have hqGA : q.G ≠ q.A := Hq.out.ag.symm
            have hqOA : q.O ≠ q.A := Hq.out.oa
            have hqAO : q.A ≠ q.O := Hq.out.oa.symm
            have hqUG : q.U ≠ q.G := Hq.out.ug
            have hb5 : (o.length : Int) ≤ c5 := by omega
            have hb6 : (o.length : Int) ≤ c6 := by omega
            go_wp2_with fail
            go_region
            all_goals
              go_wp2
              go_roundw
              case rel => exact ⟨k + 1, by omega, by go_num, _, _, _, _, Hn, Lib.hid HC6.out.drew⟩
              case measure => simp [intOf]; omega
        · have hkn : k = n := by omega
          have Hf := Lib.hid (show srch (meas st xs be) n (f + 1) o S = T by rw [HT.out, hkn]; rfl)
          clear hC hkn
          go_wp2
          (first | go_end0 | (simp only [Exit.inBlock, Exit.then]; refine bodyPost_ret (results_none rfl _ _ _) rfl ?_) | refine bodyPost_ret (results_none rfl _ _ _) rfl ?_)
          rw [Hf.out]
          exact ⟨rfl, _, _, _, HCr.out⟩
end Go.Proofs.Ytdbgicfbigjmmaa
