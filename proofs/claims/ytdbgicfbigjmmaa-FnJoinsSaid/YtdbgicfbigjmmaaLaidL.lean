/-
  The program's search for an order of rods: where all rods are laid.
-/
import Derived.Test.YtdbgicfbigjmmaaLaidI
namespace Go.Proofs.Ytdbgicfbigjmmaa
open Go.RowKit
set_option linter.unusedVariables false

theorem row_form {w : World} {base m : Nat} {e : TypeId} {v : Value} {vs : List Value} (h : w.ownsRow base e 1 v m vs) (hm : m ≠ 0) : ∃ g cap, v = .slice (some ⟨g, 0, none⟩) m cap ∧ m ≤ cap := by
  rcases h.2 with ⟨_, h2⟩ | ⟨g, cap, cur, hv, _, _, h3, _⟩
  · exact (hm h2).elim
  · exact ⟨g, cap, hv, h3⟩
theorem k3_below {A B C : Addr} {u v x : Value} {cur w1 : World} (h : cur.cell? A = some u ∧ cur.cell? B = some v ∧ cur.cell? C = some x) (hb : Below cur.heap.size cur w1) : w1.cell? A = some u ∧ w1.cell? B = some v ∧ w1.cell? C = some x := ⟨pendb h.1 hb, pendb h.2.1 hb, pendb h.2.2 hb⟩
theorem k3_alloc {A B C : Addr} {u v x : Value} {cur : World} (o : Obj) (h : cur.cell? A = some u ∧ cur.cell? B = some v ∧ cur.cell? C = some x) : (cur.alloc o).cell? A = some u ∧ (cur.alloc o).cell? B = some v ∧ (cur.alloc o).cell? C = some x := k3_below h ((Below.refl _ _).alloc (Nat.le_refl _) o)
theorem k4_below {A B C D : Addr} {u v x y : Value} {cur w1 : World} (h : cur.cell? A = some u ∧ cur.cell? B = some v ∧ cur.cell? C = some x ∧ cur.cell? D = some y) (hb : Below cur.heap.size cur w1) : w1.cell? A = some u ∧ w1.cell? B = some v ∧ w1.cell? C = some x ∧ w1.cell? D = some y := ⟨pendb h.1 hb, pendb h.2.1 hb, pendb h.2.2.1 hb, pendb h.2.2.2 hb⟩
theorem k4_set {A B C D : Addr} {u v x y z : Value} {cur : World} {e i : Nat} (h : cur.cell? A = some u ∧ cur.cell? B = some v ∧ cur.cell? C = some x ∧ cur.cell? D = some y) (h1 : A.block ≠ e) (h2 : B.block ≠ e) (h3 : C.block ≠ e) (h4 : D.block ≠ e) :
    (cur.setCell ⟨e, i, none⟩ z).cell? A = some u ∧ (cur.setCell ⟨e, i, none⟩ z).cell? B = some v ∧ (cur.setCell ⟨e, i, none⟩ z).cell? C = some x ∧ (cur.setCell ⟨e, i, none⟩ z).cell? D = some y := by
  rw [World.cell?_setCell_far _ _ _ _ (Ne.symm h1), World.cell?_setCell_far _ _ _ _ (Ne.symm h2), World.cell?_setCell_far _ _ _ _ (Ne.symm h3), World.cell?_setCell_far _ _ _ _ (Ne.symm h4)]
  exact h
theorem k4_alloc {A B C D : Addr} {u v x y : Value} {cur : World} (o : Obj) (h : cur.cell? A = some u ∧ cur.cell? B = some v ∧ cur.cell? C = some x ∧ cur.cell? D = some y) : (cur.alloc o).cell? A = some u ∧ (cur.alloc o).cell? B = some v ∧ (cur.alloc o).cell? C = some x ∧ (cur.alloc o).cell? D = some y := k4_below h ((Below.refl _ _).alloc (Nat.le_refl _) o)

set_option maxHeartbeats 4000000 in
theorem srchI_zero (W0 : World) (st be : Int) (a : Option Addr) (n c : Nat) (xs : List Int) (hst : 3 ≤ st ∧ st ≤ 60) (hok : okRods xs = true) (hr : RV W0 a n c (ints xs)) (q : PS) (hq : PSok q) (o : List Nat) (S : SS) (vo vl bv : Value) (w : World) (hlen : o.length = n) (hlt : ∀ x ∈ o, x < n) (hC : CI W0 q st be a n c xs o S vo vl bv w) :
          Calls Try.prog 39 #[.pointer (some ⟨q.L, 0, none⟩), .pointer (some ⟨q.S, 0, none⟩), .pointer (some ⟨q.A, 0, none⟩), .pointer (some ⟨q.B, 0, none⟩), .pointer (some ⟨q.O, 0, none⟩), .pointer (some ⟨q.R, 0, none⟩), .pointer (some ⟨q.E, 0, none⟩), .pointer (some ⟨q.U, 0, none⟩), .pointer (some ⟨q.P, 0, none⟩)] w
        fun e w' => e = .returned (.tuple #[]) ∧ ∃ vo' vl' bv', CI W0 q st be a n c xs o (srch (meas st xs be) n 0 o S) vo' vl' bv' w' := by
  have Hmono := Lib.hid (fun o k => meas_mono st xs be o k)
  have hlo : o.length ≤ n := Nat.le_of_eq hlen
  have hlo' : n ≤ o.length := Nat.le_of_eq hlen.symm
  clear hlen
  have h7 : n ≤ 7 := by have := (okRods_iff.1 hok).2; rw [hr.lenI] at this; exact this
  have Hr := Lib.hid hr
  have Hok := Lib.hid hok
  have Hxl := Lib.hid hr.lenI
  have hnc : n ≤ c := hr.2.1
  have Hq := Lib.hid hq
  clear hr hok hq
  have hS1 := hC.b1.1
  have hS2 := hC.b1.2
  have HC := Lib.hid hC
  have Hlt := Lib.hid hlt
  have cL := hC.l.cell 0 _ rfl
  have cS := hC.s.cell 0 _ rfl
  have cA := hC.fa.cell 0 _ rfl
  have cB := hC.b.cell 0 _ rfl
  obtain ⟨m, Hm⟩ : ∃ m, Hid (m = meas st xs be o) := ⟨_, rfl⟩
  have hm7 : m ≤ 7 := by rw [Hm.out]; exact meas_le (by omega)
  obtain ⟨al, cl, hvl⟩ := owns_slice hC.rl
  subst hvl
  have Hrl := Lib.hid ((owns_read hC.rl).1)
  have Hab := Lib.hid (fun W h => aboves_any st be al o.length cl (laidIn xs o) W hst (laidIn_ok Hok.out (by omega) (by rw [Hxl.out]; exact hlt)) h)
  have Hml := Lib.hid (show (abovesTo (places (laidIn xs o)) st be (places (laidIn xs o)).length).length = m by rw [Hm.out]; rfl)
  clear hC hlt
  have HS0 := Lib.hid (show w.cell? ⟨q.L, 0, none⟩ = some (.int .i64 S.2) ∧ w.cell? ⟨q.S, 0, none⟩ = some (.int .i64 st) ∧ w.cell? ⟨q.A, 0, none⟩ = some (.slice al o.length cl) ∧ w.cell? ⟨q.B, 0, none⟩ = some (.int .i64 be) from ⟨cL, cS, cA, cB⟩)
  have HB0 := Lib.hid (Below.refl w.heap.size w)
  go_enter Try.func39, Try.ntmps39
  go_wp2_with fail
  go_cut [20] (fun sq wx => sq = .bool (decide (0 ≤ S.2 ∧ S.2 ≤ (m : Int))) ∧ Below w.heap.size w wx)
  case first =>
    by_cases h0 : 0 ≤ S.2
    · have d0 : decide (0 ≤ S.2) = true := by simp [h0]
      go_region_held3 (fun w' => w'.cell? ⟨q.L, 0, none⟩ = some (.int .i64 S.2) ∧ w'.cell? ⟨q.S, 0, none⟩ = some (.int .i64 st) ∧ w'.cell? ⟨q.A, 0, none⟩ = some (.slice al o.length cl) ∧ w'.cell? ⟨q.B, 0, none⟩ = some (.int .i64 be)) (first | exact HS0.out | exact HS.out | exact k4_alloc _ (by assumption) | assumption) (first | (go_at_call 30; (with_reducible refine (Hab.out _ (Hrl.out.below (by repeat' (first | (with_reducible exact HB0.out) | (with_reducible exact Below.refl _ _) | (with_reducible refine bdrewN ?_ _) | (with_reducible refine Below.drew ?_) | (with_reducible refine Below.setCell ?_ ?_ _) | (with_reducible refine Below.alloc ?_ ?_ _) | omega | (simp; done) | (simp; omega))))).mono ?_); rintro e w1 ⟨rfl, hb1⟩; rw [Hml.out]; have HS := Lib.hid (k4_below (by assumption) hb1); have HB1 := Lib.hid (show Below w.heap.size w w1 from bundrew hb1); clear hb1))
      all_goals
        go_wp2_with fail
        go_meet
        exact ⟨by first | (simp [h0]; done) | (simp; omega), HB1.out⟩
    · have d0 : decide (0 ≤ S.2) = false := by simp [h0]
      go_quiet (fail)
      go_wp2_with fail
      go_meet
      exact ⟨by simp; omega, bdrewN HB0.out _⟩
  obtain ⟨wc1, rfl⟩ : ∃ x : World, x = wc := ⟨_, rfl⟩
  obtain ⟨rfl, hB⟩ := hcut
  have hC1 := HC.out.below' hB
  clear HC hB HS0 HB0 cL cS cA cB Hrl
  by_cases hp : 0 ≤ S.2 ∧ S.2 ≤ (m : Int)
  · have Hs := Lib.hid (srch_same Hmono.out n 0 o S hp.1 (by rw [← Hm.out]; exact hp.2))
    have t0 : decide (0 ≤ S.2 ∧ S.2 ≤ (m : Int)) = true := by simp [hp]
    rw [t0]
    have HC1 := Lib.hid hC1
    clear hp hC1
    go_wp2
    (first | go_end0 | (simp only [Exit.inBlock, Exit.then]; refine bodyPost_ret (results_none rfl _ _ _) rfl ?_) | refine bodyPost_ret (results_none rfl _ _ _) rfl ?_)
    rw [Hs.out]
    exact ⟨rfl, _, _, _, HC1.out⟩
  · have t0 : decide (0 ≤ S.2 ∧ S.2 ≤ (m : Int)) = false := by simp only [decide_eq_false_iff_not]; exact hp
    rw [t0]
    obtain ⟨ao, co, hvo⟩ := owns_slice hC1.ro
    subst hvo
    have cO := hC1.fo.cell 0 _ rfl
    have cR := hC1.r.cell 0 _ rfl
    have hne : ((o.length : Int) == (n : Int)) = true := by simp; omega
    have HC1 := Lib.hid hC1
    have Hpp := Lib.hid hp
    clear hp hC1 t0
    have hC := HC1.out
    have d0 := hC.s.cell 0 _ rfl
    have d2 := hC.b.cell 0 _ rfl
    obtain ⟨al', cl', hvl'⟩ := owns_slice hC.rl
    obtain ⟨hvl1, hvl2, hvl3⟩ := Value.slice.inj hvl'
    have d1 := hC.fa.cell 0 _ rfl
    have d3 := hC.fo.cell 0 _ rfl
    clear hvl1 hvl2 hvl3 hvl'
    have HS1 := Lib.hid (show wc1.cell? ⟨q.O, 0, none⟩ = some (.slice ao o.length co) ∧ wc1.cell? ⟨q.S, 0, none⟩ = some (.int .i64 st) ∧ wc1.cell? ⟨q.A, 0, none⟩ = some (.slice al o.length cl) ∧ wc1.cell? ⟨q.B, 0, none⟩ = some (.int .i64 be) from ⟨d3, d0, d1, d2⟩)
    have hZ : q.Z ≤ wc1.heap.size := by have z := hC.below.size; have z2 := hC.size; omega
    have Hro := Lib.hid (owns_read hC.ro).1
    have Hrl2 := Lib.hid (owns_read hC.rl).1
    have Hnil := Lib.hid (show ao = none → o.length = 0 ∧ co = 0 from fun h => own_nil (Own.of hC.ro) h)
    have HB1 := Lib.hid (Below.refl wc1.heap.size wc1)
    have nEO : q.O ≠ q.E := by have := Hq.out.e; have := Hq.out.o; omega
    have nES : q.S ≠ q.E := by have := Hq.out.s; have := Hq.out.r; have := Hq.out.b; omega
    have nEA : q.A ≠ q.E := by have := Hq.out.e; have := Hq.out.a; omega
    have nEB : q.B ≠ q.E := by have := Hq.out.b; omega
    have nLO : q.O ≠ q.L := by have := Hq.out.o; omega
    have nLS : q.S ≠ q.L := by have := Hq.out.s; have := Hq.out.r; have := Hq.out.b; have := Hq.out.e; omega
    have nLA : q.A ≠ q.L := by have := Hq.out.a; omega
    have nLB : q.B ≠ q.L := by have := Hq.out.b; have := Hq.out.e; omega
    have nEL : q.E ≠ q.L := by have := Hq.out.e; omega
    clear d0 d1 d2 d3 hC
    go_wp2_with fail
    clear cO cR
    go_region_held3 (fun w' => w'.cell? ⟨q.O, 0, none⟩ = some (.slice ao o.length co) ∧ w'.cell? ⟨q.S, 0, none⟩ = some (.int .i64 st) ∧ w'.cell? ⟨q.A, 0, none⟩ = some (.slice al o.length cl) ∧ w'.cell? ⟨q.B, 0, none⟩ = some (.int .i64 be)) (first | exact HS1.out | exact HS2.out | exact k4_alloc _ (by assumption) | exact k4_set (by assumption) nEO nES nEA nEB | exact k4_set (by assumption) nLO nLS nLA nLB | assumption) (first | (refine step_appN rfl _ _ 22 rfl wc1.heap.size 2 _ 8 Try.underlying22 info_i64 (by decide) rfl (.slice (some ⟨wc1.heap.size, 0, none⟩) 0 0) 0 [] rfl (owns_empty (w := wc1) rfl (Nat.le_refl _)) ao o.length co (ints (nats o)) rfl (Hro.out.below (by repeat' (first | (with_reducible exact HB1.out) | (with_reducible exact Below.refl _ _) | (with_reducible refine bdrewN ?_ _) | (with_reducible refine Below.drew ?_) | (with_reducible refine Below.setCell ?_ ?_ _) | (with_reducible refine Below.alloc ?_ ?_ _) | omega | (simp; done) | (simp; omega)))) Hnil.out (by intro u hu; obtain ⟨y, _, rfl⟩ := List.mem_map.1 hu; rfl) (by omega) (by simp) ?_; intro v' w2 hown2 hg2 hat2; simp only [Nat.zero_add, List.nil_append] at hown2; obtain ⟨a9, c9, rfl⟩ := owns_slice hown2; have HB2 := Lib.hid (show Below wc1.heap.size wc1 w2 from Below.grown (by repeat' (first | (with_reducible exact HB1.out) | (with_reducible exact Below.refl _ _) | (with_reducible refine bdrewN ?_ _) | (with_reducible refine Below.drew ?_) | (with_reducible refine Below.setCell ?_ ?_ _) | (with_reducible refine Below.alloc ?_ ?_ _) | omega | (simp; done) | (simp; omega))) hg2 (by simp) (fun g e => by cases e; exact Nat.le_refl _)); have HS2 := Lib.hid (k4_below HS1.out HB2.out); have Hown := Lib.hid hown2; have Hat := Lib.hid (show ∀ g, (Value.slice a9 o.length c9).ownBlock = some g → wc1.heap.size ≤ g from fun g e => (hown2.lt g e).1); clear hown2 hg2 hat2) | (go_at_call 30; (with_reducible refine (Hab.out _ (Hrl2.out.below HB2.out)).mono ?_); rintro e w3 ⟨rfl, hb3⟩; rw [Hml.out]; have HB3 := Lib.hid (show Below wc1.heap.size wc1 w3 from bstep HB2.out hb3 (Nat.le_refl _)); have HS2 := Lib.hid (k4_below HS1.out HB3.out); have HC3 := Lib.hid (HC1.out.below' HB3.out); have Hown3 := Lib.hid (owns_below Hown.out hb3); have dE := HC3.out.e.cell 0 _ rfl; have fE := HC3.out.e.frozen 0; have dL := (World.cell?_setCell_far w3 ⟨q.E, 0, none⟩ ⟨q.L, 0, none⟩ (.slice a9 o.length c9) nEL).trans (HC3.out.l.cell 0 _ rfl); have fL := HC3.out.l.frozen 0; clear hb3))
    all_goals
      have Hres := Lib.hid (show srch (meas st xs be) n 0 o S = (o, (m : Int)) by
        show putS _ _ _ = _
        unfold putS
        rw [← Hm.out, if_pos (by have := Hpp.out; omega)])
      have hown4 := Hown3.out
      have Hown4 := Lib.hid (owns_mono hown4 hZ)
      have Hbest := Lib.hid (HC3.out.best Hq.out (bv' := .slice a9 o.length c9) (m := (m : Int)) (o' := o) Hown4.out (fun g e => blk_new HC1.out.toCB (Hat.out g e)) (by omega) (by omega) (fun g e e' => by have h1 := (HC1.out.ro.lt g e).2; have h2 := Hat.out g e'; omega) (fun g e e' => by have h1 := (HC1.out.rl.lt g e).2; have h2 := Hat.out g e'; omega))
      clear hown4
      go_wp2
      (first | go_end0 | (simp only [Exit.inBlock, Exit.then]; refine bodyPost_ret (results_none rfl _ _ _) rfl ?_) | refine bodyPost_ret (results_none rfl _ _ _) rfl ?_)
      rw [Hres.out]
      exact ⟨rfl, _, _, _, Hbest.out⟩
end Go.Proofs.Ytdbgicfbigjmmaa
