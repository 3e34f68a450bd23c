/-
  Plans of stakes: the program's walk.
-/
import Derived.Test.YtkglcfeopicakaaShapeTab
import Derived.Test.YtkglcfeopicakaaShape4
import Derived.StillTailTactics
namespace Go.Proofs.Ytkglcfeopicakaa
open Go Go.RowKit
set_option linter.unusedVariables false

theorem k2_alloc {w : World} {p q : Addr} {u v : Value} (o : Obj) (h : w.cell? p = some u ∧ w.cell? q = some v) : (w.alloc o).cell? p = some u ∧ (w.alloc o).cell? q = some v :=
  ⟨(((Below.refl _ _).alloc (Nat.le_refl _) o).cell (World.block_lt_of_cell? w p h.1)).trans h.1, (((Below.refl _ _).alloc (Nat.le_refl _) o).cell (World.block_lt_of_cell? w q h.2)).trans h.2⟩
theorem good_iff {v low high : Int} (hv : 1 ≤ v ∧ v ≤ 5000) (hl : 1 ≤ low) (hh : 1 ≤ high) {a z : Nat} (ha : leastOf v high = a) (hz : mostOf v low = z) (m : Nat) (hm : 3 ≤ m) (hm' : m ≤ 60) : goodN v low high m = true ↔ a ≤ m ∧ m ≤ z := by
  rw [goodN_iff, goodB_iff hv.1 hv.2 hl hh (by omega) (by omega), ha, hz]
  omega
theorem good_not {v low high : Int} (hv : 1 ≤ v ∧ v ≤ 5000) (hl : 1 ≤ low) (hh : 1 ≤ high) {a z : Nat} (ha : leastOf v high = a) (hz : mostOf v low = z) (m : Nat) (h : m < a ∨ z < m) : goodN v low high m = false := by
  cases hg : goodN v low high m with
  | false => rfl
  | true =>
    obtain ⟨h3, h60, _⟩ := goodN_iff.1 hg
    have := (good_iff hv hl hh ha hz m h3 h60).1 hg
    omega
theorem least_nat {v high : Int} : ∃ a : Nat, leastOf v high = a ∧ 3 ≤ a := ⟨(leastOf v high).toNat, by unfold leastOf; omega, by unfold leastOf; omega⟩
theorem most_nat {v low : Int} (hv : 1 ≤ v) (hl : 1 ≤ low) : ∃ z : Nat, mostOf v low = z ∧ z ≤ 60 := by
  have : 0 ≤ v / low := Int.ediv_nonneg (by omega) (by omega)
  exact ⟨(mostOf v low).toNat, by unfold mostOf; omega, by unfold mostOf; omega⟩
def tabI (xs : List Int) (low high : Int) (n : Nat) (i : Nat) : List Int := rowD xs low high (n - 1 - i)
theorem tabI_eq (xs : List Int) (low high : Int) {n : Nat} (hn : xs.length = n) {j : Nat} (hj : j < n) : tabI xs low high n j = (rowL (xs.getD j 0) low high (prevR xs low high (n - 1 - j))).map id := by
  unfold tabI
  rw [rowD_eq, hn, show n - 1 - (n - 1 - j) = j by omega, List.map_id]
theorem costV_good {v low high : Int} {c : Nat} (nxt : Option (List Int)) (h : goodN v low high c = true) : costV v low high nxt c = (match nxt with | none => 0 | some r => best r c) := by
  unfold costV; rw [if_pos h]; rfl

set_option maxRecDepth 100000 in
set_option maxHeartbeats 4000000 in
theorem stakePlan_ok (a : Option Addr) (n c : Nat) (xs : List Int) (low high : Int) (w : World) (ha : RV w a n c (ints xs)) (hc : shCode xs low high = 0) :
    Calls Try.prog 9 #[.slice a n c, .int .i64 low, .int .i64 high] w (RetL w 2 (planR xs low high)) := by
  obtain ⟨hv, hp⟩ := shCode_ok hc
  obtain ⟨⟨b1, b2⟩, b3, b4⟩ := apart_iff.1 hp
  have hl := ha.lenI
  have hn12 : 1 ≤ n ∧ n ≤ 12 := by have := (vShape_iff.1 hv).2; omega
  have Hx := Lib.hid (fun k (hk : k < n) => vShape_at hv (k := k) (by rw [ha.lenI]; exact hk))
  have Hsr := Lib.hid (fun x W h1 h2 => stakesRange_any x low high W h1 h2 b1 b2 b3 b4)
  have hcode := fun W h => shapeCode_any a n c xs low high W h
  rw [hc] at hcode
  have Hcode := Lib.hid hcode
  have Hl := Lib.hid hl
  have Ha := Lib.hid ha
  have hmk := fun W => run_make_row' (P := Try.prog) 48 24 (.slice none 0 0) 24 Try.underlying48 (by kernel_rfl) rfl .i64 .i64 n (by omega) (by omega) W
  generalize hcs : (madeCells #[Value.slice none 0 0] n) = cs at hmk
  have Hcs := Lib.hid hcs
  obtain ⟨T, HT⟩ : ∃ T, Hid (T = tabI xs low high n) := ⟨_, rfl⟩
  have HR := Lib.hid (show planR xs low high = if bigC ≤ minTo (rowD xs low high (n - 1)) 60 then ([], 3) else ((planTo xs low high (planN0 xs low high) (n - 1)).map (fun k : Nat => (k : Int)), 0) by simp [planR, hc, hl])
  clear hcs hcode hv hp ha hl hc
  go_enter Try.func9, Try.ntmps9
  go_wp2_with (go_at_call 26; refine (Hcode.out _ Ha.out).mono ?_; rintro e w' ⟨rfl, rfl⟩)
  clear hmk
  go_loopw [10] (fun i wr => ∃ (k : Nat) (g : Nat → Nat), k ≤ n ∧ i = .int .i64 ((k : Int) - 1) ∧ Hid (TabD w wr w.heap.size n k g T)) (fun i _ => (intOf i + 1).toNat)
  case atStart => exact ⟨n, fun _ => 0, Nat.le_refl _, rfl, _, Tab.start (Below.refl _ _) (by unfold maxLen; omega) Hcs.out.symm _ (fun _ => []), fun i h1 h2 => absurd h1 (by omega)⟩
  case round =>
    obtain ⟨k, g, hk, rfl, HD⟩ := hrel
    by_cases hk0 : k = 0
    · subst hk0
      rw [show ((0 : Nat) : Int) - 1 = -1 from rfl]
      have d0 := HD.out.top (Nat.zero_le _) (show 0 < n by omega)
      obtain ⟨r0, Hr0⟩ : ∃ r0, Hid (T 0 = r0) := ⟨_, rfl⟩
      have Hr1 := Lib.hid (show r0 = rowD xs low high (n - 1) by rw [← Hr0.out, HT.out]; rfl)
      have Hrv := Lib.hid (HD.out.rv (Nat.zero_le _) (show 0 < n by omega))
      rw [Hr0.out] at Hrv
      by_cases hb : bigC ≤ minTo r0 60
      · have HR1 := Lib.hid (show planR xs low high = ([], 3) by rw [HR.out, ← Hr1.out, if_pos hb])
        have hb' : (1000000 : Int) ≤ minTo r0 60 := hb
        clear hb
        have Hmin := Lib.hid (slMin_any _ _ _ _ wr (show 1 ≤ 61 by omega) Hrv.out)
        rw [show 61 - 1 = 60 from rfl] at Hmin
        generalize minTo r0 60 = L at *
        have hx0 : (0 : Int) < n := by omega
        go_wp2_with (go_at_call 30; (with_reducible refine Hmin.out.mono ?_); rintro e w' ⟨rfl, rfl⟩)
        go_ret2
        exact ⟨.slice none 0 0, by rw [HR1.out]; rfl, by rw [HR1.out]; exact Own.nil _ _ _ _, HD.out.below⟩
      · have hb1 : minTo r0 60 < 1000000 := by unfold bigC at hb; omega
        have hN := planN0_ok xs low high
        rw [Hl.out, ← Hr1.out] at hN
        obtain ⟨hN1, hN2, hN3, _⟩ := hN
        have HP := Lib.hid (fun q (hq : q < n) => planTo_at (l := xs) (low := low) (high := high) (by rw [Hl.out]; omega) (by rw [Hl.out, ← Hr1.out]; exact hb1) (i := q) (by rw [Hl.out]; exact hq))
        have HR1 := Lib.hid (show planR xs low high = ((planTo xs low high (planN0 xs low high) (n - 1)).map (fun k : Nat => (k : Int)), 0) by rw [HR.out, ← Hr1.out, if_neg hb])
        clear hb
        have Hmin := Lib.hid (slMin_any _ _ _ _ wr (show 1 ≤ 61 by omega) Hrv.out)
        rw [show 61 - 1 = 60 from rfl] at Hmin
        have hidx := slIndex_any _ _ _ _ (minTo r0 60) wr Hrv.out
        rw [hN2] at hidx
        have Hidx := Lib.hid hidx
        have HN3 := Lib.hid hN3
        clear hidx hN3 hN2
        generalize minTo r0 60 = L0 at *
        generalize planN0 xs low high = N0 at *
        have hx0 : (0 : Int) < n := by omega
        go_wp2_with (first
          | (go_at_call 30; (with_reducible refine Hmin.out.mono ?_); rintro e w' ⟨rfl, rfl⟩)
          | (go_at_call 31; (with_reducible refine Hidx.out.mono ?_); rintro e w' ⟨rfl, rfl⟩))
        clear d0
        obtain ⟨B0, HB0⟩ : ∃ B0, Hid (B0 = wr.heap.size) := ⟨_, rfl⟩
        have HBw := Lib.hid (show w.heap.size ≤ B0 by rw [HB0.out]; exact HD.out.below.size)
        have HBt := Lib.hid (show w.heap.size < B0 ∧ ∀ i, 0 ≤ i → i < n → g i < B0 by rw [HB0.out]; exact HD.out.lt)
        go_loopw [15, 16, 17] (fun l v i wx => ∃ (q : Nat) (p : List Nat) (L : Int), i = .int .i64 ((q : Int) + 1) ∧ q < n ∧ Hid (p = planTo xs low high N0 q) ∧ l = .int .i64 L ∧ Hid (L = (rowD xs low high (n - 1 - q)).getD (gN p q) 0) ∧ wx.ownsRow B0 2 1 v (q + 1) (ints (p.map (fun k : Nat => (k : Int)))) ∧ Hid (TabD w wx w.heap.size n 0 g T) ∧ Hid (B0 ≤ wx.heap.size)) (fun _ _ i _ => n - (intOf i).toNat)
        case atStart =>
          refine ⟨0, [N0], L0, rfl, by omega, rfl, rfl, ?_, ?_, Lib.hid (HD.out.below' ((Below.refl _ _).alloc (Nat.le_refl _) _)), Lib.hid (by rw [HB0.out]; simp)⟩
          · show L0 = _
            rw [show n - 1 - 0 = n - 1 by omega, ← Hr1.out]
            exact HN3.out.symm
          · exact owns_lit rfl (by rw [HB0.out]; exact Nat.le_refl _) (by simp [maxLen])
        case round =>
          obtain ⟨q, p, L, rfl, hq, Hp, rfl, HL, hown, HTb, Hsz⟩ := hrel
          generalize wr = wx at *
          obtain ⟨av, cv, rfl⟩ := owns_slice hown
          have HPq := HP.out q hq
          rw [← Hp.out] at HPq
          by_cases hqn : q + 1 < n
          · have hgd := goodN_iff.1 (HPq.good q (Nat.le_refl _))
            have hcost := HPq.cost
            rw [Hl.out] at hcost
            rw [show n - 1 - q = (n - 1 - (q + 1)) + 1 by omega] at hcost HL
            have hbe := best_of (show gN p q < 61 by omega) hcost
            rw [← HL.out] at hcost hbe
            obtain ⟨nx1, nx2, nx3, nx4⟩ := nextM_ok hbe hcost
            have Hpn := Lib.hid (show p ++ [nextM (rowD xs low high (n - 1 - (q + 1))) (gN p q) L] = planTo xs low high N0 (q + 1) by
              show _ = planTo xs low high N0 q ++ _
              rw [← Hp.out, getLastD_eq p HPq.len, Hl.out, show n - 1 - q = (n - 1 - (q + 1)) + 1 by omega, ← HL.out])
            have hrv := (owns_read hown).1
            obtain ⟨bp, op, rfl, hbp, hcp⟩ := hrv.cell (by omega)
            have d1 := hcp q (by omega)
            have Hgn := Lib.hid (gN_snoc (p := p) (x := nextM (rowD xs low high (n - 1 - (q + 1))) (gN p q) L) HPq.len)
            have Hpl := Lib.hid HPq.len
            rw [show (p.map (fun k : Nat => (k : Int))).getD q 0 = (gN p q : Int) by simp [gN, List.getD_eq_getElem?_getD, HPq.len]] at d1
            have hT1 : T (q + 1) = rowD xs low high (n - 1 - (q + 1)) := by rw [HT.out]; rfl
            have Hrb := Lib.hid (fun e (he : e < 61) => rowD_bd xs low high (n - 1 - (q + 1)) e he)
            obtain ⟨r, Hr⟩ : ∃ r, Hid (r = rowD xs low high (n - 1 - (q + 1))) := ⟨_, rfl⟩
            rw [← Hr.out] at hT1 nx1 nx2 nx3 nx4 Hpn Hrb Hgn
            generalize hnx : nextM r (gN p q) L = nx at *
            generalize gN p q = c at *
            have HT1 := Lib.hid hT1
            have Hown := Lib.hid hown
            have Hnx4 := Lib.hid nx4
            have Hnx1 := Lib.hid nx1
            have hnx60 : nx ≤ 60 := by unfold winN winLo at nx3; omega
            have hw1 : IntKind.i64.wrap ((q : Int) + 1 - 1) = (q : Int) := by rw [IntWalk.i64_in _ (by omega)]; omega
            have hL1 : L < 1000000 := hcost
            have hc60 : 3 ≤ c ∧ c ≤ 60 := ⟨hgd.1, hgd.2.1⟩
            have hwl : max 3 ((c : Int) - 6) = (winLo c : Nat) := by unfold winLo; omega
            clear hcp hrv hown hT1 nx4 nx1 HPq hnx hbe hcost hgd
            go_wp2
            go_loopw [15, 16, 19] (fun l v s wy => l = .int .i64 L ∧ v = .slice (some ⟨bp, op, none⟩) (q + 1) cv ∧ ∃ e m : Nat, s = .int .i64 e ∧ winLo c ≤ e ∧ e ≤ nx ∧ Hid (wy = wx.drewN m)) (fun _ _ s _ => nx - (intOf s).toNat)
            case atStart => exact ⟨rfl, rfl, winLo c, 0, by first | rfl | rw [hwl], Nat.le_refl _, nx2, rfl⟩
            case round =>
              obtain ⟨rfl, rfl, e, m, rfl, he1, he2, Hw⟩ := hrel
              generalize wr = wy at *
              have he61 : e < 61 := by omega
              have HTm := Lib.hid (HTb.out.drewN m)
              have Hom : Hid ((wx.drewN m).ownsRow B0 2 1 (.slice (some ⟨bp, op, none⟩) (q + 1) cv) (q + 1) (ints (p.map (fun k : Nat => (k : Int))))) := Lib.hid Hown.out
              rw [← Hw.out] at HTm Hom
              have d1 := HTm.out.top (Nat.zero_le _) hqn
              have d2 := HTm.out.at (Nat.zero_le _) hqn he61
              rw [HT1.out] at d2
              have hrb := Hrb.out e he61
              have hu : 0 ≤ r.getD e 0 ∧ r.getD e 0 ≤ 1000000 := by
                rw [Hr.out]; have := Hrb.out e he61; rw [Hr.out] at this; unfold bigC at this; omega
              have Hn1 := Hnx1
              have Hn4 := Lib.hid (Hnx4.out e he1)
              have hx1 : (q : Int) + 1 < n := by omega
              have hx2 : (0 : Int) ≤ (q : Int) + 1 := by omega
              have hx3 : ((q : Int) + 1).toNat = q + 1 := by omega
              have hx4 : (e : Int) < 61 := by omega
              have hx5 : IntKind.i64.wrap ((q : Int) + 1) = (q : Int) + 1 := IntWalk.i64_in _ (by omega)
              have Hue := Lib.hid (show ∀ u, u = r.getD e 0 → apt c e = max ((c : Int) - e) (e - c) from fun _ _ => rfl)
              clear hrb
              by_cases hen : e = nx
              · subst hen
                have hsum := IntWalk.i64_in (r.getD e 0 + max ((c : Int) - e) (e - c)) (by omega)
                have hd : (r.getD e 0 + max ((c : Int) - e) (e - c) == L) = true := by
                  have := Hnx1.out; unfold apt at this; simp only [beq_iff_eq]; exact this
                clear Hue
                generalize hru : r.getD e 0 = u at *
                have Hru := Lib.hid hru
                clear hru
                go_wp2_with fail
                go_quiet ((go_at_call 29; exact Calls.quiet_of_same ((distance_any (c : Int) (e : Int) _ (by omega) (by omega)).mono fun e w' ⟨h1, h2⟩ => ⟨h1, h2.symm⟩)))
                go_wp2_with fail
                have HTn : Hid (TabD w (wy.drewN nq).drew w.heap.size n 0 g T) := Lib.hid ((HTm.out.drewN nq).drew)
                have Hon : Hid (((wy.drewN nq).drew).ownsRow B0 2 1 (.slice (some ⟨bp, op, none⟩) (q + 1) cv) (q + 1) (ints (p.map (fun k : Nat => (k : Int))))) := Lib.hid Hom.out
                have Hzn : Hid (B0 ≤ ((wy.drewN nq).drew).heap.size) := by have h := Hsz.out; rw [Hw.out]; exact Lib.hid h
                have HS0 : Hid (((wy.drewN nq).drew).cell? ⟨w.heap.size, q + 1, none⟩ = some (.slice (some ⟨g (q + 1), 0, none⟩) 61 61) ∧ ((wy.drewN nq).drew).cell? ⟨g (q + 1), e, none⟩ = some (.int .i64 u)) := Lib.hid ⟨d1, d2⟩
                clear d1 d2
                refine wp_region_head (fun w' => w'.cell? ⟨w.heap.size, q + 1, none⟩ = some (.slice (some ⟨g (q + 1), 0, none⟩) 61 61) ∧ w'.cell? ⟨g (q + 1), e, none⟩ = some (.int .i64 u)) 12 (by kernel_rfl) (by decide) ?_
                generalize (wy.drewN nq).drew = wd at HTn Hon Hzn HS0 ⊢
                refine wpHead_take (i := 0) (v := ?_) rfl (by kernel_rfl) (fun _ _ _ h => h) (Or.inl ⟨by rfl, ?_⟩) HS0.out ?_
                rotate_left
                · intro w hSw; (try dsimp only at hSw); go_simp; (try with_reducible rfl)
                (try simp only [Act.put, List.setIfInBounds_toArray, List.set_cons_zero, List.set_cons_succ])
                refine wpHead_take (i := 1) (v := ?_) rfl (by kernel_rfl) (fun _ _ _ h => h) (Or.inl ⟨by rfl, ?_⟩) HS0.out ?_
                rotate_left
                · intro w hSw; (try dsimp only at hSw); go_simp; (try with_reducible rfl)
                (try simp only [Act.put, List.setIfInBounds_toArray, List.set_cons_zero, List.set_cons_succ])
                refine wpHead_take (i := 4) (v := ?_) rfl (by kernel_rfl) (fun _ _ _ h => h) (Or.inl ⟨by rfl, ?_⟩) HS0.out ?_
                rotate_left
                · intro w hSw; (try dsimp only at hSw); go_simp; (try with_reducible rfl)
                (try simp only [Act.put, List.setIfInBounds_toArray, List.set_cons_zero, List.set_cons_succ])
                refine wpHead_take (i := 5) (v := ?_) rfl (by kernel_rfl) (fun _ _ _ h => h) (Or.inl ⟨by rfl, ?_⟩) HS0.out ?_
                rotate_left
                · intro w hSw; (try dsimp only at hSw); go_simp; (try with_reducible rfl)
                (try simp only [Act.put, List.setIfInBounds_toArray, List.set_cons_zero, List.set_cons_succ])
                refine wpHead_take (i := 6) (v := ?_) rfl (by kernel_rfl) (fun _ _ _ h => h) (Or.inl ⟨by rfl, ?_⟩) HS0.out ?_
                rotate_left
                · intro w hSw; (try dsimp only at hSw); go_simp; (try with_reducible rfl)
                (try simp only [Act.put, List.setIfInBounds_toArray, List.set_cons_zero, List.set_cons_succ])
                refine wpHead_take (i := 7) (v := ?_) rfl (by kernel_rfl) (fun _ _ _ h => h) (Or.inl ⟨by rfl, ?_⟩) HS0.out ?_
                rotate_left
                · intro w hSw; (try dsimp only at hSw); go_simp; (try with_reducible rfl)
                (try simp only [Act.put, List.setIfInBounds_toArray, List.set_cons_zero, List.set_cons_succ])
                refine wpHead_take (i := 8) (v := ?_) rfl (by kernel_rfl) (fun _ _ _ h => h) (Or.inl ⟨by rfl, ?_⟩) HS0.out ?_
                rotate_left
                · intro w hSw; (try dsimp only at hSw); go_simp; (try with_reducible rfl)
                (try simp only [Act.put, List.setIfInBounds_toArray, List.set_cons_zero, List.set_cons_succ])
                refine wpHead_take (i := 9) (v := ?_) rfl (by kernel_rfl) (fun _ _ _ h => h) (Or.inl ⟨by rfl, ?_⟩) HS0.out ?_
                rotate_left
                · intro w hSw; (try dsimp only at hSw); go_simp; (try with_reducible rfl)
                (try simp only [Act.put, List.setIfInBounds_toArray, List.set_cons_zero, List.set_cons_succ])
                refine wpHead_take (i := 10) (v := ?_) rfl (by kernel_rfl) (fun _ _ _ h => h) (Or.inl ⟨by rfl, ?_⟩) HS0.out ?_
                rotate_left
                · intro w hSw; (try dsimp only at hSw); go_simp; (try with_reducible rfl)
                (try simp only [Act.put, List.setIfInBounds_toArray, List.set_cons_zero, List.set_cons_succ])
                refine wpHead_one (i := 2) (by kernel_rfl) (by decide) rfl (fun K hK => ?_)
                go_simp
                refine hK.out _ _ (k2_alloc _ HS0.out) ?_
                clear hK K
                (try simp only [Act.put, List.setIfInBounds_toArray, List.set_cons_zero, List.set_cons_succ])
                refine wpHead_one (i := 3) (by kernel_rfl) (by decide) rfl (fun K hK => ?_)
                refine step_app1a rfl _ _ 24 rfl B0 2 _ 8 Try.underlying24 info_i64 (by decide) rfl (.slice (some ⟨bp, op, none⟩) (q + 1) cv) (q + 1) (ints (p.map (fun k : Nat => (k : Int)))) rfl (Hon.out.alloc _) _ (.int .i64 e) rfl (cell_boxed rfl) rfl (by omega) (by have h := Hzn.out; simp; omega) ?_
                intro g1 cap1 w1 ho1 hg1 hat1
                have hlo := fun k hk => (Hon.out.lt k hk).1
                have hT1 : TabD w w1 w.heap.size n 0 g T := (HTn.out.below' ((Below.refl _ _).alloc (Nat.le_refl _) _)).grown hg1 (fun b hb => by
                  have h1 := hlo b hb
                  have h2 := HBt.out
                  have h3 := HBw.out
                  exact ⟨by omega, by omega, fun i hi1 hi2 => by have := h2.2 i hi1 hi2; omega⟩)
                have hS1 := And.intro (hT1.top (Nat.zero_le _) hqn) ((hT1.at (Nat.zero_le _) hqn he61).trans (by rw [HT1.out, Hru.out]))
                have hz1 : B0 ≤ w1.heap.size := by have h := Hzn.out; have h2 := hg1.size; simp at h2; omega
                have HT2 := Lib.hid hT1
                have Ho1 := Lib.hid ho1
                have Hz1 := Lib.hid hz1
                have HS1 := Lib.hid hS1
                refine hK.out _ _ hS1 ?_
                clear hK K hT1 hS1 hz1 ho1 hg1 hat1 hlo
                (try simp only [Act.put, List.setIfInBounds_toArray, List.set_cons_zero, List.set_cons_succ])
                refine wpHead_take (i := 11) (v := ?_) rfl (by kernel_rfl) (fun _ _ _ h => h) (Or.inl ⟨by rfl, ?_⟩) HS1.out ?_
                rotate_left
                · intro w hSw; (try dsimp only at hSw); go_simp; (try with_reducible rfl)
                (try simp only [Act.put, List.setIfInBounds_toArray, List.set_cons_zero, List.set_cons_succ])
                refine wpHead_done (by kernel_rfl) ?_
                simp only [List.drop_succ_cons, List.drop_zero]
                go_wp2
                go_roundw
                case rel => exact ⟨q + 1, p ++ [e], u, by go_num, hqn, Lib.hid Hpn.out, rfl, Lib.hid (by rw [Hgn.out, ← Hru.out, Hr.out]), by simpa using Ho1.out, by first | exact Lib.hid HT2.out | exact Lib.hid (by have := HT2.out; exact this), Hz1⟩
                case measure => first | omega | (simp [intOf]; done) | (simp [intOf]; omega)
              · have hne : ¬ (r.getD e 0 + max ((c : Int) - e) (e - c) = L) := (by have := Hn4.out (by omega); unfold apt at this; exact this)
                have hsum := IntWalk.i64_in (r.getD e 0 + max ((c : Int) - e) (e - c)) (by omega)
                have hd : (r.getD e 0 + max ((c : Int) - e) (e - c) == L) = false := by simpa using hne
                clear Hue hne
                generalize hru : r.getD e 0 = u at *
                clear hru
                go_wp2_with fail
                go_quiet ((go_at_call 29; exact Calls.quiet_of_same ((distance_any (c : Int) (e : Int) _ (by omega) (by omega)).mono fun e w' ⟨h1, h2⟩ => ⟨h1, h2.symm⟩)))
                go_wp2
                go_roundw
                case rel => exact ⟨rfl, rfl, e + 1, m + nq, by go_num, by omega, by omega, Lib.hid (by rw [Hw.out, World.drewN_drewN])⟩
                case measure => first | omega | (simp [intOf]; done) | (simp [intOf]; omega)
          · have hqe : n - 1 = q := by omega
            have hlt : decide ((q : Int) + 1 < n) = false := decide_eq_false (by omega)
            have Hfin := Lib.hid (show planR xs low high = (p.map (fun k : Nat => (k : Int)), 0) by rw [HR1.out, hqe, ← Hp.out])
            have Hown := Lib.hid hown
            clear hown HPq
            go_wp2
            go_ret2
            have h5 := HTb.out.below.size
            rw [Hfin.out]
            exact ⟨_, rfl, Own.of (owns_mono Hown.out HBw.out), HTb.out.below⟩
    · obtain ⟨j, rfl⟩ : ∃ j, k = j + 1 := ⟨k - 1, by omega⟩
      rw [show ((j + 1 : Nat) : Int) - 1 = (j : Int) by omega]
      have hjn : j < n := by omega
      obtain ⟨bx, ox, rfl, hbx, hcx⟩ := Ha.out.cell (show n ≠ 0 by omega)
      have e0 : w.cell? ⟨bx, ox + j, none⟩ = some (.int .i64 (xs.getD j 0)) := hcx j hjn
      have hvx := Hx.out j hjn
      clear hcx
      obtain ⟨x, Hxx⟩ : ∃ x, Hid (x = xs.getD j 0) := ⟨_, rfl⟩
      rw [← Hxx.out] at e0 hvx
      obtain ⟨lo, hlo, hlo3⟩ := least_nat (v := x) (high := high)
      obtain ⟨hi, hhi, hhi60⟩ := most_nat (v := x) (low := low) hvx.1 b1
      have Hlo := Lib.hid hlo
      have Hhi := Lib.hid hhi
      clear hlo hhi
      go_wp2_with (first
        | (go_at_call 27; (with_reducible refine (slRepeat_new _ _ _ (by simp) (cell_boxed rfl)).mono ?_); rintro e w2 ⟨g2, hg2, rfl, hblk, hb2⟩; have Hb2 : Hid (Below wr.heap.size wr w2) := Lib.hid (((Below.refl _ _).alloc (Nat.le_refl _) _).trans (hb2.mono (by simp))); have HL := Lib.hid (HD.out.new hjn Hb2.out (by simp at hg2; omega) hblk (by simp)); obtain ⟨u2, cG⟩ := (HD.out.below' Hb2.out).topAny hjn; have fG := (HD.out.below' Hb2.out).topF j; have hbel2 := HD.out.below.trans (Hb2.out.mono HD.out.below.size); have e1 := (hbel2.cell (p := ⟨bx, ox + j, none⟩) hbx).trans e0; have e2 : (w2.setCell ⟨w.heap.size, j, none⟩ (.slice (some ⟨g2, 0, none⟩) 61 61)).cell? ⟨bx, ox + j, none⟩ = some (.int .i64 x) := ((hbel2.setCell (Nat.le_refl _) _).cell (p := ⟨bx, ox + j, none⟩) hbx).trans e0; clear hblk hb2 hbel2)
        | (go_at_call 28; (with_reducible refine (Hsr.out _ _ hvx.1 hvx.2).mono ?_); rintro e w3 ⟨rfl, m3, rfl⟩; rw [Hlo.out, Hhi.out]))
      have HL2 := Lib.hid (HL.out.drewN m3)
      clear e0 e1 e2 cG fG HL
      obtain ⟨nxt, Hnx⟩ : ∃ nxt, Hid (nxt = prevR xs low high (n - 1 - j)) := ⟨_, rfl⟩
      have hg2c := hlo3
      go_loopw [13] (fun p wr' => ∃ c : Nat, p = .int .i64 c ∧ lo ≤ c ∧ (c ≤ hi + 1 ∨ c = lo) ∧ Hid (TabL w wr' w.heap.size n j (updF g j g2) T (partR x low high nxt id bigC c))) (fun p _ => hi + 1 - (intOf p).toNat)
      case atStart =>
        refine ⟨lo, rfl, Nat.le_refl _, .inr rfl, ?_⟩
        refine HL2.out.as ?_
        rw [show (1000000 : Int) = bigC from rfl, ← partR_zero x low high nxt id bigC]
        exact partR_skip rfl (Nat.zero_le _) (fun m _ hm => good_not hvx b1 (by omega) Hlo.out Hhi.out m (.inl hm))
      case round =>
        obtain ⟨c, rfl, hcl, hch, HC⟩ := hrel
        generalize updF g j g2 = g' at *
        by_cases hcz : c ≤ hi
        · have hgood : goodN x low high c = true := (good_iff hvx b1 (by omega) Hlo.out Hhi.out c (by omega) (by omega)).2 ⟨hcl, hcz⟩
          have Hgd := Lib.hid (costV_good nxt hgood)
          have hc61 : c < 61 := by omega
          have Hst := Lib.hid (partR_step (v := x) (low := low) (high := high) (nxt := nxt) (f := id) (z := bigC) hc61)
          have d1 := HC.out.top (Nat.le_refl _) hjn
          have d2 := HC.out.cur hjn hc61
          have d3 := HC.out.curF hjn c
          have hpg := partR_get (v := x) (low := low) (high := high) (nxt := nxt) (f := id) (z := bigC) hc61
          rw [hpg] at d2
          clear hgood
          by_cases hjl : j + 1 = n
          · have hd : ((j : Int) == (n : Int) - 1) = true := by simp; omega
            have Hnn := Lib.hid (show nxt = none by rw [Hnx.out, show n - 1 - j = 0 by omega]; rfl)
            clear hpg
            go_wp2
            go_roundw
            case rel =>
              refine ⟨c + 1, by go_num, by omega, .inl (by omega), Lib.hid ((HC.out.put hjn c 0).as ?_)⟩
              rw [← Hst.out, Hgd.out, Hnn.out]; rfl
            case measure => first | omega | (simp [intOf]; done) | (simp [intOf]; omega)
          · have hd : ((j : Int) == (n : Int) - 1) = false := by simp; omega
            have hj1 : j + 1 < n := by omega
            obtain ⟨r, Hr⟩ : ∃ r, Hid (T (j + 1) = r) := ⟨_, rfl⟩
            have Hrr := Lib.hid (show r = rowD xs low high (n - 1 - (j + 1)) by rw [← Hr.out, HT.out]; rfl)
            have Hnn := Lib.hid (show nxt = some r by rw [Hnx.out, Hrr.out, show n - 1 - j = (n - 1 - (j + 1)) + 1 by omega]; rfl)
            have Hrb := Lib.hid (fun e (he : e < 61) => (show 0 ≤ r.getD e 0 ∧ r.getD e 0 ≤ 1000000 by
              rw [Hrr.out]
              have h := rowD_bd xs low high (n - 1 - (j + 1)) e he
              unfold bigC at h
              omega))
            have hps := set_self hpg (by rw [partR_len]; exact hc61)
            have Hps := Lib.hid hps
            clear hpg hps d1 d2 d3
            go_wp2
            go_loopw [14] (fun q wr' => ∃ t e : Nat, Hid (e = winLo c + t) ∧ t ≤ winN c ∧ q = .int .i64 e ∧ Hid (TabL w wr' w.heap.size n j g' T ((partR x low high nxt id bigC c).set c (bestTo r c (winLo c) t)))) (fun q _ => winLo c + winN c - (intOf q).toNat)
            case atStart =>
              refine ⟨0, winLo c, rfl, Nat.zero_le _, ?_, HC.out.as Hps.out.symm⟩
              congr 1
              unfold winLo
              omega
            case round =>
              obtain ⟨t, e, He, ht, rfl, HC2⟩ := hrel
              have Hwin := Lib.hid (show winLo c = max 3 (c - 6) ∧ winN c = min 60 (c + 6) + 1 - winLo c from ⟨rfl, rfl⟩)
              by_cases htw : t < winN c
              · have he60 : e ≤ 60 ∧ e ≤ c + 6 ∧ 3 ≤ e ∧ c ≤ e + 6 := by have h1 := He.out; have h2 := Hwin.out; omega
                have hdd : decide ((e : Int) ≤ min 60 ((c : Int) + 6)) = true := by simp; omega
                have he61 : e < 61 := by omega
                have d1 := HC2.out.top (Nat.le_refl _) hjn
                have d2 := HC2.out.cur hjn hc61
                have d3 := HC2.out.curF hjn c
                have d4 := HC2.out.top (show j ≤ j + 1 by omega) hj1
                have d5 := HC2.out.nxt (show j < j + 1 by omega) hj1 he61
                rw [Hr.out] at d5
                rw [show ((partR x low high nxt id bigC c).set c (bestTo r c (winLo c) t)).getD c 0 = bestTo r c (winLo c) t by simp [partR_len, hc61]] at d2
                have Hsb := Lib.hid (show bestTo r c (winLo c) (t + 1) = min (bestTo r c (winLo c) t) (r.getD e 0 + max ((c : Int) - e) (e - c)) by rw [He.out]; rfl)
                have hrb := Hrb.out e he61
                have Hbl := Lib.hid (bestTo_le r c (winLo c) t)
                generalize bestTo r c (winLo c) t = B at *
                generalize r.getD e 0 = u at *
                have hsum := IntWalk.i64_in (u + max ((c : Int) - e) (e - c)) (by omega)
                have hdi := fun W => distance_any (c : Int) (e : Int) W (by omega) (by omega)
                have hidx : ((j : Int) + 1).toNat = j + 1 := by omega
                have hw1 : IntKind.i64.wrap ((j : Int) + 1) = (j : Int) + 1 := IntWalk.i64_in _ (by omega)
                have hx1 : (j : Int) + 1 < n := by omega
                have hx2 : (0 : Int) ≤ (j : Int) + 1 := by omega
                have hx3 : (c : Int) < 61 := by omega
                have hx4 : (e : Int) < 61 := by omega
                have hx5 : (j : Int) < n := by omega
                go_wp2_with fail
                refine wp_region_still_tail 26 (by kernel_rfl) (by kernel_rfl) ?_
                simp only [List.take_succ_cons, List.take_zero, List.drop_succ_cons, List.drop_zero]
                repeat still_step
                still_call ((hdi _).mono fun e w' ⟨h1, h2⟩ => ⟨h1, h2.symm⟩)
                repeat still_step
                refine wpStill_nil ?_
                change wpList _ _ _ _ _ wr.drew
                go_wp2
                go_roundw
                case rel => exact ⟨t + 1, e + 1, Lib.hid (by rw [He.out]; exact Nat.add_assoc _ _ _), htw, by go_num, Lib.hid (((HC2.out.put hjn c _).drew).as (by rw [set_set, Hsb.out]))⟩
                case measure => (have h1 := He.out; simp [intOf]; omega)
              · have htw : t = winN c := by omega
                have hdd : decide ((e : Int) ≤ min 60 ((c : Int) + 6)) = false := by have h1 := He.out; have h2 := Hwin.out; exact decide_eq_false (by omega)
                have HF : Hid (TabL w wr w.heap.size n j g' T (partR x low high nxt id bigC (c + 1))) := by
                  refine HC2.out.as ?_
                  rw [← Hst.out, Hgd.out, Hnn.out, htw]
                  rfl
                go_wp2
                go_roundw
                case rel => exact ⟨c + 1, by go_num, by omega, .inl (by omega), HF⟩
                case measure => first | omega | (simp [intOf]; done) | (simp [intOf]; omega)
        · have hd : decide ((c : Int) ≤ (hi : Int)) = false := by simp; omega
          have hend : TabD w wr w.heap.size n j g' T := by
            refine HC.out.done ?_
            rw [HT.out, tabI_eq xs low high Hl.out hjn, ← Hxx.out, ← Hnx.out]
            exact partR_end rfl (fun m h1 h2 => good_not hvx b1 (by omega) Hlo.out Hhi.out m (by omega))
          have HE := Lib.hid hend
          clear hend
          go_wp2
          go_roundw
          case rel => exact ⟨j, g', by omega, by go_num, HE⟩
          case measure => first | omega | (simp [intOf]; done) | (simp [intOf]; omega)
end Go.Proofs.Ytkglcfeopicakaa
