/-
  Plans of stakes: the reference's walk.
-/
import Derived.Test.YtkglcfeopicakaaShapePI
namespace Go.Proofs.Ytkglcfeopicakaa
open Go Go.RowKit
set_option linter.unusedVariables false

def tabS (xs : List Int) (low high : Int) (n : Nat) (i : Nat) : List Int := (rowD xs low high (n - 1 - i)).map enc
theorem tabS_eq (xs : List Int) (low high : Int) {n : Nat} (hn : xs.length = n) {j : Nat} (hj : j < n) : tabS xs low high n j = (rowL (xs.getD j 0) low high (prevR xs low high (n - 1 - j))).map enc := by
  unfold tabS
  rw [rowD_eq, hn, show n - 1 - (n - 1 - j) = j by omega]
theorem getD_enc {r : List Int} {e : Nat} (hr : r.length = 61) (he : e < 61) : (r.map enc).getD e 0 = enc (r.getD e 0) := by
  have : e < r.length := by omega
  simp [this]
theorem best_wide {l : List Int} {low high : Int} {d c : Nat} (hc : 3 ≤ c) (hc' : c ≤ 60) : bestTo (rowD l low high d) c (c - 6) (min 60 (c + 6) + 1 - (c - 6)) = best (rowD l low high d) c := by
  have h := bestTo_skip (r := rowD l low high d) (n := c) (lo := c - 6) (a := winLo c - (c - 6)) (fun j hj => by
    rw [rowD_low (by unfold winLo at hj; omega)]; exact Int.le_refl _) (winN c)
  rw [show winLo c - (c - 6) + winN c = min 60 (c + 6) + 1 - (c - 6) by unfold winN winLo; omega, show c - 6 + (winLo c - (c - 6)) = winLo c by unfold winLo; omega] at h
  exact h
theorem bestTo_nn {r : List Int} (h : ∀ i, 0 ≤ r.getD i 0) (n lo : Nat) : ∀ k, 0 ≤ bestTo r n lo k := by
  intro k
  induction k with
  | zero => show (0 : Int) ≤ bigC; decide
  | succ k ih =>
    simp only [bestTo]
    have := h (lo + k)
    have := apt_bd n (lo + k)
    omega
theorem enc_cases (x : Int) (h : 0 ≤ x) : (x < 1000000 ∧ enc x = x) ∨ (1000000 ≤ x ∧ enc x = -1) := by
  unfold enc bigC; split <;> omega

/-- the first least number so far, -1 if there is none -/
def bstTo (r : List Int) : Nat → Int
  | 0 => -1
  | k + 1 => if r.getD k 0 < 1000000 ∧ (bstTo r k < 0 ∨ r.getD k 0 < r.getD (bstTo r k).toNat 0) then (k : Int) else bstTo r k
theorem bstTo_ok (r : List Int) : ∀ k, (bstTo r k = -1 ∧ ∀ j, j < k → 1000000 ≤ r.getD j 0) ∨ (∃ b : Nat, b < k ∧ bstTo r k = b ∧ r.getD b 0 < 1000000 ∧ (∀ j, j < k → r.getD b 0 ≤ r.getD j 0) ∧ ∀ j, j < b → r.getD b 0 < r.getD j 0) := by
  intro k
  induction k with
  | zero => exact .inl ⟨rfl, fun j h => by omega⟩
  | succ k ih =>
    rw [bstTo]
    rcases ih with ⟨h1, h2⟩ | ⟨b, hb, h1, h2, h3, h4⟩
    · rw [h1]
      by_cases hx : r.getD k 0 < 1000000
      · rw [if_pos ⟨hx, .inl (by omega)⟩]
        refine .inr ⟨k, by omega, rfl, hx, fun j hj => ?_, fun j hj => ?_⟩
        · by_cases e : j = k
          · subst e; exact Int.le_refl _
          · have := h2 j (by omega); omega
        · have := h2 j hj; omega
      · rw [if_neg (by omega)]
        refine .inl ⟨rfl, fun j hj => ?_⟩
        by_cases e : j = k
        · subst e; omega
        · exact h2 j (by omega)
    · rw [h1, Int.toNat_natCast]
      by_cases hx : r.getD k 0 < r.getD b 0
      · rw [if_pos ⟨by omega, .inr hx⟩]
        refine .inr ⟨k, by omega, rfl, by omega, fun j hj => ?_, fun j hj => ?_⟩
        · by_cases e : j = k
          · subst e; exact Int.le_refl _
          · have := h3 j (by omega); omega
        · have := h3 j hj; omega
      · rw [if_neg (by omega)]
        refine .inr ⟨b, by omega, rfl, h2, fun j hj => ?_, h4⟩
        by_cases e : j = k
        · subst e; omega
        · exact h3 j (by omega)
theorem bstTo_min {l : List Int} {low high : Int} : (bigC ≤ minTo (rowD l low high (l.length - 1)) 60 → bstTo (rowD l low high (l.length - 1)) 61 = -1) ∧ (minTo (rowD l low high (l.length - 1)) 60 < bigC → bstTo (rowD l low high (l.length - 1)) 61 = planN0 l low high) := by
  obtain ⟨n1, n2, n3, n4⟩ := planN0_ok l low high
  generalize rowD l low high (l.length - 1) = r at *
  generalize planN0 l low high = N at *
  unfold bigC
  rcases bstTo_ok r 61 with ⟨h1, h2⟩ | ⟨b, hb, h1, h2, h3, h4⟩
  · refine ⟨fun _ => h1, fun h => ?_⟩
    have := h2 N n1
    omega
  · have h5 := minTo_le r 60 b (by omega)
    refine ⟨fun h => by omega, fun h => ?_⟩
    rw [h1]
    have e1 : r.getD b 0 = minTo r 60 := by have := h3 N n1; omega
    rcases Nat.lt_trichotomy b N with h6 | h6 | h6
    · exact absurd e1 (n4 b h6)
    · rw [h6]
    · have := h4 N h6; omega

set_option maxRecDepth 100000 in
set_option maxHeartbeats 4000000 in
theorem specStakePlan_ok (a : Option Addr) (n c : Nat) (xs : List Int) (low high : Int) (w : World) (ha : RV w a n c (ints xs)) (hc : shCode xs low high = 0) :
    Calls Try.prog 19 #[.slice a n c, .int .i64 low, .int .i64 high] w (RetL w 2 (planR xs low high)) := by
  obtain ⟨hv, hp⟩ := shCode_ok hc
  obtain ⟨⟨b1, b2⟩, b3, b4⟩ := apart_iff.1 hp
  have hl := ha.lenI
  have hn12 : 1 ≤ n ∧ n ≤ 12 := by have := (vShape_iff.1 hv).2; omega
  have Hx := Lib.hid (fun k (hk : k < n) => vShape_at hv (k := k) (by rw [ha.lenI]; exact hk))
  have hcode := fun W h => l08Code_any a n c xs low high W h
  rw [hc] at hcode
  have Hcode := Lib.hid hcode
  have Hl := Lib.hid hl
  have Ha := Lib.hid ha
  have hmk := fun W => run_make_row' (P := Try.prog) 48 24 (.slice none 0 0) 24 Try.underlying48 (by kernel_rfl) rfl .i64 .i64 n (by omega) (by omega) W
  generalize hcs : (madeCells #[Value.slice none 0 0] n) = cs at hmk
  have Hcs := Lib.hid hcs
  have hmk2 : ∀ W, (Instr.makeSlice 24 (.int .i64 61) (.int .i64 61)).run Try.prog W = .ok (.slice (some ⟨W.heap.size, 0, none⟩) 61 61) (W.alloc (.cells (repd 0 0).toArray 2)) := fun W => by
    rw [repd_zero]
    exact run_make_row' (P := Try.prog) 24 2 (.int .i64 0) 8 Try.underlying24 info_i64 rfl .i64 .i64 61 (by omega) (by omega) W
  generalize hz0 : repd 0 0 = z0 at hmk2
  have Hz0 := Lib.hid (show z0 = ints (List.replicate 61 0) by rw [← hz0]; simp only [repd, List.replicate_zero, ints, List.map_nil, List.nil_append, Nat.sub_zero])
  obtain ⟨T, HT⟩ : ∃ T, Hid (T = tabS xs low high n) := ⟨_, rfl⟩
  have HR := Lib.hid (show planR xs low high = if bigC ≤ minTo (rowD xs low high (n - 1)) 60 then ([], 3) else ((planTo xs low high (planN0 xs low high) (n - 1)).map (fun k : Nat => (k : Int)), 0) by simp [planR, hc, hl])
  clear hcs hcode hv hp ha hl hc hz0
  go_enter Try.func19, Try.ntmps19
  go_wp2_with (go_at_call 43; refine (Hcode.out _ Ha.out).mono ?_; rintro e w' ⟨rfl, rfl⟩)
  clear hmk
  go_loopw [10] (fun i wr => ∃ (k : Nat) (g : Nat → Nat), k ≤ n ∧ i = .int .i64 ((k : Int) - 1) ∧ Hid (TabD w wr w.heap.size n k g T)) (fun i _ => (intOf i + 1).toNat)
  case atStart => exact ⟨n, fun _ => 0, Nat.le_refl _, rfl, _, Tab.start (Below.refl _ _) (by unfold maxLen; omega) Hcs.out.symm _ (fun _ => []), fun i h1 h2 => absurd h1 (by omega)⟩
  case round =>
    obtain ⟨k, g, hk, rfl, HD⟩ := hrel
    by_cases hk0 : k = 0
    · subst hk0
      rw [show ((0 : Nat) : Int) - 1 = -1 from rfl]
      clear hmk2
      obtain ⟨r0, Hr0⟩ : ∃ r0, Hid (r0 = rowD xs low high (n - 1)) := ⟨_, rfl⟩
      have HT0 := Lib.hid (show T 0 = r0.map enc by rw [Hr0.out, HT.out]; rfl)
      have Hl0 := Lib.hid (show r0.length = 61 by rw [Hr0.out]; exact rowD_len _ _ _ _)
      have Hb0 := Lib.hid (fun e (he : e < 61) => (show 0 ≤ r0.getD e 0 ∧ r0.getD e 0 ≤ 1000000 by
        rw [Hr0.out]
        have h := rowD_bd xs low high (n - 1) e he
        unfold bigC at h
        omega))
      have hx0 : (0 : Int) < n := by omega
      go_wp2_with fail
      go_loopw [14, 15] (fun b i wy => ∃ k : Nat, k ≤ 61 ∧ i = .int .i64 k ∧ b = .int .i64 (bstTo r0 k) ∧ ∃ m, Hid (wy = wr.drewN m)) (fun _ i _ => 61 - (intOf i).toNat)
      case atStart => exact ⟨0, by omega, rfl, rfl, 0, rfl⟩
      case round =>
        obtain ⟨k, hk, rfl, rfl, m, Hw⟩ := hrel
        generalize wr = wy at *
        have HDm := Lib.hid (HD.out.drewN m)
        rw [← Hw.out] at HDm
        by_cases hk61 : k < 61
        · have d1 := HDm.out.top (Nat.zero_le _) (show 0 < n by omega)
          have d2 := HDm.out.at (Nat.zero_le _) (show 0 < n by omega) hk61
          rw [HT0.out, getD_enc Hl0.out hk61] at d2
          have hxk : (k : Int) < 61 := by omega
          have hxl : (k : Int) ≤ 60 := by omega
          have Hbs := Lib.hid (show bstTo r0 (k + 1) = if r0.getD k 0 < 1000000 ∧ (bstTo r0 k < 0 ∨ r0.getD k 0 < r0.getD (bstTo r0 k).toNat 0) then (k : Int) else bstTo r0 k from rfl)
          have hen := enc_cases (r0.getD k 0) (Hb0.out k hk61).1
          by_cases hA : r0.getD k 0 < 1000000
          · have hen2 : enc (r0.getD k 0) = r0.getD k 0 := by omega
            have hge : 0 ≤ r0.getD k 0 := (Hb0.out k hk61).1
            rw [hen2] at d2
            clear hen hen2
            rcases bstTo_ok r0 k with ⟨h1, _⟩ | ⟨b, hb, h1, h2, _⟩
            · have hv := Hbs.out.trans (if_pos ⟨hA, .inl (by omega)⟩)
              rw [h1]
              have Hv := Lib.hid hv
              generalize r0.getD k 0 = u at *
              have dA : decide (0 ≤ u) = true := decide_eq_true hge
              clear hv h1 hA
              go_wp2_with fail
              go_quiet (fail)
              go_wp2
              go_roundw
              case rel => exact ⟨k + 1, by omega, by go_num, by rw [Hv.out], m + nq, Lib.hid (by rw [Hw.out, World.drewN_drewN])⟩
              case measure => first | omega | (simp [intOf]; done) | (simp [intOf]; omega)
            · have d3 := HDm.out.at (Nat.zero_le _) (show 0 < n by omega) (show b < 61 by omega)
              rw [HT0.out, getD_enc Hl0.out (show b < 61 by omega)] at d3
              have hen3 := enc_cases (r0.getD b 0) (Hb0.out b (by omega)).1
              have hen4 : enc (r0.getD b 0) = r0.getD b 0 := by omega
              rw [hen4] at d3
              clear hen3 hen4
              rw [h1]
              have hs := Hbs.out
              rw [h1, Int.toNat_natCast] at hs
              have Hs := Lib.hid hs
              have dB : decide ((b : Int) < 0) = false := decide_eq_false (by omega)
              have hxb : (b : Int) < 61 := by omega
              clear hs
              by_cases hC : r0.getD k 0 < r0.getD b 0
              · have Hv := Lib.hid (Hs.out.trans (if_pos ⟨hA, .inr hC⟩))
                generalize r0.getD k 0 = u at *
                generalize r0.getD b 0 = v at *
                have dA : decide (0 ≤ u) = true := decide_eq_true hge
                have dC : decide (u < v) = true := decide_eq_true hC
                clear h1 hA hC
                go_wp2_with fail
                go_quiet (fail)
                go_wp2
                go_roundw
                case rel => exact ⟨k + 1, by omega, by go_num, by rw [Hv.out], m + nq, Lib.hid (by rw [Hw.out, World.drewN_drewN])⟩
                case measure => first | omega | (simp [intOf]; done) | (simp [intOf]; omega)
              · have Hv := Lib.hid (Hs.out.trans (if_neg (by rintro ⟨_, h | h⟩ <;> omega)))
                generalize r0.getD k 0 = u at *
                generalize r0.getD b 0 = v at *
                have dA : decide (0 ≤ u) = true := decide_eq_true hge
                have dC : decide (u < v) = false := decide_eq_false hC
                clear h1 hA hC
                go_wp2_with fail
                go_quiet (fail)
                go_wp2
                go_roundw
                case rel => exact ⟨k + 1, by omega, by go_num, by rw [Hv.out], m + nq, Lib.hid (by rw [Hw.out, World.drewN_drewN])⟩
                case measure => first | omega | (simp [intOf]; done) | (simp [intOf]; omega)
          · have hen2 : enc (r0.getD k 0) = -1 := by omega
            rw [hen2] at d2
            have Hv := Lib.hid (Hbs.out.trans (if_neg (by rintro ⟨h, _⟩; exact hA h)))
            generalize bstTo r0 k = bb at *
            clear hen hen2 hA
            go_wp2_with fail
            go_quiet (fail)
            go_wp2
            go_roundw
            case rel => exact ⟨k + 1, by omega, by go_num, by rw [Hv.out], m + nq, Lib.hid (by rw [Hw.out, World.drewN_drewN])⟩
            case measure => first | omega | (simp [intOf]; done) | (simp [intOf]; omega)
        · have hk61 : k = 61 := by omega
          subst hk61
          have hmn := bstTo_min (l := xs) (low := low) (high := high)
          rw [Hl.out, ← Hr0.out] at hmn
          by_cases hb : bigC ≤ minTo r0 60
          · rw [hmn.1 hb]
            have HR1 := Lib.hid (show planR xs low high = ([], 3) by rw [HR.out, ← Hr0.out, if_pos hb])
            clear hb hmn
            go_wp2
            go_ret2
            exact ⟨.slice none 0 0, by rw [HR1.out]; rfl, by rw [HR1.out]; exact Own.nil _ _ _ _, HDm.out.below⟩
          · have hb1 : minTo r0 60 < bigC := by omega
            rw [hmn.2 hb1]
            have HP := Lib.hid (fun q (hq : q < n) => planTo_at (l := xs) (low := low) (high := high) (by rw [Hl.out]; omega) (by rw [Hl.out, ← Hr0.out]; exact hb1) (i := q) (by rw [Hl.out]; exact hq))
            have HR1 := Lib.hid (show planR xs low high = ((planTo xs low high (planN0 xs low high) (n - 1)).map (fun k : Nat => (k : Int)), 0) by rw [HR.out, ← Hr0.out, if_neg hb])
            clear hb hb1 hmn
            generalize planN0 xs low high = N0 at *
            go_wp2_with fail
            obtain ⟨B0, HB0⟩ : ∃ B0, Hid (B0 = wy.heap.size) := ⟨_, rfl⟩
            have HBw := Lib.hid (show w.heap.size ≤ B0 by rw [HB0.out]; exact HDm.out.below.size)
            have HBt := Lib.hid (show w.heap.size < B0 ∧ ∀ i, 0 ≤ i → i < n → g i < B0 by rw [HB0.out]; exact HDm.out.lt)
            go_loopw [16, 17] (fun v i wx => ∃ (q : Nat) (p : List Nat), i = .int .i64 ((q : Int) + 1) ∧ q < n ∧ Hid (p = planTo xs low high N0 q) ∧ wx.ownsRow B0 2 1 v (q + 1) (ints (p.map (fun k : Nat => (k : Int)))) ∧ Hid (TabD w wx w.heap.size n 0 g T) ∧ Hid (B0 ≤ wx.heap.size)) (fun _ i _ => n - (intOf i).toNat)
            case atStart =>
              refine ⟨0, [N0], rfl, by omega, rfl, ?_, Lib.hid (HDm.out.below' ((Below.refl _ _).alloc (Nat.le_refl _) _)), Lib.hid (by rw [HB0.out]; simp)⟩
              exact owns_lit rfl (by rw [HB0.out]; exact Nat.le_refl _) (by simp [maxLen])
            case round =>
              obtain ⟨q, p, rfl, hq, Hp, hown, HTb, Hsz⟩ := hrel
              generalize wr = wx at *
              obtain ⟨av, cv, rfl⟩ := owns_slice hown
              have HPq := HP.out q hq
              rw [← Hp.out] at HPq
              by_cases hqn : q + 1 < n
              · have hgd := goodN_iff.1 (HPq.good q (Nat.le_refl _))
                have hcost := HPq.cost
                rw [Hl.out] at hcost
                obtain ⟨L, HL⟩ : ∃ L, Hid (L = (rowD xs low high (n - 1 - q)).getD (gN p q) 0) := ⟨_, rfl⟩
                have HL1 := Lib.hid HL.out
                rw [show n - 1 - q = (n - 1 - (q + 1)) + 1 by omega] at hcost HL
                have hbe := best_of (show gN p q < 61 by omega) hcost
                rw [← HL.out] at hcost hbe
                obtain ⟨nx1, nx2, nx3, nx4⟩ := nextM_ok hbe hcost
                have Hpn := Lib.hid (show p ++ [nextM (rowD xs low high (n - 1 - (q + 1))) (gN p q) L] = planTo xs low high N0 (q + 1) by
                  show _ = planTo xs low high N0 q ++ _
                  rw [← Hp.out, getLastD_eq p HPq.len, Hl.out, show n - 1 - q = (n - 1 - (q + 1)) + 1 by omega, ← HL.out])
                have hrv := (owns_read hown).1
                obtain ⟨bp, op, rfl, hbp, hcp⟩ := hrv.cell (by omega)
                have d1 := hcp q (by omega)
                rw [show (p.map (fun k : Nat => (k : Int))).getD q 0 = (gN p q : Int) by simp [gN, List.getD_eq_getElem?_getD, HPq.len]] at d1
                have hT1 : T (q + 1) = (rowD xs low high (n - 1 - (q + 1))).map enc := by rw [HT.out]; rfl
                have hTq : (T q).getD (gN p q) 0 = L := by
                  rw [show T q = (rowD xs low high (n - 1 - q)).map enc by rw [HT.out]; rfl, getD_enc (rowD_len _ _ _ _) (by omega), ← HL1.out]
                  unfold enc; rw [if_pos hcost]
                have Hrl := Lib.hid (rowD_len xs low high (n - 1 - (q + 1)))
                have Hlow := Lib.hid (fun e (he : e < 3) => rowD_low (l := xs) (low := low) (high := high) (d := n - 1 - (q + 1)) he)
                have Hrb := Lib.hid (fun e (he : e < 61) => rowD_bd xs low high (n - 1 - (q + 1)) e he)
                obtain ⟨r, Hr⟩ : ∃ r, Hid (r = rowD xs low high (n - 1 - (q + 1))) := ⟨_, rfl⟩
                rw [← Hr.out] at hT1 nx1 nx2 nx3 nx4 Hpn Hrb Hrl Hlow
                generalize hnx : nextM r (gN p q) L = nx at *
                generalize gN p q = c at *
                have HT1 := Lib.hid hT1
                have HTq := Lib.hid hTq
                have Hown := Lib.hid hown
                have Hnx4 := Lib.hid nx4
                have Hnx1 := Lib.hid nx1
                have hnx60 : nx ≤ 60 := by unfold winN winLo at nx3; omega
                have hw1 : IntKind.i64.wrap ((q : Int) + 1 - 1) = (q : Int) := by rw [IntWalk.i64_in _ (by omega)]; omega
                have hL1 : L < 1000000 := hcost
                have hc60 : 3 ≤ c ∧ c ≤ 60 := ⟨hgd.1, hgd.2.1⟩
                have hst : c - 6 ≤ nx ∧ (winLo c = max 3 (c - 6)) := ⟨by unfold winLo at nx2; omega, rfl⟩
                clear hcp hrv hown hT1 hTq nx4 nx1 HPq hnx hbe hcost hgd
                go_wp2_with (go_at_call 45; refine (l00Max_any _ _ _).mono ?_; rintro e w' ⟨rfl, rfl⟩)
                go_loopw [19] (fun s wy => ∃ e m : Nat, s = .int .i64 e ∧ c - 6 ≤ e ∧ e ≤ nx ∧ Hid (wy = wx.drewN m)) (fun s _ => nx - (intOf s).toNat)
                case atStart => exact ⟨c - 6, 0, by congr 1; omega, Nat.le_refl _, hst.1, rfl⟩
                case round =>
                  obtain ⟨e, m, rfl, he1, he2, Hw⟩ := hrel
                  generalize wr = wy at *
                  have he61 : e < 61 := by omega
                  have HTm := Lib.hid (HTb.out.drewN m)
                  have Hom : Hid ((wx.drewN m).ownsRow B0 2 1 (.slice (some ⟨bp, op, none⟩) (q + 1) cv) (q + 1) (ints (p.map (fun k : Nat => (k : Int))))) := Lib.hid Hown.out
                  rw [← Hw.out] at HTm Hom
                  have d1 := HTm.out.top (Nat.zero_le _) hqn
                  have d2 := HTm.out.at (Nat.zero_le _) hqn he61
                  rw [HT1.out, getD_enc Hrl.out he61] at d2
                  have d3 := HTm.out.top (Nat.zero_le _) hq
                  have d4 := HTm.out.at (Nat.zero_le _) hq (show c < 61 by omega)
                  rw [HTq.out] at d4
                  have hen := enc_cases (r.getD e 0) (Hrb.out e he61).1
                  have hx1 : (q : Int) + 1 < n := by omega
                  have hx2 : (0 : Int) ≤ (q : Int) + 1 := by omega
                  have hx3 : ((q : Int) + 1).toNat = q + 1 := by omega
                  have hx4 : (e : Int) < 61 := by omega
                  have hx5 : IntKind.i64.wrap ((q : Int) + 1) = (q : Int) + 1 := IntWalk.i64_in _ (by omega)
                  have hx6 : (q : Int) < n := by omega
                  have hx7 : (c : Int) < 61 := by omega
                  have hw2 := IntWalk.i64_in ((c : Int) - e) (by omega)
                  have hap : apt c e = max ((c : Int) - e) (-((c : Int) - e)) := by unfold apt; omega
                  by_cases hbig : 1000000 ≤ r.getD e 0
                  · have hne : e ≠ nx := by
                      rintro rfl
                      have h1 := Hnx1.out
                      rw [hap] at h1
                      omega
                    have hen2 : enc (r.getD e 0) = -1 := by omega
                    rw [hen2] at d2
                    clear hen hen2 hbig hap
                    go_wp2_with fail
                    go_quiet (fail)
                    go_wp2
                    go_roundw
                    case rel => exact ⟨e + 1, m + nq, by go_num, by omega, by omega, Lib.hid (by rw [Hw.out, World.drewN_drewN])⟩
                    case measure => first | omega | (simp [intOf]; done) | (simp [intOf]; omega)
                  · have hen2 : enc (r.getD e 0) = r.getD e 0 := by omega
                    have hge := (Hrb.out e he61).1
                    rw [hen2] at d2
                    have hsum := IntWalk.i64_in (r.getD e 0 + max ((c : Int) - e) (-((c : Int) - e))) (by omega)
                    have dA : decide (r.getD e 0 < 0) = false := decide_eq_false (by omega)
                    have hwe : winLo c ≤ e := by
                      have h3 := hst.2
                      by_cases h : e < 3
                      · have h4 := Hlow.out e h; unfold bigC at h4; omega
                      · omega
                    by_cases hen3 : e = nx
                    · have hd : (r.getD e 0 + max ((c : Int) - e) (-((c : Int) - e)) != L) = false := by
                        have h1 := Hnx1.out
                        rw [← hen3, hap] at h1
                        exact bne_eq_false_iff_eq.2 h1
                      have Hpn2 := Lib.hid (show p ++ [e] = planTo xs low high N0 (q + 1) by rw [hen3]; exact Hpn.out)
                      clear hen hen2 hbig hap hen3
                      generalize r.getD e 0 = u at *
                      go_wp2_with fail
                      go_quiet ((go_at_call 42; exact Calls.quiet_of_same ((l00Size_any ((c : Int) - e) _ (by omega) (by omega)).mono fun e w' ⟨h1, h2⟩ => ⟨h1, h2.symm⟩)))
                      have HTn : Hid (TabD w (wy.drewN nq) w.heap.size n 0 g T) := Lib.hid (HTm.out.drewN nq)
                      have hon : (wy.drewN nq).ownsRow B0 2 1 (.slice (some ⟨bp, op, none⟩) (q + 1) cv) (q + 1) (ints (p.map (fun k : Nat => (k : Int)))) := Hom.out
                      have hzn : B0 ≤ (wy.drewN nq).heap.size := by have h := Hsz.out; rw [Hw.out]; exact h
                      clear d1 d2 d3 d4 HTm Hom
                      generalize wy.drewN nq = wd at *
                      go_wp2_with (at_builtin; refine wpList_app1 rfl _ _ 24 rfl B0 2 _ 8 Try.underlying24 info_i64 (by decide) rfl _ (q + 1) _ rfl (hon.alloc _) wd.heap.size (.int .i64 e) rfl ?c1 rfl ?c2 ?c3 ?_)
                      case c1 => exact cell_boxed rfl
                      case c2 => omega
                      case c3 => simp; omega
                      intro v1 w1 ho1 hg1
                      have hlo := fun k hk => (hon.lt k hk).1
                      have hT1 : TabD w w1 w.heap.size n 0 g T := (HTn.out.below' ((Below.refl _ _).alloc (Nat.le_refl _) _)).grown hg1 (fun b hb => by
                        have h1 := hlo b hb
                        have h2 := HBt.out
                        have h3 := HBw.out
                        exact ⟨by omega, by omega, fun i hi1 hi2 => by have := h2.2 i hi1 hi2; omega⟩)
                      have Hz1 := Lib.hid (show B0 ≤ w1.heap.size by have h2 := hg1.size; simp at h2; omega)
                      have HT2 := Lib.hid hT1
                      have Ho1 := Lib.hid ho1
                      clear hT1 ho1 hg1 hlo hon hzn
                      go_wp2
                      refine ⟨?gr, ?gm⟩
                      case gr =>
                        apply Exists.intro
                        repeat (apply Exists.intro)
                        refine ⟨?_, rfl⟩
                        exact ⟨q + 1, p ++ [e], by go_num, hqn, Hpn2, by simpa using Ho1.out, HT2, Hz1⟩
                      case gm =>
                        show n - (intOf (.int .i64 ((q : Int) + 1 + 1))).toNat < n - (intOf (.int .i64 ((q : Int) + 1))).toNat
                        simp [intOf]
                        omega
                    · have hd : (r.getD e 0 + max ((c : Int) - e) (-((c : Int) - e)) != L) = true := by
                        have h1 := Hnx4.out e hwe (by omega)
                        rw [hap] at h1
                        exact bne_iff_ne.2 h1
                      clear hen hen2 hbig hap
                      generalize r.getD e 0 = u at *
                      go_wp2_with fail
                      go_quiet ((go_at_call 42; exact Calls.quiet_of_same ((l00Size_any ((c : Int) - e) _ (by omega) (by omega)).mono fun e w' ⟨h1, h2⟩ => ⟨h1, h2.symm⟩)))
                      go_wp2
                      go_roundw
                      case rel => exact ⟨e + 1, m + nq, by go_num, by omega, by omega, Lib.hid (by rw [Hw.out, World.drewN_drewN])⟩
                      case measure => first | omega | (simp [intOf]; done) | (simp [intOf]; omega)
              · have hqe : n - 1 = q := by omega
                have hlt : decide ((q : Int) + 1 < n) = false := decide_eq_false (by omega)
                have Hfin := Lib.hid (show planR xs low high = (p.map (fun k : Nat => (k : Int)), 0) by rw [HR1.out, hqe, ← Hp.out])
                have Hown := Lib.hid hown
                clear hown HPq
                go_wp2
                go_ret2
                have h5 := HTb.out.below.size
                rw [Hfin.out]
                exact ⟨_, rfl, Own.of (owns_mono Hown.out HBw.out), HTb.out.below⟩
    · obtain ⟨j, rfl⟩ : ∃ j, k = j + 1 := ⟨k - 1, by omega⟩
      rw [show ((j + 1 : Nat) : Int) - 1 = (j : Int) by omega]
      have hjn : j < n := by omega
      obtain ⟨bx, ox, rfl, hbx, hcx⟩ := Ha.out.cell (show n ≠ 0 by omega)
      have e0 : w.cell? ⟨bx, ox + j, none⟩ = some (.int .i64 (xs.getD j 0)) := hcx j hjn
      have hvx := Hx.out j hjn
      clear hcx
      obtain ⟨x, Hxx⟩ : ∃ x, Hid (x = xs.getD j 0) := ⟨_, rfl⟩
      rw [← Hxx.out] at e0 hvx
      obtain ⟨nxt, Hnx⟩ : ∃ nxt, Hid (nxt = prevR xs low high (n - 1 - j)) := ⟨_, rfl⟩
      have hba := (Below.refl wr.heap.size wr).alloc (Nat.le_refl _) (.cells z0.toArray 2)
      have HL : Hid (TabL w ((wr.alloc (.cells z0.toArray 2)).setCell ⟨w.heap.size, j, none⟩ (.slice (some ⟨wr.heap.size, 0, none⟩) 61 61)) w.heap.size n j (updF g j wr.heap.size) T (partR x low high nxt enc 0 0)) := by
        have h := HD.out.new hjn hba (Nat.le_refl _) (r := List.replicate 61 0) (by rw [Hz0.out]; exact Blk.box _ _ _ rfl) (by simp)
        rw [← partR_zero x low high nxt enc 0] at h
        exact h
      obtain ⟨u2, cG⟩ := (HD.out.below' hba).topAny hjn
      have fG := (HD.out.below' hba).topF j
      clear hba
      go_wp2
      clear cG fG u2
      generalize updF g j wr.heap.size = g' at *
      go_loopw [11] (fun p wr' => ∃ c : Nat, p = .int .i64 c ∧ c ≤ 61 ∧ Hid (TabL w wr' w.heap.size n j g' T (partR x low high nxt enc 0 c))) (fun p _ => 61 - (intOf p).toNat)
      case atStart => exact ⟨0, rfl, by omega, HL⟩
      case round =>
        obtain ⟨c, rfl, hcl, HC⟩ := hrel
        clear HL
        by_cases hc61 : c < 61
        · have Hst := Lib.hid (partR_step (v := x) (low := low) (high := high) (nxt := nxt) (f := enc) (z := 0) hc61)
          have d1 := HC.out.top (Nat.le_refl _) hjn
          have d2 := HC.out.cur hjn hc61
          have d3 := HC.out.curF hjn c
          have hx5 : (j : Int) < n := by omega
          have hx6 : (c : Int) < 61 := by omega
          have hx7 : (c : Int) ≤ 60 := by omega
          have HC1 := Lib.hid (HC.out.put hjn c (-1))
          have e1 : (wr.setCell ⟨g' j, c, none⟩ (.int .i64 (-1))).cell? ⟨bx, ox + j, none⟩ = some (.int .i64 x) := (HC1.out.below.cell (p := ⟨bx, ox + j, none⟩) hbx).trans e0
          have hG3 : goodN x low high c = false → Hid (TabL w (wr.setCell ⟨g' j, c, none⟩ (.int .i64 (-1))) w.heap.size n j g' T (partR x low high nxt enc 0 (c + 1))) := fun hg => Lib.hid (HC1.out.as (by
            rw [← Hst.out]; congr 1; unfold costV; rw [hg]; rfl))
          by_cases hc3 : c < 3
          · have hd : decide ((c : Int) < 3) = true := decide_eq_true (by omega)
            have HF := hG3 (by cases hg : goodN x low high c with | false => rfl | true => have := (goodN_iff.1 hg).1; omega)
            clear hG3
            go_wp2
            go_roundw
            case rel => exact ⟨c + 1, by go_num, by omega, HF⟩
            case measure => first | omega | (simp [intOf]; done) | (simp [intOf]; omega)
          · have hd : decide ((c : Int) < 3) = false := decide_eq_false (by omega)
            cases hgo : goodB x c low high
            · have HF := hG3 (by cases hg : goodN x low high c with | false => rfl | true => have := (goodN_iff.1 hg).2.2; rw [hgo] at this; cases this)
              clear hG3
              go_wp2_with (go_at_call 44; refine (l08Good_any _ _ _ _ _ b1 b2 (by omega) b4 (by omega) (by omega)).mono ?_; rw [hgo]; rintro e w' ⟨rfl, rfl⟩)
              go_roundw
              case rel => exact ⟨c + 1, by go_num, by omega, HF⟩
              case measure => first | omega | (simp [intOf]; done) | (simp [intOf]; omega)
            · have hgood : goodN x low high c = true := goodN_iff.2 ⟨by omega, by omega, hgo⟩
              have Hgd := Lib.hid (costV_good nxt hgood)
              clear hG3 hgood
              have d4 := HC1.out.top (Nat.le_refl _) hjn
              have d5 := HC1.out.cur hjn hc61
              have d6 := HC1.out.curF hjn c
              by_cases hjl : j + 1 = n
              · have hdl : ((j : Int) == (n : Int) - 1) = true := by simp; omega
                have Hnn := Lib.hid (show nxt = none by rw [Hnx.out, show n - 1 - j = 0 by omega]; rfl)
                go_wp2_with (go_at_call 44; refine (l08Good_any _ _ _ _ _ b1 b2 (by omega) b4 (by omega) (by omega)).mono ?_; rw [hgo]; rintro e w' ⟨rfl, rfl⟩)
                go_roundw
                case rel =>
                  refine ⟨c + 1, by go_num, by omega, Lib.hid ((HC1.out.put hjn c 0).as ?_)⟩
                  rw [set_set, ← Hst.out, Hgd.out, Hnn.out]; rfl
                case measure => first | omega | (simp [intOf]; done) | (simp [intOf]; omega)
              · have hdl : ((j : Int) == (n : Int) - 1) = false := by simp; omega
                have hj1 : j + 1 < n := by omega
                obtain ⟨r, Hr⟩ : ∃ r, Hid (r = rowD xs low high (n - 1 - (j + 1))) := ⟨_, rfl⟩
                have Hrr := Lib.hid (show T (j + 1) = r.map enc by rw [Hr.out, HT.out]; rfl)
                have Hnn := Lib.hid (show nxt = some r by rw [Hnx.out, Hr.out, show n - 1 - j = (n - 1 - (j + 1)) + 1 by omega]; rfl)
                have Hrl := Lib.hid (show r.length = 61 by rw [Hr.out]; exact rowD_len _ _ _ _)
                have Hrb := Lib.hid (fun e => (show 0 ≤ r.getD e 0 ∧ (r.getD e 0 = 1000000 ∨ r.getD e 0 ≤ 100) by
                  by_cases he : e < 61
                  · rw [Hr.out]
                    have h := rowD_bd xs low high (n - 1 - (j + 1)) e he
                    unfold bigC at h
                    omega
                  · rw [List.getD_eq_getElem?_getD, List.getElem?_eq_none (by rw [Hrl.out]; omega)]; simp))
                have Hbw := Lib.hid (show bestTo r c (c - 6) (min 60 (c + 6) + 1 - (c - 6)) = best r c by rw [Hr.out]; exact best_wide (by omega) (by omega))
                have HC2 : Hid (TabL w (wr.setCell ⟨g' j, c, none⟩ (.int .i64 (-1))) w.heap.size n j g' T ((partR x low high nxt enc 0 c).set c (enc (bestTo r c (c - 6) 0)))) := HC1
                go_wp2_with (first | (go_at_call 44; refine (l08Good_any _ _ _ _ _ b1 b2 (by omega) b4 (by omega) (by omega)).mono ?_; rw [hgo]; rintro e w' ⟨rfl, rfl⟩) | (go_at_call 45; refine (l00Max_any _ _ _).mono ?_; rintro e w' ⟨rfl, rfl⟩))
                clear d1 d2 d3 d4 d5 d6
                go_loopw [12] (fun q wr' => ∃ t e : Nat, Hid (e = c - 6 + t) ∧ e ≤ min 60 (c + 6) + 1 ∧ q = .int .i64 e ∧ Hid (TabL w wr' w.heap.size n j g' T ((partR x low high nxt enc 0 c).set c (enc (bestTo r c (c - 6) t))))) (fun q _ => min 60 (c + 6) + 1 - (intOf q).toNat)
                case atStart =>
                  refine ⟨0, c - 6, rfl, by omega, ?_, HC2⟩
                  congr 1
                  omega
                case round =>
                  obtain ⟨t, e, He, ht, rfl, HM⟩ := hrel
                  clear HC1 HC2 HC e1
                  generalize wr = wy at *
                  by_cases hel : e ≤ min 60 (c + 6)
                  · have he60 : e ≤ 60 ∧ e ≤ c + 6 ∧ c ≤ e + 6 := by have h1 := He.out; omega
                    have hdd : decide ((e : Int) ≤ min 60 ((c : Int) + 6)) = true := decide_eq_true (by omega)
                    have he61 : e < 61 := by omega
                    have d1 := HM.out.top (Nat.le_refl _) hjn
                    have d2 := HM.out.cur hjn hc61
                    have d3 := HM.out.curF hjn c
                    have d4 := HM.out.top (show j ≤ j + 1 by omega) hj1
                    have d5 := HM.out.nxt (show j < j + 1 by omega) hj1 he61
                    rw [Hrr.out, getD_enc Hrl.out he61] at d5
                    rw [show ((partR x low high nxt enc 0 c).set c (enc (bestTo r c (c - 6) t))).getD c 0 = enc (bestTo r c (c - 6) t) by simp [partR_len, hc61]] at d2
                    have hsx := enc_cases (r.getD e 0) (Hrb.out e).1
                    have hsb := enc_cases (bestTo r c (c - 6) t) (bestTo_nn (fun i => (Hrb.out i).1) _ _ _)
                    have hbl := bestTo_le r c (c - 6) t
                    have hrb := Hrb.out e
                    have Hsb := Lib.hid (show enc (bestTo r c (c - 6) (t + 1)) = if 0 ≤ enc (r.getD e 0) ∧ (enc (bestTo r c (c - 6) t) < 0 ∨ enc (r.getD e 0) + max ((c : Int) - e) (-((c : Int) - e)) < enc (bestTo r c (c - 6) t)) then enc (r.getD e 0) + max ((c : Int) - e) (-((c : Int) - e)) else enc (bestTo r c (c - 6) t) by
                      rw [← enc_step (bestTo_nn (fun i => (Hrb.out i).1) _ _ _) hbl hrb.1 hrb.2 (by omega) (by omega)]
                      rw [He.out]
                      show enc (min _ (_ + apt c (c - 6 + t))) = _
                      unfold apt
                      congr 2
                      omega)
                    have Hset := Lib.hid (fun (v : Int) (hv : enc (bestTo r c (c - 6) (t + 1)) = v) => (HM.out.put hjn c v).as (by rw [set_set, ← hv] : _ = (partR x low high nxt enc 0 c).set c (enc (bestTo r c (c - 6) (t + 1)))))
                    have Hkeep := Lib.hid (fun (hv : enc (bestTo r c (c - 6) (t + 1)) = enc (bestTo r c (c - 6) t)) => HM.out.as (by rw [hv] : _ = (partR x low high nxt enc 0 c).set c (enc (bestTo r c (c - 6) (t + 1)))))
                    have He2 := Lib.hid (show e + 1 = c - 6 + (t + 1) by rw [He.out]; omega)
                    unfold bigC at hbl
                    generalize hVq : enc (bestTo r c (c - 6) (t + 1)) = V at *
                    have HVq := Lib.hid hVq
                    clear hVq
                    generalize enc (bestTo r c (c - 6) t) = B at *
                    generalize enc (r.getD e 0) = u at *
                    have hub : -1 ≤ u ∧ u ≤ 1000000 := by omega
                    clear hsx hsb hbl hrb
                    have hsum := IntWalk.i64_in (u + max ((c : Int) - e) (-((c : Int) - e))) (by omega)
                    have hw1 : IntKind.i64.wrap ((j : Int) + 1) = (j : Int) + 1 := IntWalk.i64_in _ (by omega)
                    have hw2 := IntWalk.i64_in ((c : Int) - e) (by omega)
                    have hidx : ((j : Int) + 1).toNat = j + 1 := by omega
                    have hx1 : (j : Int) + 1 < n := by omega
                    have hx2 : (0 : Int) ≤ (j : Int) + 1 := by omega
                    have hx4 : (e : Int) < 61 := by omega
                    by_cases hA : 0 ≤ u
                    · have dA : decide (0 ≤ u) = true := decide_eq_true hA
                      by_cases hB : B < 0
                      · have dB : decide (B < 0) = true := decide_eq_true hB
                        have HV := Hset.out _ (Hsb.out.trans (if_pos ⟨hA, .inl hB⟩))
                        have HV := Lib.hid HV
                        clear Hset Hkeep HM
                        go_wp2_with (go_at_call 46; refine (l00Min_any _ _ _).mono ?_; rintro e w' ⟨rfl, rfl⟩)
                        go_quiet ((go_at_call 42; exact Calls.quiet_of_same ((l00Size_any ((c : Int) - e) _ (by omega) (by omega)).mono fun e w' ⟨h1, h2⟩ => ⟨h1, h2.symm⟩)))
                        go_wp2
                        go_roundw
                        case rel => exact ⟨t + 1, e + 1, He2, by omega, by go_num, Lib.hid (by rw [HVq.out]; exact HV.out.drewN nq)⟩
                        case measure => first | omega | (simp [intOf]; done) | (simp [intOf]; omega)
                      · have dB : decide (B < 0) = false := decide_eq_false hB
                        by_cases hC : u + max ((c : Int) - e) (-((c : Int) - e)) < B
                        · have dC : decide (u + max ((c : Int) - e) (-((c : Int) - e)) < B) = true := decide_eq_true hC
                          have HV := Hset.out _ (Hsb.out.trans (if_pos ⟨hA, .inr hC⟩))
                          have HV := Lib.hid HV
                          clear Hset Hkeep HM
                          go_wp2_with (go_at_call 46; refine (l00Min_any _ _ _).mono ?_; rintro e w' ⟨rfl, rfl⟩)
                          go_quiet ((go_at_call 42; exact Calls.quiet_of_same ((l00Size_any ((c : Int) - e) _ (by omega) (by omega)).mono fun e w' ⟨h1, h2⟩ => ⟨h1, h2.symm⟩)))
                          go_wp2
                          go_roundw
                          case rel => exact ⟨t + 1, e + 1, He2, by omega, by go_num, Lib.hid (by rw [HVq.out]; exact HV.out.drewN nq)⟩
                          case measure => first | omega | (simp [intOf]; done) | (simp [intOf]; omega)
                        · have dC : decide (u + max ((c : Int) - e) (-((c : Int) - e)) < B) = false := decide_eq_false hC
                          have HV := Hkeep.out (Hsb.out.trans (if_neg (by rintro ⟨_, h | h⟩ <;> omega)))
                          have HV := Lib.hid HV
                          clear Hset Hkeep HM
                          go_wp2_with (go_at_call 46; refine (l00Min_any _ _ _).mono ?_; rintro e w' ⟨rfl, rfl⟩)
                          go_quiet ((go_at_call 42; exact Calls.quiet_of_same ((l00Size_any ((c : Int) - e) _ (by omega) (by omega)).mono fun e w' ⟨h1, h2⟩ => ⟨h1, h2.symm⟩)))
                          go_wp2
                          go_roundw
                          case rel => exact ⟨t + 1, e + 1, He2, by omega, by go_num, Lib.hid (by rw [HVq.out]; exact HV.out.drewN nq)⟩
                          case measure => first | omega | (simp [intOf]; done) | (simp [intOf]; omega)
                    · have dA : decide (0 ≤ u) = false := decide_eq_false hA
                      have HV := Hkeep.out (Hsb.out.trans (if_neg (by rintro ⟨h, _⟩; exact hA h)))
                      have HV := Lib.hid HV
                      clear Hset Hkeep HM
                      go_wp2_with (go_at_call 46; refine (l00Min_any _ _ _).mono ?_; rintro e w' ⟨rfl, rfl⟩)
                      go_quiet ((go_at_call 42; exact Calls.quiet_of_same ((l00Size_any ((c : Int) - e) _ (by omega) (by omega)).mono fun e w' ⟨h1, h2⟩ => ⟨h1, h2.symm⟩)))
                      go_wp2
                      go_roundw
                      case rel => exact ⟨t + 1, e + 1, He2, by omega, by go_num, Lib.hid (by rw [HVq.out]; exact HV.out.drewN nq)⟩
                      case measure => first | omega | (simp [intOf]; done) | (simp [intOf]; omega)
                  · have htw : e = min 60 (c + 6) + 1 := by omega
                    have hdd : decide ((e : Int) ≤ min 60 ((c : Int) + 6)) = false := decide_eq_false (by omega)
                    have HF : Hid (TabL w wy w.heap.size n j g' T (partR x low high nxt enc 0 (c + 1))) := by
                      refine Lib.hid (HM.out.as ?_)
                      rw [← Hst.out, Hgd.out, Hnn.out]
                      show (partR x low high (some r) enc 0 c).set c _ = (partR x low high (some r) enc 0 c).set c (enc (best r c))
                      rw [← Hbw.out, show t = min 60 (c + 6) + 1 - (c - 6) by have h1 := He.out; omega]
                    go_wp2_with (go_at_call 46; refine (l00Min_any _ _ _).mono ?_; rintro e w' ⟨rfl, rfl⟩)
                    go_roundw
                    case rel => exact ⟨c + 1, by go_num, by omega, HF⟩
                    case measure => first | omega | (simp [intOf]; done) | (simp [intOf]; omega)
        · have hc61 : c = 61 := by omega
          have HE : Hid (TabD w wr w.heap.size n j g' T) := by
            refine Lib.hid (HC.out.done ?_)
            rw [HT.out, tabS_eq xs low high Hl.out hjn, ← Hxx.out, ← Hnx.out, hc61]
            exact partR_all
          subst hc61
          go_wp2
          go_roundw
          case rel => exact ⟨j, g', by omega, by go_num, HE⟩
          case measure => first | omega | (simp [intOf]; done) | (simp [intOf]; omega)
end Go.Proofs.Ytkglcfeopicakaa
