/-
  Twills: one face, by walks.
-/
import Derived.Test.YtggbnibdpkblgaaDoorTwill6
import Derived.Test.YtggbnibdpkblgaaDoorTwillFace
import Derived.Test.YtggbnibdpkblgaaDoorRegTail
import Derived.Deep.RegionHeld3
namespace Go.Proofs.YtggbnibdpkblgaaDoor
open Go.RowKit
set_option linter.unusedVariables false

def sameFaceR (xs ys : List Int) (st st' : Int) : Bool × Int := if vTwill xs st && vTwill ys st' then (faceEq (rowW xs) (rowW ys) st st', 0) else (false, 1)
abbrev retBI (r : Bool × Int) : Ending := .returned (.tuple #[.bool r.1, .int .i64 r.2])
theorem twAt_below {w w' : World} {b : Nat} {a : Option Addr} {n c : Nat} {xs : List Int} {st : Int} (h : TwAt w b a n c xs st) (hb : Below w.heap.size w w') (hlt : b < w.heap.size) : TwAt w' b a n c xs st :=
  ⟨(hb.cell (p := ⟨b, 0, none⟩) hlt).trans h.1, (hb.cell (p := ⟨b, 1, none⟩) hlt).trans h.2.1, h.2.2.below hb⟩
theorem twAt_rv {w : World} {b : Nat} {a : Option Addr} {n c : Nat} {xs : List Int} {st : Int} (h : TwAt w b a n c xs st) : RV w a n c (ints xs) := h.2.2
theorem bel_same {w w2 : World} (h : w2 = w) : Below w.heap.size w w2 := h ▸ Below.refl _ _
theorem bel_drewN {w w2 : World} {q : Nat} (h : w2 = w.drewN q) : Below w.heap.size w w2 := h ▸ bdrewN (Below.refl _ _) q
theorem two_boxes {w : World} {a a' : Option Addr} {n n' c c' : Nat} {xs ys : List Int} (st st' : Int) (e : TypeId) (ha : RV w a n c (ints xs)) (hb : RV w a' n' c' (ints ys)) {W : World} (hW : W = (w.alloc (.cells #[.slice a n c, .int .i64 st] e)).alloc (.cells #[.slice a' n' c', .int .i64 st'] e)) :
    TwAt W w.heap.size a n c xs st ∧ TwAt W (w.heap.size + 1) a' n' c' ys st' ∧ Below w.heap.size w W ∧ w.heap.size + 1 < W.heap.size := by
  have h1 := TwAt.boxed st e ha
  have h2 := TwAt.boxed st' e (hb.below ((Below.refl _ _).alloc (Nat.le_refl _) (.cells #[.slice a n c, .int .i64 st] e)))
  rw [World.size_alloc] at h2
  subst hW
  exact ⟨twAt_below h1 ((Below.refl _ _).alloc (Nat.le_refl _) _) (by simp), h2, ((Below.refl _ _).alloc (Nat.le_refl _) _).alloc (by simp) _, by simp⟩
theorem fk_keep {w0 w1 w2 : World} {g : Nat} {a b c d : Value} (h : w1.cell? ⟨g, 0, none⟩ = some a ∧ w1.cell? ⟨g, 1, none⟩ = some b ∧ w1.cell? ⟨g + 1, 0, none⟩ = some c ∧ w1.cell? ⟨g + 1, 1, none⟩ = some d ∧ Below w0.heap.size w0 w1) (hb : Below w1.heap.size w1 w2) (hg : g + 1 < w0.heap.size) :
    w2.cell? ⟨g, 0, none⟩ = some a ∧ w2.cell? ⟨g, 1, none⟩ = some b ∧ w2.cell? ⟨g + 1, 0, none⟩ = some c ∧ w2.cell? ⟨g + 1, 1, none⟩ = some d ∧ Below w0.heap.size w0 w2 := by
  obtain ⟨h0, h1, h2, h3, h4⟩ := h
  have hg' : g + 1 < w1.heap.size := Nat.lt_of_lt_of_le hg h4.size
  exact ⟨(hb.cell (p := ⟨g, 0, none⟩) (by show g < _; omega)).trans h0, (hb.cell (p := ⟨g, 1, none⟩) (by show g < _; omega)).trans h1, (hb.cell (p := ⟨g + 1, 0, none⟩) hg').trans h2, (hb.cell (p := ⟨g + 1, 1, none⟩) hg').trans h3, bstep h4 hb (Nat.le_refl _)⟩
theorem fk_drew {w0 w1 : World} {g : Nat} {a b c d : Value} (h : w1.cell? ⟨g, 0, none⟩ = some a ∧ w1.cell? ⟨g, 1, none⟩ = some b ∧ w1.cell? ⟨g + 1, 0, none⟩ = some c ∧ w1.cell? ⟨g + 1, 1, none⟩ = some d ∧ Below w0.heap.size w0 w1) :
    w1.drew.cell? ⟨g, 0, none⟩ = some a ∧ w1.drew.cell? ⟨g, 1, none⟩ = some b ∧ w1.drew.cell? ⟨g + 1, 0, none⟩ = some c ∧ w1.drew.cell? ⟨g + 1, 1, none⟩ = some d ∧ Below w0.heap.size w0 w1.drew := by
  obtain ⟨h0, h1, h2, h3, h4⟩ := h
  exact ⟨h0, h1, h2, h3, bdrewN h4 1⟩
theorem fk_bel {w0 w1 : World} {g : Nat} {a b c d : Value} (h : w1.cell? ⟨g, 0, none⟩ = some a ∧ w1.cell? ⟨g, 1, none⟩ = some b ∧ w1.cell? ⟨g + 1, 0, none⟩ = some c ∧ w1.cell? ⟨g + 1, 1, none⟩ = some d ∧ Below w0.heap.size w0 w1) : Below w0.heap.size w0 w1 := h.2.2.2.2
theorem bel_cell {w w' : World} {g : Nat} {v : Value} (h : w.cell? ⟨g, 0, none⟩ = some v) (hb : Below w.heap.size w w') (hg : g < w.heap.size) : w'.cell? ⟨g, 0, none⟩ = some v := (hb.cell (p := ⟨g, 0, none⟩) hg).trans h

set_option maxHeartbeats 2000000 in
theorem specSameFace_any (a a' : Option Addr) (n n' c c' : Nat) (xs ys : List Int) (st st' : Int) (w : World) (ha : RV w a n c (ints xs)) (hb : RV w a' n' c' (ints ys)) :
    Calls Tryd.prog 16 #[.agg #[.slice a n c, .int .i64 st], .agg #[.slice a' n' c', .int .i64 st']] w fun e w' => e = retBI (sameFaceR xs ys st st') ∧ Below w.heap.size w w' := by
  obtain ⟨W0, hW0⟩ : ∃ W0 : World, W0 = (w.alloc (.cells #[.slice a n c, .int .i64 st] 28)).alloc (.cells #[.slice a' n' c', .int .i64 st'] 28) := ⟨_, rfl⟩
  obtain ⟨hA, hB, hBel, hlt⟩ := two_boxes st st' 28 ha hb hW0
  have HA := Lib.hid hA
  have HB := Lib.hid hB
  have HBel := Lib.hid hBel
  have Hok1 := Lib.hid (fun W h => l09Ok_any w.heap.size a n c xs st W h)
  have Hok2 := Lib.hid (fun W h => l09Ok_any (w.heap.size + 1) a' n' c' ys st' W h)
  clear ha hb hA hB hBel
  cases hv : vTwill xs st
  · rw [show sameFaceR xs ys st st' = (false, 1) by simp [sameFaceR, hv]]
    rw [hv] at Hok1
    clear hv
    go_enter Tryd.func16, Tryd.ntmps16
    go_wp2_with fail
    rw [← hW0]
    with_reducible refine (Hok1.out _ HA.out).mono ?_
    rintro e w1 ⟨rfl, q1, hq1⟩
    have Hb1 := Lib.hid (bel_drewN hq1)
    clear hq1
    go_wp2_with fail
    go_ret2
    exact ⟨rfl, bstep HBel.out Hb1.out (Nat.le_refl _)⟩
  · rw [hv] at Hok1
    cases hv' : vTwill ys st'
    · rw [show sameFaceR xs ys st st' = (false, 1) by simp [sameFaceR, hv']]
      rw [hv'] at Hok2
      clear hv hv'
      go_enter Tryd.func16, Tryd.ntmps16
      go_wp2_with fail
      rw [← hW0]
      with_reducible refine (Hok1.out _ HA.out).mono ?_
      rintro e w1 ⟨rfl, q1, hq1⟩
      have Hb1 := Lib.hid (bel_drewN hq1)
      have HB1 := Lib.hid (twAt_below HB.out Hb1.out hlt)
      clear hq1
      go_wp2_with fail
      with_reducible refine (Hok2.out _ HB1.out).mono ?_
      rintro e w2 ⟨rfl, q2, hq2⟩
      have Hb2 := Lib.hid (bstep Hb1.out (bel_drewN hq2) (Nat.le_refl _))
      clear hq2
      go_wp2_with fail
      go_ret2
      exact ⟨rfl, bstep HBel.out Hb2.out (Nat.le_refl _)⟩
    · rw [hv'] at Hok2
      obtain ⟨he1, h71, hN01, hN11, hst0, hst1⟩ := row_facts hv
      obtain ⟨he2, h72, hN02, hN12, hst0', hst1'⟩ := row_facts hv'
      have Hrow1 := Lib.hid (fun W h => l09Row_any w.heap.size a n c xs st W he1 h71 h)
      have Hrow2 := Lib.hid (fun W h => l09Row_any (w.heap.size + 1) a' n' c' ys st' W he2 h72 h)
      rw [show sameFaceR xs ys st st' = (faceEq (rowW xs) (rowW ys) st st', 0) by simp [sameFaceR, hv, hv']]
      obtain ⟨x, Hx⟩ : ∃ x, Hid (x = rowW xs) := ⟨_, rfl⟩
      obtain ⟨y, Hy⟩ : ∃ y, Hid (y = rowW ys) := ⟨_, rfl⟩
      rw [← Hx.out] at hN01 hN11 hst1 Hrow1 ⊢
      rw [← Hy.out] at hN02 hN12 hst1' Hrow2 ⊢
      obtain ⟨X, HX⟩ : ∃ X, Hid (X = str x) := ⟨_, rfl⟩
      obtain ⟨Y, HY⟩ : ∃ Y, Hid (Y = str y) := ⟨_, rfl⟩
      rw [← HX.out] at Hrow1
      rw [← HY.out] at Hrow2
      have hXs : X.size = x.length := by rw [HX.out, str_size]
      have hYs : Y.size = y.length := by rw [HY.out, str_size]
      have Hp1 := Lib.hid (fun W => l09Period_any X W (by omega) (by omega))
      have Hp2 := Lib.hid (fun W => l09Period_any Y W (by omega) (by omega))
      rw [show X.data.toList = x by rw [HX.out, str_list]] at Hp1
      rw [show Y.data.toList = y by rw [HY.out, str_list]] at Hp2
      have hpb1 := period_bd (l := x) (by omega)
      have hpb2 := period_bd (l := y) (by omega)
      have Hres := Lib.hid (show faceEq x y st st' = (decide (period x = period y) && decide (st % (period x : Int) = st' % (period x : Int)) && rotTo x y (period x) (period x)) from rfl)
      generalize faceEq x y st st' = R at *
      generalize period x = p at *
      generalize period y = p' at *
      have hz : (p : Int) ≠ 0 := by omega
      have hz' : p ≠ 0 := by omega
      have hpp0 : (p == 0) = false := by simp; omega
      obtain ⟨m1, hm1⟩ : ∃ m, st % (p : Int) = m := ⟨_, rfl⟩
      obtain ⟨m2, hm2⟩ : ∃ m, st' % (p : Int) = m := ⟨_, rfl⟩
      have hm1t : st.tmod (p : Int) = m1 := by rw [Int.tmod_eq_emod_of_nonneg (by omega)]; exact hm1
      have hm2t : st'.tmod (p : Int) = m2 := by rw [Int.tmod_eq_emod_of_nonneg (by omega)]; exact hm2
      rw [hm1, hm2] at Hres
      have hXb : X.size ≤ 12 := by omega
      have hYb : Y.size ≤ 12 := by omega
      have hpX : p ≤ X.size := by omega
      have hpXi : (p : Int) ≤ X.size := by omega
      clear hv hv' he1 h71 he2 h72
      go_enter Tryd.func16, Tryd.ntmps16
      go_wp2_with fail
      rw [← hW0]
      with_reducible refine (Hok1.out _ HA.out).mono ?_
      rintro e w1 ⟨rfl, q1, hq1⟩
      have Hb1 := Lib.hid (bel_drewN hq1)
      have HB1 := Lib.hid (twAt_below HB.out Hb1.out hlt)
      clear hq1
      go_wp2_with fail
      with_reducible refine (Hok2.out _ HB1.out).mono ?_
      rintro e w2 ⟨rfl, q2, hq2⟩
      have Hb2 := Lib.hid (bstep Hb1.out (bel_drewN hq2) (Nat.le_refl _))
      have HA2 := Lib.hid (twAt_below HA.out Hb2.out (by omega))
      have HB2 := Lib.hid (twAt_below HB.out Hb2.out hlt)
      clear hq2
      go_wp2_with fail
      with_reducible refine (Hrow1.out _ HA2.out).mono ?_
      rintro e w3 ⟨rfl, rfl⟩
      go_wp2_with fail
      with_reducible refine (Hrow2.out _ HB2.out).mono ?_
      rintro e w3 ⟨rfl, rfl⟩
      go_wp2_with fail
      with_reducible refine (Hp1.out _).mono ?_
      rintro e w4 ⟨rfl, q4, hq4⟩
      have Hb4 := Lib.hid (bstep Hb2.out (bel_drewN hq4) (Nat.le_refl _))
      have hA4 := twAt_below HA.out Hb4.out (by omega)
      have hB4 := twAt_below HB.out Hb4.out hlt
      have c1 := hA4.2.1
      have c2 := hB4.2.1
      have HBel4 := Lib.hid (bstep HBel.out Hb4.out (Nat.le_refl _))
      clear hq4 hA4 hB4
      by_cases hpp : p = p'
      · subst hpp
        by_cases hmm : m1 = m2
        · have HR := Lib.hid (show R = rotTo x y p p by rw [Hres.out, hmm]; simp)
          have b1 : (m1 != m2) = false := by simp [hmm]
          have b2 : (m1 == m2) = true := by simp [hmm]
          subst hmm
          clear Hres
          go_wp2_with fail
          go_quiet ((go_at_call 49; exact Calls.quiet_of (Hp2.out _)))
          have Hb5 := Lib.hid (bdrewN HBel4.out nq)
          generalize w4.drewN nq = w5 at *
          go_wp2_with fail
          go_loopw [9] (fun i wr => ∃ k q : Nat, k ≤ p ∧ i = .int .i64 k ∧ Hid (rotTo x y p k = false) ∧ Hid (wr = w5.drewN q)) (fun i _ => p - (intOf i).toNat)
          case atStart => exact ⟨0, 0, Nat.zero_le _, rfl, Lib.hid rfl, Lib.hid rfl⟩
          case round =>
            obtain ⟨k, q, hk, rfl, Hno, Hw⟩ := hrel
            by_cases hkp : k < p
            · have d0 : decide ((k : Int) < p) = true := by simp; omega
              have d0' : decide (k < p) = true := by simp; omega
              have hki : (k : Int) ≤ p := by omega
              have hkX : (k : Int) ≤ X.size := by omega
              have hkXn : k ≤ X.size := by omega
              have hpY : (p : Int) ≤ Y.size := by omega
              have hpYn : p ≤ Y.size := by omega
              have x1 : (X.extract k p ++ X.extract 0 k).toList = (x.drop k).take (p - k) ++ x.take k := by
                rw [ByteArray.toList_eq, data_app]
                congr 1
                · rw [HX.out]; simp [str, List.take_drop, show k + (p - k) = p by omega]
                · rw [HX.out]; simp [str]
              have x2 : (Y.extract 0 p).toList = y.take p := by rw [ByteArray.toList_eq, HY.out]; simp [str]
              have t1 : ((X.extract k p ++ X.extract 0 k).toList == (Y.extract 0 p).toList) = rotE x y p k := by rw [x1, x2]; rfl
              have s1 : (X.extract k p).size ≤ 12 := by simp; omega
              have s2 : (X.extract 0 k).size ≤ 12 := by simp; omega
              have n1 : ¬ (9223372036854775807 < (X.extract k p).size + (X.extract 0 k).size) := by omega
              have Hst := Lib.hid (show rotTo x y p (k + 1) = (rotTo x y p k || rotE x y p k) from rfl)
              obtain ⟨Z1, hZ1⟩ : ∃ Z, X.extract k p = Z := ⟨_, rfl⟩
              obtain ⟨Z2, hZ2⟩ : ∃ Z, X.extract 0 k = Z := ⟨_, rfl⟩
              obtain ⟨Z3, hZ3⟩ : ∃ Z, Y.extract 0 p = Z := ⟨_, rfl⟩
              rw [hZ1, hZ2, hZ3] at t1
              rw [hZ1, hZ2] at n1
              clear x1 x2 s1 s2
              cases hr : rotE x y p k
              · rw [hr] at t1
                have Hst2 := Lib.hid (show rotTo x y p (k + 1) = false by rw [Hst.out, Hno.out, hr]; rfl)
                clear hr
                go_wp2_with fail
                go_quiet (fail)
                go_wp2
                go_roundw
                case rel => exact ⟨k + 1, q + nq, by omega, by go_num, Hst2, Lib.hid (by rw [Hw.out, World.drewN_drewN])⟩
                case measure => simp [intOf]; omega
              · rw [hr] at t1
                have HR2 := Lib.hid (show R = true by rw [HR.out]; exact (rotTo_iff x y p p).2 ⟨k, hkp, hr⟩)
                clear hr
                go_wp2_with fail
                go_quiet (fail)
                go_wp2
                go_ret2
                exact ⟨by rw [HR2.out]; rfl, by rw [Hw.out]; exact bdrewN (bdrewN Hb5.out q) _⟩
            · have d0 : decide ((k : Int) < p) = false := by simp; omega
              have d0' : decide (k < p) = false := by simp; omega
              have HR2 := Lib.hid (show R = false by have h := Hno.out; rw [show k = p by omega] at h; rw [HR.out]; exact h)
              go_wp2_with fail
              go_ret2
              exact ⟨by rw [HR2.out]; rfl, by rw [Hw.out]; exact bdrewN Hb5.out q⟩
        · have HR := Lib.hid (show R = false by rw [Hres.out, decide_eq_false hmm]; simp)
          have b1 : (m1 != m2) = true := by simp [hmm]
          have b2 : (m1 == m2) = false := by simp [hmm]
          clear hmm Hres
          go_wp2_with fail
          go_quiet ((go_at_call 49; exact Calls.quiet_of (Hp2.out _)))
          go_wp2
          go_ret2
          exact ⟨by rw [HR.out]; rfl, bdrewN HBel4.out _⟩
      · have HR := Lib.hid (show R = false by rw [Hres.out, decide_eq_false hpp]; simp)
        have b1 : ((p : Int) != (p' : Int)) = true := by simp; omega
        have b2 : ((p : Int) == (p' : Int)) = false := by simp; omega
        have b3 : (p != p') = true := by simp [hpp]
        have b4 : (p == p') = false := by simp [hpp]
        clear hpp Hres
        go_wp2_with fail
        go_quiet ((go_at_call 49; exact Calls.quiet_of (Hp2.out _)))
        go_wp2
        go_ret2
        exact ⟨by rw [HR.out]; rfl, bdrewN HBel4.out _⟩
set_option maxHeartbeats 4000000 in
theorem sameFace_any (a a' : Option Addr) (n n' c c' : Nat) (xs ys : List Int) (st st' mx : Int) (w : World) (ha : RV w a n c (ints xs)) (hb : RV w a' n' c' (ints ys)) (hm : w.cell? ⟨0, 0, none⟩ = some (.int .i64 mx)) :
    Calls Tryd.prog 15 #[.agg #[.slice a n c, .int .i64 st], .agg #[.slice a' n' c', .int .i64 st']] w fun e w' => e = retBI (sameFaceR xs ys st st') ∧ Below w.heap.size w w' := by
  have hm0 : 0 < w.heap.size := World.block_lt_of_cell? w ⟨0, 0, none⟩ hm
  obtain ⟨W0, hW0⟩ : ∃ W0 : World, W0 = (w.alloc (.cells #[.slice a n c, .int .i64 st] 28)).alloc (.cells #[.slice a' n' c', .int .i64 st'] 28) := ⟨_, rfl⟩
  obtain ⟨hA, hB, hBel, hlt⟩ := two_boxes st st' 28 ha hb hW0
  have Hm0 := Lib.hid (bel_cell hm hBel hm0)
  have HA := Lib.hid hA
  have HB := Lib.hid hB
  have HBel := Lib.hid hBel
  have Hok1 := Lib.hid (fun W h => validTwill_any a n c xs st W h)
  have Hok2 := Lib.hid (fun W h => validTwill_any a' n' c' ys st' W h)
  have k0 := hA.1
  have k1 := hA.2.1
  have k2 := hB.1
  have k3 := hB.2.1
  clear ha hb hA hB hBel hm
  cases hv : vTwill xs st
  · rw [show sameFaceR xs ys st st' = (false, 1) by simp [sameFaceR, hv]]
    rw [hv] at Hok1
    clear hv k0 k1 k2 k3
    go_enter Tryd.func15, Tryd.ntmps15
    go_wp2_with fail
    rw [← hW0]
    with_reducible refine (Hok1.out _ (twAt_rv HA.out)).mono ?_
    rintro e w1 ⟨rfl, hb1⟩
    go_wp2_with fail
    go_ret2
    exact ⟨rfl, bstep HBel.out hb1 (Nat.le_refl _)⟩
  · rw [hv] at Hok1
    cases hv' : vTwill ys st'
    · rw [show sameFaceR xs ys st st' = (false, 1) by simp [sameFaceR, hv']]
      rw [hv'] at Hok2
      clear hv hv' k0 k1 k2 k3
      go_enter Tryd.func15, Tryd.ntmps15
      go_wp2_with fail
      rw [← hW0]
      with_reducible refine (Hok1.out _ (twAt_rv HA.out)).mono ?_
      rintro e w1 ⟨rfl, hb1⟩
      have Hb1 := Lib.hid hb1
      have HB1 := Lib.hid (twAt_below HB.out hb1 hlt)
      have k2 := HB1.out.1
      have k3 := HB1.out.2.1
      clear hb1
      go_wp2_with fail
      with_reducible refine (Hok2.out _ (twAt_rv HB1.out)).mono ?_
      rintro e w2 ⟨rfl, hb2⟩
      have Hb2 := Lib.hid (bstep Hb1.out hb2 (Nat.le_refl _))
      clear hb2
      go_wp2_with fail
      go_ret2
      exact ⟨rfl, bstep HBel.out Hb2.out (Nat.le_refl _)⟩
    · rw [hv'] at Hok2
      obtain ⟨he1, h71, hN01, hN11, hst0, hst1⟩ := row_facts hv
      obtain ⟨he2, h72, hN02, hN12, hst0', hst1'⟩ := row_facts hv'
      have Hrow1 := Lib.hid (fun W h => rowOf_any a n c xs st W he1 h71 h)
      have Hrow2 := Lib.hid (fun W h => rowOf_any a' n' c' ys st' W he2 h72 h)
      rw [show sameFaceR xs ys st st' = (faceEq (rowW xs) (rowW ys) st st', 0) by simp [sameFaceR, hv, hv']]
      obtain ⟨x, Hx⟩ : ∃ x, Hid (x = rowW xs) := ⟨_, rfl⟩
      obtain ⟨y, Hy⟩ : ∃ y, Hid (y = rowW ys) := ⟨_, rfl⟩
      rw [← Hx.out] at hN01 hN11 hst1 Hrow1 ⊢
      rw [← Hy.out] at hN02 hN12 hst1' Hrow2 ⊢
      obtain ⟨X, HX⟩ : ∃ X, Hid (X = str x) := ⟨_, rfl⟩
      obtain ⟨Y, HY⟩ : ∃ Y, Hid (Y = str y) := ⟨_, rfl⟩
      rw [← HX.out] at Hrow1
      rw [← HY.out] at Hrow2
      have hXs : X.size = x.length := by rw [HX.out, str_size]
      have hYs : Y.size = y.length := by rw [HY.out, str_size]
      have Hp1 := Lib.hid (fun W => periodOf_any X W (by omega) (by omega))
      have Hp2 := Lib.hid (fun W => periodOf_any Y W (by omega) (by omega))
      rw [show X.data.toList = x by rw [HX.out, str_list]] at Hp1
      rw [show Y.data.toList = y by rw [HY.out, str_list]] at Hp2
      have hpb1 := period_bd (l := x) (by omega)
      have hpb2 := period_bd (l := y) (by omega)
      have Hper := Lib.hid (period_ok (l := x) (by omega))
      have Hres := Lib.hid (show faceEq x y st st' = (decide (period x = period y) && decide (st % (period x : Int) = st' % (period x : Int)) && rotTo x y (period x) (period x)) from rfl)
      generalize faceEq x y st st' = R at *
      generalize period x = p at *
      generalize period y = p' at *
      have hz : (p : Int) ≠ 0 := by omega
      have hz' : p ≠ 0 := by omega
      have hpp0 : (p == 0) = false := by simp; omega
      obtain ⟨m1, hm1⟩ : ∃ m, st % (p : Int) = m := ⟨_, rfl⟩
      obtain ⟨m2, hm2⟩ : ∃ m, st' % (p : Int) = m := ⟨_, rfl⟩
      have hm1t : st.tmod (p : Int) = m1 := by rw [Int.tmod_eq_emod_of_nonneg (by omega)]; exact hm1
      have hm2t : st'.tmod (p : Int) = m2 := by rw [Int.tmod_eq_emod_of_nonneg (by omega)]; exact hm2
      rw [hm1, hm2] at Hres
      have hXb : X.size ≤ 12 := by omega
      have hYb : Y.size ≤ 12 := by omega
      have HXs := Lib.hid hXs
      have HYs := Lib.hid hYs
      have hpY0 : p' ≤ Y.size := by omega
      clear hXs hYs
      have nXX : ¬ (9223372036854775807 < X.size + X.size) := by omega
      clear hv hv' he1 h71 he2 h72 k0 k1 k2 k3
      go_enter Tryd.func15, Tryd.ntmps15
      go_wp2_with fail
      rw [← hW0]
      with_reducible refine (Hok1.out _ (twAt_rv HA.out)).mono ?_
      rintro e w1 ⟨rfl, hb1⟩
      have Hb1 := Lib.hid hb1
      have HB1 := Lib.hid (twAt_below HB.out hb1 hlt)
      have k2 := HB1.out.1
      have k3 := HB1.out.2.1
      clear hb1
      go_wp2_with fail
      with_reducible refine (Hok2.out _ (twAt_rv HB1.out)).mono ?_
      rintro e w2 ⟨rfl, hb2⟩
      clear k2 k3
      have Hb2 := Lib.hid (bstep Hb1.out hb2 (Nat.le_refl _))
      have HA2 := Lib.hid (twAt_below HA.out Hb2.out (by omega))
      have HB2 := Lib.hid (twAt_below HB.out Hb2.out hlt)
      have Hm2 := Lib.hid (bel_cell Hm0.out Hb2.out (by have := HBel.out.size; omega))
      have Hlt2 := Lib.hid (show w.heap.size + 1 < w2.heap.size by have := Hb2.out.size; omega)
      have HBel2 := Lib.hid (bstep HBel.out Hb2.out (Nat.le_refl _))
      obtain ⟨k0, k1, _⟩ := HA2.out
      obtain ⟨k2, k3, _⟩ := HB2.out
      have Hgle := Lib.hid (Nat.le_refl w.heap.size)
      generalize hg0 : w.heap.size = g0 at *
      have Hg0 := Lib.hid (show g0 ≤ w.heap.size from Nat.le_of_eq hg0.symm)
      have Hge := Lib.hid hg0
      clear hg0 Hgle
      obtain ⟨wa, hwa⟩ : ∃ wa : World, wa = w2 := ⟨_, rfl⟩
      subst hwa
      clear hb2
      go_wp2_with fail
      go_region_held3 (fun w' => w'.cell? ⟨g0, 0, none⟩ = some (.slice a n c) ∧ w'.cell? ⟨g0, 1, none⟩ = some (.int .i64 st) ∧ w'.cell? ⟨g0 + 1, 0, none⟩ = some (.slice a' n' c') ∧ w'.cell? ⟨g0 + 1, 1, none⟩ = some (.int .i64 st') ∧ Below wa.heap.size wa w') (first | assumption | exact ⟨k0, k1, k2, k3, Below.refl _ _⟩ | exact fk_drew ⟨k0, k1, k2, k3, Below.refl _ _⟩ | exact fk_drew (by assumption) | exact fk_keep (by assumption) hb2 Hlt2.out) (first | (go_at_call 37; (with_reducible refine (Hrow1.out _ ((twAt_rv HA2.out).below (fk_bel (by assumption)))).mono ?_); rintro e w2 ⟨rfl, hb2⟩) | (go_at_call 37; (with_reducible refine (Hrow2.out _ ((twAt_rv HB2.out).below (fk_bel (by assumption)))).mono ?_); rintro e w2 ⟨rfl, hb2⟩))
      all_goals
        rename_i hH
        obtain ⟨i0, i1, i2, i3, hE⟩ := hH
        have HE := Lib.hid hE
        clear hE k0 k1 k2 k3
        go_wp2_with fail
        with_reducible refine (Hp1.out _).mono ?_
        rintro e w4 ⟨rfl, hb4⟩
        have HE4 := Lib.hid (bstep HE.out hb4 (Nat.le_refl _))
        obtain ⟨j0, j1, j2, j3, _⟩ := fk_keep ⟨i0, i1, i2, i3, HE.out⟩ hb4 Hlt2.out
        have Hlt4 := Lib.hid (show g0 + 1 < w4.heap.size by have h1 := HE4.out.size; have h2 := Hlt2.out; omega)
        have HBel4 := Lib.hid (bstep HBel2.out HE4.out Hg0.out)
        have Hm4 := Lib.hid (bel_cell Hm2.out HE4.out (World.block_lt_of_cell? wa ⟨0, 0, none⟩ Hm2.out))
        have Hm4lt := Lib.hid (World.block_lt_of_cell? w4 ⟨0, 0, none⟩ Hm4.out)
        clear hb4 i0 i1 i2 i3
        by_cases hpp : p = p'
        · subst hpp
          by_cases hmm : m1 = m2
          · have HR0 := Lib.hid (show R = rotTo x y p p by rw [Hres.out, hmm]; simp)
            have b1 : (m1 != m2) = false := by simp [hmm]
            have b2 : (m1 == m2) = true := by simp [hmm]
            have hpY : (p : Int) ≤ Y.size := by omega
            have hpYn : p ≤ Y.size := by omega
            have Hct := Lib.hid (fun W (h : W.cell? ⟨0, 0, none⟩ = some (.int .i64 mx)) => show Calls Tryd.prog 48 #[.string (X ++ X), .string (Y.extract 0 p)] W fun e w' => e = .returned (.bool R) ∧ w' = W by
              have h2 := Tryd.strings_Contains (X ++ X) (Y.extract 0 p) mx W (by rw [ByteArray.size_append]; omega) h
              rw [data_app, show X.data.toList = x by rw [HX.out, str_list], show (Y.extract 0 p).data.toList = y.take p by rw [HY.out]; simp [str], contains_rot (by omega) (by omega) (by rw [← HYs.out]; omega) Hper.out, ← HR0.out] at h2
              exact h2)
            obtain ⟨R', HR⟩ : ∃ R', Hid (R = R') := ⟨R, rfl⟩
            rw [HR.out] at Hct
            subst hmm
            clear Hres
            go_wp2_with fail
            go_region_held3 (fun w' => w'.cell? ⟨g0, 0, none⟩ = some (.slice a n c) ∧ w'.cell? ⟨g0, 1, none⟩ = some (.int .i64 st) ∧ w'.cell? ⟨g0 + 1, 0, none⟩ = some (.slice a' n' c') ∧ w'.cell? ⟨g0 + 1, 1, none⟩ = some (.int .i64 st') ∧ Below w4.heap.size w4 w') (first | assumption | exact ⟨j0, j1, j2, j3, Below.refl _ _⟩ | exact fk_drew ⟨j0, j1, j2, j3, Below.refl _ _⟩ | exact fk_drew (by assumption) | exact fk_keep (by assumption) hb2 Hlt4.out) (first | (go_at_call 47; (with_reducible refine (Hp2.out _).mono ?_); rintro e w2 ⟨rfl, hb2⟩) | (go_at_call 48; (with_reducible refine (Hct.out _ (bel_cell Hm4.out (fk_bel (by assumption)) Hm4lt.out)).mono ?_); rintro e w2 ⟨rfl, hq⟩; have hb2 := bel_same hq; clear hq))
            all_goals
            rename_i hH
            have HE5 := Lib.hid (bstep HBel4.out (fk_bel hH) Hg0.out)
            clear hH
            go_wp2_with fail
            go_ret2
            exact ⟨by rw [HR.out]; rfl, by rw [Hge.out]; exact HE5.out⟩
          · have HR := Lib.hid (show R = false by rw [Hres.out, decide_eq_false hmm]; simp)
            have b1 : (m1 != m2) = true := by simp [hmm]
            have b2 : (m1 == m2) = false := by simp [hmm]
            clear hmm Hres
            have HS0 := Lib.hid (fk_drew ⟨j0, j1, j2, j3, Below.refl _ _⟩)
            go_wp2_with fail
            refine wp_region_head ((fun w' => w'.cell? ⟨g0, 0, none⟩ = some (.slice a n c) ∧ w'.cell? ⟨g0, 1, none⟩ = some (.int .i64 st) ∧ w'.cell? ⟨g0 + 1, 0, none⟩ = some (.slice a' n' c') ∧ w'.cell? ⟨g0 + 1, 1, none⟩ = some (.int .i64 st') ∧ Below w4.heap.size w4 w')) 24 (by kernel_rfl) (by decide) ?_
            generalize hwd : World.drew w4 = wd at HS0 ⊢
            clear hwd
            refine wpHead_take (i := 0) (v := ?_) rfl (by kernel_rfl) (fun _ _ _ h => h) (Or.inl ⟨by rfl, ?_⟩) HS0.out ?_
            rotate_left
            · intro w hSw; (try dsimp only at hSw); go_simp; (try with_reducible rfl)
            (try simp only [Act.put, List.setIfInBounds_toArray, List.set_cons_zero, List.set_cons_succ])
            refine wpHead_take (i := 1) (v := ?_) rfl (by kernel_rfl) (fun _ _ _ h => h) (Or.inl ⟨by rfl, ?_⟩) HS0.out ?_
            rotate_left
            · intro w hSw; (try dsimp only at hSw); go_simp; (try with_reducible rfl)
            (try simp only [Act.put, List.setIfInBounds_toArray, List.set_cons_zero, List.set_cons_succ])
            refine wpHead_one (i := 2) (by kernel_rfl) (by decide) rfl (fun K hK => ?_)
            go_simp
            with_reducible refine (Hp2.out _).mono ?_
            rintro e w2 ⟨rfl, hb2⟩
            have HS1 := Lib.hid (fk_keep HS0.out hb2 Hlt4.out)
            refine hK.out _ _ HS1.out ?_
            clear hK K
            (try simp only [Act.put, List.setIfInBounds_toArray, List.set_cons_zero, List.set_cons_succ])
            refine wpHead_take (i := 3) (v := ?_) rfl (by kernel_rfl) (fun _ _ _ h => h) (Or.inl ⟨by rfl, ?_⟩) HS1.out ?_
            rotate_left
            · intro w hSw; (try dsimp only at hSw); go_simp; (try with_reducible rfl)
            (try simp only [Act.put, List.setIfInBounds_toArray, List.set_cons_zero, List.set_cons_succ])
            refine wpHead_take (i := 4) (v := ?_) rfl (by kernel_rfl) (fun _ _ _ h => h) (Or.inl ⟨by rfl, ?_⟩) HS1.out ?_
            rotate_left
            · intro w hSw; (try dsimp only at hSw); go_simp; (try with_reducible rfl)
            (try simp only [Act.put, List.setIfInBounds_toArray, List.set_cons_zero, List.set_cons_succ])
            refine wpHead_take (i := 5) (v := ?_) rfl (by kernel_rfl) (fun _ _ _ h => h) (Or.inl ⟨by rfl, ?_⟩) HS1.out ?_
            rotate_left
            · intro w hSw; (try dsimp only at hSw); go_simp; (try with_reducible rfl)
            (try simp only [Act.put, List.setIfInBounds_toArray, List.set_cons_zero, List.set_cons_succ])
            refine wpHead_take (i := 6) (v := ?_) rfl (by kernel_rfl) (fun _ _ _ h => h) (Or.inl ⟨by rfl, ?_⟩) HS1.out ?_
            rotate_left
            · intro w hSw; (try dsimp only at hSw); go_simp; (try with_reducible rfl)
            (try simp only [Act.put, List.setIfInBounds_toArray, List.set_cons_zero, List.set_cons_succ])
            refine wpHead_take (i := 7) (v := ?_) rfl (by kernel_rfl) (fun _ _ _ h => h) (Or.inl ⟨by rfl, ?_⟩) HS1.out ?_
            rotate_left
            · intro w hSw; (try dsimp only at hSw); go_simp; (try with_reducible rfl)
            (try simp only [Act.put, List.setIfInBounds_toArray, List.set_cons_zero, List.set_cons_succ])
            refine wpHead_take (i := 8) (v := ?_) rfl (by kernel_rfl) (fun _ _ _ h => h) (Or.inl ⟨by rfl, ?_⟩) HS1.out ?_
            rotate_left
            · intro w hSw; (try dsimp only at hSw); go_simp; (try with_reducible rfl)
            (try simp only [Act.put, List.setIfInBounds_toArray, List.set_cons_zero, List.set_cons_succ])
            refine wpHead_take (i := 9) (v := ?_) rfl (by kernel_rfl) (fun _ _ _ h => h) (Or.inl ⟨by rfl, ?_⟩) HS1.out ?_
            rotate_left
            · intro w hSw; (try dsimp only at hSw); go_simp; (try with_reducible rfl)
            (try simp only [Act.put, List.setIfInBounds_toArray, List.set_cons_zero, List.set_cons_succ])
            refine wpHead_take (i := 10) (v := ?_) rfl (by kernel_rfl) (fun _ _ _ h => h) (Or.inl ⟨by rfl, ?_⟩) HS1.out ?_
            rotate_left
            · intro w hSw; (try dsimp only at hSw); go_simp; (try with_reducible rfl)
            (try simp only [Act.put, List.setIfInBounds_toArray, List.set_cons_zero, List.set_cons_succ])
            refine wpHead_take (i := 11) (v := ?_) rfl (by kernel_rfl) (fun _ _ _ h => h) (Or.inl ⟨by rfl, ?_⟩) HS1.out ?_
            rotate_left
            · intro w hSw; (try dsimp only at hSw); go_simp; (try with_reducible rfl)
            (try simp only [Act.put, List.setIfInBounds_toArray, List.set_cons_zero, List.set_cons_succ])
            refine wpHead_take (i := 12) (v := ?_) rfl (by kernel_rfl) (fun _ _ _ h => h) (Or.inl ⟨by rfl, ?_⟩) HS1.out ?_
            rotate_left
            · intro w hSw; (try dsimp only at hSw); go_simp; (try with_reducible rfl)
            (try simp only [Act.put, List.setIfInBounds_toArray, List.set_cons_zero, List.set_cons_succ])
            refine wpHead_take (i := 13) (v := ?_) rfl (by kernel_rfl) (fun _ _ _ h => h) (Or.inl ⟨by rfl, ?_⟩) HS1.out ?_
            rotate_left
            · intro w hSw; (try dsimp only at hSw); go_simp; (try with_reducible rfl)
            (try simp only [Act.put, List.setIfInBounds_toArray, List.set_cons_zero, List.set_cons_succ])
            refine wpHead_take (i := 14) (v := ?_) rfl (by kernel_rfl) (fun _ _ _ h => h) (Or.inl ⟨by rfl, ?_⟩) HS1.out ?_
            rotate_left
            · intro w hSw; (try dsimp only at hSw); go_simp; (try with_reducible rfl)
            (try simp only [Act.put, List.setIfInBounds_toArray, List.set_cons_zero, List.set_cons_succ])
            refine wpHead_take (i := 15) (v := ?_) rfl (by kernel_rfl) (fun _ _ _ h => h) (Or.inl ⟨by rfl, ?_⟩) HS1.out ?_
            rotate_left
            · intro w hSw; (try dsimp only at hSw); go_simp; (try with_reducible rfl)
            (try simp only [Act.put, List.setIfInBounds_toArray, List.set_cons_zero, List.set_cons_succ])
            refine wpHead_take (i := 16) (v := undef) rfl (by kernel_rfl) (fun _ _ _ h => h) (Or.inr ⟨by rfl, rfl⟩) HS1.out ?_
            (try simp only [Act.put, List.setIfInBounds_toArray, List.set_cons_zero, List.set_cons_succ])
            refine wpHead_take (i := 17) (v := undef) rfl (by kernel_rfl) (fun _ _ _ h => h) (Or.inr ⟨by rfl, rfl⟩) HS1.out ?_
            (try simp only [Act.put, List.setIfInBounds_toArray, List.set_cons_zero, List.set_cons_succ])
            refine wpHead_take (i := 18) (v := undef) rfl (by kernel_rfl) (fun _ _ _ h => h) (Or.inr ⟨by rfl, rfl⟩) HS1.out ?_
            (try simp only [Act.put, List.setIfInBounds_toArray, List.set_cons_zero, List.set_cons_succ])
            refine wpHead_take (i := 19) (v := undef) rfl (by kernel_rfl) (fun _ _ _ h => h) (Or.inr ⟨by rfl, rfl⟩) HS1.out ?_
            (try simp only [Act.put, List.setIfInBounds_toArray, List.set_cons_zero, List.set_cons_succ])
            refine wpHead_take (i := 20) (v := undef) rfl (by kernel_rfl) (fun _ _ _ h => h) (Or.inr ⟨by rfl, rfl⟩) HS1.out ?_
            (try simp only [Act.put, List.setIfInBounds_toArray, List.set_cons_zero, List.set_cons_succ])
            refine wpHead_take (i := 21) (v := undef) rfl (by kernel_rfl) (fun _ _ _ h => h) (Or.inr ⟨by rfl, rfl⟩) HS1.out ?_
            (try simp only [Act.put, List.setIfInBounds_toArray, List.set_cons_zero, List.set_cons_succ])
            refine wpHead_one (i := 22) (by kernel_rfl) (by decide) rfl (fun K hK => ?_)
            rw [if_neg]
            rotate_left
            · intro h; exact absurd (show false = true from h) (by decide)
            refine hK.out _ _ HS1.out ?_
            clear hK K
            (try simp only [Act.put, List.setIfInBounds_toArray, List.set_cons_zero, List.set_cons_succ])
            refine wpHead_take (i := 23) (v := ?_) rfl (by kernel_rfl) (fun _ _ _ h => h) (Or.inl ⟨by rfl, ?_⟩) HS1.out ?_
            rotate_left
            · intro w hSw; (try dsimp only at hSw); go_simp; (try with_reducible rfl)
            (try simp only [Act.put, List.setIfInBounds_toArray, List.set_cons_zero, List.set_cons_succ])
            refine wpHead_done (by kernel_rfl) ?_
            simp only [List.drop_succ_cons, List.drop_zero]
            have HE5 := Lib.hid (bstep HBel4.out (fk_bel HS1.out) Hg0.out)
            go_wp2_with fail
            go_ret2
            exact ⟨by rw [HR.out]; rfl, by rw [Hge.out]; exact HE5.out⟩
        · have HR := Lib.hid (show R = false by rw [Hres.out, decide_eq_false hpp]; simp)
          have b1 : ((p : Int) != (p' : Int)) = true := by simp; omega
          have b2 : ((p : Int) == (p' : Int)) = false := by simp; omega
          have b3 : (p != p') = true := by simp [hpp]
          have b4 : (p == p') = false := by simp [hpp]
          clear hpp Hres
          have HS0 := Lib.hid (fk_drew ⟨j0, j1, j2, j3, Below.refl _ _⟩)
          go_wp2_with fail
          refine wp_region_head ((fun w' => w'.cell? ⟨g0, 0, none⟩ = some (.slice a n c) ∧ w'.cell? ⟨g0, 1, none⟩ = some (.int .i64 st) ∧ w'.cell? ⟨g0 + 1, 0, none⟩ = some (.slice a' n' c') ∧ w'.cell? ⟨g0 + 1, 1, none⟩ = some (.int .i64 st') ∧ Below w4.heap.size w4 w')) 24 (by kernel_rfl) (by decide) ?_
          generalize hwd : World.drew w4 = wd at HS0 ⊢
          clear hwd
          refine wpHead_take (i := 0) (v := ?_) rfl (by kernel_rfl) (fun _ _ _ h => h) (Or.inl ⟨by rfl, ?_⟩) HS0.out ?_
          rotate_left
          · intro w hSw; (try dsimp only at hSw); go_simp; (try with_reducible rfl)
          (try simp only [Act.put, List.setIfInBounds_toArray, List.set_cons_zero, List.set_cons_succ])
          refine wpHead_take (i := 1) (v := ?_) rfl (by kernel_rfl) (fun _ _ _ h => h) (Or.inl ⟨by rfl, ?_⟩) HS0.out ?_
          rotate_left
          · intro w hSw; (try dsimp only at hSw); go_simp; (try with_reducible rfl)
          (try simp only [Act.put, List.setIfInBounds_toArray, List.set_cons_zero, List.set_cons_succ])
          refine wpHead_one (i := 2) (by kernel_rfl) (by decide) rfl (fun K hK => ?_)
          go_simp
          with_reducible refine (Hp2.out _).mono ?_
          rintro e w2 ⟨rfl, hb2⟩
          have HS1 := Lib.hid (fk_keep HS0.out hb2 Hlt4.out)
          refine hK.out _ _ HS1.out ?_
          clear hK K
          (try simp only [Act.put, List.setIfInBounds_toArray, List.set_cons_zero, List.set_cons_succ])
          refine wpHead_take (i := 3) (v := ?_) rfl (by kernel_rfl) (fun _ _ _ h => h) (Or.inl ⟨by rfl, ?_⟩) HS1.out ?_
          rotate_left
          · intro w hSw; (try dsimp only at hSw); go_simp; (try with_reducible rfl)
          (try simp only [Act.put, List.setIfInBounds_toArray, List.set_cons_zero, List.set_cons_succ])
          refine wpHead_take (i := 4) (v := ?_) rfl (by kernel_rfl) (fun _ _ _ h => h) (Or.inl ⟨by rfl, ?_⟩) HS1.out ?_
          rotate_left
          · intro w hSw; (try dsimp only at hSw); go_simp; (try with_reducible rfl)
          (try simp only [Act.put, List.setIfInBounds_toArray, List.set_cons_zero, List.set_cons_succ])
          refine wpHead_take (i := 5) (v := undef) rfl (by kernel_rfl) (fun _ _ _ h => h) (Or.inr ⟨by rfl, rfl⟩) HS1.out ?_
          (try simp only [Act.put, List.setIfInBounds_toArray, List.set_cons_zero, List.set_cons_succ])
          refine wpHead_take (i := 6) (v := undef) rfl (by kernel_rfl) (fun _ _ _ h => h) (Or.inr ⟨by rfl, rfl⟩) HS1.out ?_
          (try simp only [Act.put, List.setIfInBounds_toArray, List.set_cons_zero, List.set_cons_succ])
          refine wpHead_take (i := 7) (v := undef) rfl (by kernel_rfl) (fun _ _ _ h => h) (Or.inr ⟨by rfl, rfl⟩) HS1.out ?_
          (try simp only [Act.put, List.setIfInBounds_toArray, List.set_cons_zero, List.set_cons_succ])
          refine wpHead_take (i := 8) (v := undef) rfl (by kernel_rfl) (fun _ _ _ h => h) (Or.inr ⟨by rfl, rfl⟩) HS1.out ?_
          (try simp only [Act.put, List.setIfInBounds_toArray, List.set_cons_zero, List.set_cons_succ])
          refine wpHead_take (i := 9) (v := undef) rfl (by kernel_rfl) (fun _ _ _ h => h) (Or.inr ⟨by rfl, rfl⟩) HS1.out ?_
          (try simp only [Act.put, List.setIfInBounds_toArray, List.set_cons_zero, List.set_cons_succ])
          refine wpHead_take (i := 10) (v := undef) rfl (by kernel_rfl) (fun _ _ _ h => h) (Or.inr ⟨by rfl, rfl⟩) HS1.out ?_
          (try simp only [Act.put, List.setIfInBounds_toArray, List.set_cons_zero, List.set_cons_succ])
          refine wpHead_take (i := 11) (v := undef) rfl (by kernel_rfl) (fun _ _ _ h => h) (Or.inr ⟨by rfl, rfl⟩) HS1.out ?_
          (try simp only [Act.put, List.setIfInBounds_toArray, List.set_cons_zero, List.set_cons_succ])
          refine wpHead_take (i := 12) (v := undef) rfl (by kernel_rfl) (fun _ _ _ h => h) (Or.inr ⟨by rfl, rfl⟩) HS1.out ?_
          (try simp only [Act.put, List.setIfInBounds_toArray, List.set_cons_zero, List.set_cons_succ])
          refine wpHead_take (i := 13) (v := undef) rfl (by kernel_rfl) (fun _ _ _ h => h) (Or.inr ⟨by rfl, rfl⟩) HS1.out ?_
          (try simp only [Act.put, List.setIfInBounds_toArray, List.set_cons_zero, List.set_cons_succ])
          refine wpHead_take (i := 14) (v := ?_) rfl (by kernel_rfl) (fun _ _ _ h => h) (Or.inl ⟨by rfl, ?_⟩) HS1.out ?_
          rotate_left
          · intro w hSw; (try dsimp only at hSw); go_simp; (try with_reducible rfl)
          (try simp only [Act.put, List.setIfInBounds_toArray, List.set_cons_zero, List.set_cons_succ])
          refine wpHead_take (i := 15) (v := ?_) rfl (by kernel_rfl) (fun _ _ _ h => h) (Or.inl ⟨by rfl, ?_⟩) HS1.out ?_
          rotate_left
          · intro w hSw; (try dsimp only at hSw); go_simp; (try with_reducible rfl)
          (try simp only [Act.put, List.setIfInBounds_toArray, List.set_cons_zero, List.set_cons_succ])
          refine wpHead_take (i := 16) (v := undef) rfl (by kernel_rfl) (fun _ _ _ h => h) (Or.inr ⟨by rfl, rfl⟩) HS1.out ?_
          (try simp only [Act.put, List.setIfInBounds_toArray, List.set_cons_zero, List.set_cons_succ])
          refine wpHead_take (i := 17) (v := undef) rfl (by kernel_rfl) (fun _ _ _ h => h) (Or.inr ⟨by rfl, rfl⟩) HS1.out ?_
          (try simp only [Act.put, List.setIfInBounds_toArray, List.set_cons_zero, List.set_cons_succ])
          refine wpHead_take (i := 18) (v := undef) rfl (by kernel_rfl) (fun _ _ _ h => h) (Or.inr ⟨by rfl, rfl⟩) HS1.out ?_
          (try simp only [Act.put, List.setIfInBounds_toArray, List.set_cons_zero, List.set_cons_succ])
          refine wpHead_take (i := 19) (v := undef) rfl (by kernel_rfl) (fun _ _ _ h => h) (Or.inr ⟨by rfl, rfl⟩) HS1.out ?_
          (try simp only [Act.put, List.setIfInBounds_toArray, List.set_cons_zero, List.set_cons_succ])
          refine wpHead_take (i := 20) (v := undef) rfl (by kernel_rfl) (fun _ _ _ h => h) (Or.inr ⟨by rfl, rfl⟩) HS1.out ?_
          (try simp only [Act.put, List.setIfInBounds_toArray, List.set_cons_zero, List.set_cons_succ])
          refine wpHead_take (i := 21) (v := undef) rfl (by kernel_rfl) (fun _ _ _ h => h) (Or.inr ⟨by rfl, rfl⟩) HS1.out ?_
          (try simp only [Act.put, List.setIfInBounds_toArray, List.set_cons_zero, List.set_cons_succ])
          refine wpHead_one (i := 22) (by kernel_rfl) (by decide) rfl (fun K hK => ?_)
          rw [if_neg]
          rotate_left
          · intro h; exact absurd (show false = true from h) (by decide)
          refine hK.out _ _ HS1.out ?_
          clear hK K
          (try simp only [Act.put, List.setIfInBounds_toArray, List.set_cons_zero, List.set_cons_succ])
          refine wpHead_take (i := 23) (v := ?_) rfl (by kernel_rfl) (fun _ _ _ h => h) (Or.inl ⟨by rfl, ?_⟩) HS1.out ?_
          rotate_left
          · intro w hSw; (try dsimp only at hSw); go_simp; (try with_reducible rfl)
          (try simp only [Act.put, List.setIfInBounds_toArray, List.set_cons_zero, List.set_cons_succ])
          refine wpHead_done (by kernel_rfl) ?_
          simp only [List.drop_succ_cons, List.drop_zero]
          have HE5 := Lib.hid (bstep HBel4.out (fk_bel HS1.out) Hg0.out)
          go_wp2_with fail
          go_ret2
          exact ⟨by rw [HR.out]; rfl, by rw [Hge.out]; exact HE5.out⟩
end Go.Proofs.YtggbnibdpkblgaaDoor
