/-
  Drafts, the plain facts of their law: a plain twill has no floats, both sides share the front, a draft's face is a turn of the row. No program in sight.
-/
import Derived.Test.YtggbnibdpkblgaaDoorTwillLaw
import Derived.Test.YtggbnibdpkblgaaDoorTwill8
namespace Go.Proofs.YtggbnibdpkblgaaDoor
open Go.RowKit
set_option linter.unusedVariables false

/-! ### a plain twill has no floats -/
theorem runK_one {l : List UInt8} (h : ∀ i, 0 < i → bat l (i % l.length) ≠ bat l ((i - 1) % l.length)) : ∀ i, runK l i ≤ 1
  | 0 => by simp [runK]
  | i + 1 => by
    have ih := runK_one h i
    unfold runK
    by_cases h0 : 0 < i
    · rw [if_pos ⟨h0, h i h0⟩]; omega
    · obtain rfl : i = 0 := by omega
      simp [runK]
theorem longRun_one {l : List UInt8} (h1 : 1 ≤ l.length) (h : ∀ i, 0 < i → bat l (i % l.length) ≠ bat l ((i - 1) % l.length)) : longRun l = 1 := by
  have hm : ∀ N, mostK l N ≤ 1 := by
    intro N
    induction N with
    | zero => simp [mostK]
    | succ N ih => have := runK_one h (N + 1); unfold mostK; omega
  have h2 := hm (2 * l.length)
  have h3 := mostK_pos l (i := 2 * l.length) (by omega)
  unfold longRun; omega
theorem plain_cy {l : List UInt8} {st : Int} (hl : 0 < l.length) (hp : plainTo l st l.length = true) (i : Int) : cy l i ≠ cy l (i + 1) ∧ cy l i ≠ cy l (i + st) := by
  obtain ⟨j, hj, hjn⟩ := emod_pos hl i
  have h := List.all_eq_true.1 hp j (List.mem_range.2 hjn)
  unfold plainAt at h
  simp only [Bool.and_eq_true, bne_iff_ne] at h
  have e0 : cy l i = l.getD j 0 := cy_at hj
  constructor
  · intro e
    refine h.1 ?_
    have e1 : (i + 1) % (l.length : Int) = (((j + 1) % l.length : Nat) : Int) := by
      rw [← Int.emod_add_emod, hj, show (j : Int) + 1 = ((j + 1 : Nat) : Int) by omega]; omega
    rw [e0, cy_at e1] at e
    unfold bat; rw [e]
  · intro e
    refine h.2 ?_
    have e1 : cy l (i + st) = l.getD (((j : Int) + st) % (l.length : Int)).toNat 0 := by
      unfold cy; rw [← Int.emod_add_emod, hj]
    rw [e0, e1] at e
    unfold bat; rw [e]
theorem plain_floats {xs : List Int} {st : Int} (hv : vTwill xs st = true) (hp : plainTo (rowW xs) st (rowW xs).length = true) : floatsR xs st = (1, 1, 0) := by
  obtain ⟨he, h7, hN0, hN1, hst0, hst1⟩ := row_factsB hv
  obtain ⟨l, hl⟩ : ∃ l, rowW xs = l := ⟨_, rfl⟩
  unfold floatsR
  rw [if_pos hv]
  rw [hl] at hN0 hN1 hst1 hp ⊢
  have hpc := fun i => plain_cy (l := l) (st := st) (by omega) hp i
  have hbat : ∀ i : Nat, bat l (i % l.length) = (cy l i).toNat := by
    intro i
    rw [cy_at (show (i : Int) % (l.length : Int) = ((i % l.length : Nat) : Int) by omega)]; rfl
  have e1 : longRun l = 1 := longRun_one (by omega) fun i hi e => by
    rw [hbat, hbat] at e
    have h := (hpc ((i - 1 : Nat) : Int)).1
    rw [show ((i - 1 : Nat) : Int) + 1 = (i : Int) by omega] at h
    exact h (UInt8.toNat_inj.1 e).symm
  have e2 : ∀ k : Nat, stakeRun l st k = 1 := by
    intro k
    unfold stakeRun
    obtain ⟨s1, s2, s3, s4, s5⟩ := againN_spec (n := l.length) (st := st) (by omega) hst0
    obtain ⟨q, hq⟩ := again_dvd (p := l.length) (st := st) (by omega) hst0
    obtain ⟨m, hm⟩ : ∃ m, againN l.length st = m := ⟨_, rfl⟩
    rw [hm] at s2 hq ⊢
    have hA : ∀ i : Nat, bat (alongL l k ((l.length : Int) - st) m) (i % m) = (cy l ((k : Int) - st * i)).toNat := by
      intro i
      have hr : i % m < m := Nat.mod_lt _ (by omega)
      unfold bat
      rw [alongL_get hr, alongIdx]
      have e3 : cy l ((k : Int) - st * ((i % m : Nat) : Int)) = cy l ((k : Int) - st * i) := cy_congr (by
        have h4 := Nat.div_add_mod i m
        have h5 : (i : Int) = (m : Int) * ((i / m : Nat) : Int) + ((i % m : Nat) : Int) := by
          rw [← Int.natCast_mul]; omega
        conv => rhs; rw [h5]
        rw [Int.mul_add, ← Int.mul_assoc, hq, Int.mul_assoc]
        rw [show (k : Int) - ((l.length : Int) * (q * ((i / m : Nat) : Int)) + st * ((i % m : Nat) : Int)) = ((k : Int) - st * ((i % m : Nat) : Int)) + (l.length : Int) * (-(q * ((i / m : Nat) : Int))) by rw [Int.mul_neg]; omega, Int.add_mul_emod_self_left])
      rw [← e3]; rfl
    refine longRun_one (by rw [alongL_len]; omega) fun i hi e => ?_
    rw [alongL_len, hA, hA] at e
    have h := (hpc ((k : Int) - st * i)).2
    have e4 : (k : Int) - st * ((i - 1 : Nat) : Int) = (k : Int) - st * i + st := by
      have h6 : (i : Int) = ((i - 1 : Nat) : Int) + 1 := by omega
      conv => rhs; rw [h6]
      rw [Int.mul_add]; omega
    rw [e4] at e
    exact h (UInt8.toNat_inj.1 e)
  have e3 : ∀ n, 1 ≤ n → upR (stakeRun l st) n = 1 := by
    intro n
    induction n with
    | zero => intro h; omega
    | succ n ih =>
      intro _
      rw [upR, e2]
      by_cases h0 : n = 0
      · subst h0; rfl
      · rw [ih (by omega)]; rfl
  rw [e1, e3 _ (by omega)]
  rfl

/-! ### both sides share the front -/
theorem front_turn (l : List UInt8) (i : Nat) : frontT (turnW l i) = frontT l := by
  unfold frontT turnW
  conv => rhs; rw [← List.take_append_drop i l]
  rw [List.count_append, List.count_append, Nat.add_comm]
theorem front_back : ∀ {l : List UInt8}, two 70 66 l = true → frontT (backL l) + frontT l = l.length
  | [], _ => rfl
  | c :: l, h => by
    have hc := two_iff.1 h c (by simp)
    have ih := front_back (l := l) (two_iff.2 fun d hd => two_iff.1 h d (by simp [hd]))
    have e : backL (c :: l) = backL l ++ [othB c] := by simp [backL]
    unfold frontT at *
    rw [e, List.count_append]
    rcases hc with rfl | rfl
    · rw [show othB 70 = 66 from rfl]; simp; omega
    · rw [show othB 66 = 70 from rfl]; simp; omega
theorem low_sides {f g n : Nat} (h : g + f = n) (hn : 0 < n) : lowD (g : Int) n = lowD (f : Int) n ∧ lowN (g : Int) n + lowN (f : Int) n = lowD (f : Int) n := by
  have hg : gcdI (g : Int) n = gcdI (f : Int) n := by
    unfold gcdI
    rw [Int.toNat_natCast, Int.toNat_natCast, Int.toNat_natCast, ← h, Nat.gcd_self_add_right, Nat.gcd_add_self_right, Nat.gcd_comm]
  have hp := gcdI_pos (x := (f : Int)) (y := (n : Int)) (by omega) (by omega)
  obtain ⟨a1, a2⟩ := low_mul (a := (f : Int)) (b := (n : Int)) (by omega) (by omega)
  obtain ⟨b1, b2⟩ := low_mul (a := (g : Int)) (b := (n : Int)) (by omega) (by omega)
  have e1 : lowD (g : Int) n = lowD (f : Int) n := by unfold lowD; rw [hg]
  refine ⟨e1, ?_⟩
  rw [hg] at b1
  refine Int.eq_of_mul_eq_mul_right (show gcdI (f : Int) n ≠ 0 by omega) ?_
  rw [Int.add_mul, a1, b1, a2]; omega
theorem share_back {xs : List Int} {st : Int} (hv : vTwill xs st = true) : ∃ a b d : Int, shareR xs st = (a, d, 0) ∧ shareR (backP xs) (((rowW xs).length : Int) - st) = (b, d, 0) ∧ b + a = d ∧ 0 ≤ a ∧ a ≤ 12 ∧ 0 ≤ b ∧ b ≤ 12 := by
  obtain ⟨he, h7, hN0, hN1, hst0, hst1⟩ := row_factsB hv
  obtain ⟨h1, h2, h3, h4⟩ := backR_ok hv
  obtain ⟨i, k1, k2, k3, k4, k5⟩ := back_draft hv
  have hf : frontT (rowW (backP xs)) + frontT (rowW xs) = (rowW xs).length := by
    unfold backP
    rw [k5, k2, front_turn]
    exact front_back (rowTo_two xs xs.length)
  obtain ⟨s1, s2⟩ := low_sides hf (by omega)
  have hd0 : ∀ f : Nat, f ≤ (rowW xs).length → 0 ≤ lowN (f : Int) (rowW xs).length ∧ lowN (f : Int) (rowW xs).length ≤ 12 := by
    intro f hf
    have hp := gcdI_pos (x := (f : Int)) (y := ((rowW xs).length : Int)) (by omega) (by omega)
    have q0 : 0 ≤ lowN (f : Int) (rowW xs).length := Int.ediv_nonneg (by omega) (by omega)
    have q1 : lowN (f : Int) (rowW xs).length ≤ f := Int.ediv_le_self _ (by omega)
    omega
  refine ⟨lowN (frontT (rowW xs)) (rowW xs).length, lowN (frontT (rowW (backP xs))) (rowW xs).length, lowD (frontT (rowW xs)) (rowW xs).length, ?_, ?_, s2, (hd0 _ (by omega)).1, (hd0 _ (by omega)).2, (hd0 _ (by omega)).1, (hd0 _ (by omega)).2⟩
  · unfold shareR; rw [if_pos hv]
  · unfold shareR; rw [if_pos h2, h3, s1]

/-! ### one face, from either side -/
theorem sameFace_symm {xs ys : List Int} {st st' : Int} : sameFaceR xs ys st st' = sameFaceR ys xs st' st := by
  unfold sameFaceR
  cases hv : vTwill xs st
  · cases hv' : vTwill ys st' <;> rfl
  · cases hv' : vTwill ys st'
    · rfl
    · obtain ⟨_, _, a, _⟩ := row_factsB hv
      obtain ⟨_, _, b, _⟩ := row_factsB hv'
      rw [faceEq_symm (x := rowW xs) (y := rowW ys) (by omega) (by omega)]

/-! ### the face of a draft is a turn of the row -/
theorem line_self {l : List UInt8} {st : Int} : lineW l st l.length 0 = l := by
  apply List.ext_getElem?
  intro k
  by_cases hk : k < l.length
  · have h := lineW_at (l := l) (st := st) (m := l.length) (r := 0) hk
    rw [show (k : Int) - st * ((0 : Nat) : Int) = (k : Int) by simp, cy_nat hk] at h
    have h1 : k < (lineW l st l.length 0).length := by rw [lineW_len]; exact hk
    rw [List.getElem?_eq_getElem h1, List.getElem?_eq_getElem hk]
    simpa [h1, hk] using h
  · rw [List.getElem?_eq_none (by rw [lineW_len]; omega), List.getElem?_eq_none (by omega)]
theorem draft_face {l : List UInt8} {st : Int} {T : List Int} (h : draftR l st = (T, st, 0)) (hl : (draftR l st).2.2 = 0) : ∃ i, i < l.length ∧ 2 ≤ l.length ∧ l.length ≤ 12 ∧ faceR T st l.length 1 = ([turnW l i], 0) := by
  rw [h] at hl
  unfold draftR at h
  cases hs : (vS l && decide (2 ≤ l.length))
  · rw [hs] at h; simp at h
  · rw [hs] at h
    simp only [Bool.and_eq_true, decide_eq_true_eq] at hs
    cases hi : inB st 1 ((l.length : Int) - 1)
    · rw [hi] at h; simp at h
    · rw [hi] at h
      cases hb : bothB l
      · rw [hb] at h; simp at h
      · rw [hb] at h
        simp only [if_true] at h
        have hT : partsW (turnT l) = T := by
          have := congrArg Prod.fst h
          exact this
        obtain ⟨v1, v2, v3⟩ := vS_iff.1 hs.1
        have hst := inB_iff.1 hi
        obtain ⟨i, hg⟩ := bothB_good v3 hb
        obtain ⟨e, hil, hlen, _⟩ := turnT_ok v3 hg
        obtain ⟨d1, d2⟩ := turnT_draft v3 hg hs.2 v2 hst.1 hst.2
        rw [hT] at d1 d2
        refine ⟨i, hil, hs.2, v2, ?_⟩
        unfold faceR
        rw [if_pos d1, if_pos (by rw [Bool.and_eq_true]; exact ⟨inB_iff.2 ⟨by omega, by omega⟩, by decide⟩), d2, Int.toNat_natCast]
        have e1 : faceTo (turnT l) st l.length (1 : Int).toNat = [lineW (turnT l) st l.length 0] := rfl
        rw [e1]
        have e2 := line_self (l := turnT l) (st := st)
        rw [hlen] at e2
        rw [e2, e]
end Go.Proofs.YtggbnibdpkblgaaDoor
