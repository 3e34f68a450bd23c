/-
  Rows that go on for ever both ways, plainly: turns, periods, rows seen from behind, drafts of rows. No program in sight.
-/
import Derived.Test.YtggbnibdpkblgaaDoorTwillFace
import Derived.Test.YtggbnibdpkblgaaDoorTwillPlain
import Derived.Test.YtggbnibdpkblgaaDoorDraftPlain
namespace Go.Proofs.YtggbnibdpkblgaaDoor
open Go.RowKit
set_option linter.unusedVariables false

/-- the row that goes on for ever both ways -/
def cy (l : List UInt8) (i : Int) : UInt8 := l.getD (i % (l.length : Int)).toNat 0

theorem emod_pos {n : Nat} (h : 0 < n) (i : Int) : ∃ j : Nat, i % (n : Int) = (j : Int) ∧ j < n := by
  have h0 := Int.emod_nonneg i (show (n : Int) ≠ 0 by omega)
  have h1 := Int.emod_lt_of_pos i (show (0 : Int) < n by omega)
  obtain ⟨j, hj⟩ := Int.eq_ofNat_of_zero_le h0
  exact ⟨j, hj, by omega⟩
theorem cy_at {l : List UInt8} {i : Int} {j : Nat} (h : i % (l.length : Int) = (j : Int)) : cy l i = l.getD j 0 := by
  unfold cy; rw [h, Int.toNat_natCast]
theorem cy_nat {l : List UInt8} {k : Nat} (h : k < l.length) : cy l k = l.getD k 0 := cy_at (Int.emod_eq_of_lt (by omega) (by omega))
theorem cy_congr {l : List UInt8} {i j : Int} (h : i % (l.length : Int) = j % (l.length : Int)) : cy l i = cy l j := by
  unfold cy; rw [h]
theorem cy_mem {l : List UInt8} (h : 0 < l.length) (i : Int) : cy l i ∈ l := by
  obtain ⟨j, h1, h2⟩ := emod_pos h i
  rw [cy_at h1]
  simp [h2]
theorem cy_two {l : List UInt8} (h2 : two 70 66 l = true) (h : 0 < l.length) (i : Int) : cy l i = 70 ∨ cy l i = 66 := two_iff.1 h2 _ (cy_mem h i)

theorem perOk_cy {l : List UInt8} {p : Nat} (h : 0 < l.length) (h0 : 1 ≤ p) (hp : perOk l p = true) (i : Int) : cy l i = l.getD (i % (p : Int)).toNat 0 := by
  obtain ⟨h1, h2⟩ := perOk_iff.1 hp
  have hdvd : p ∣ l.length := Nat.dvd_of_mod_eq_zero h1
  have hpn : p ≤ l.length := Nat.le_of_dvd h hdvd
  obtain ⟨j, hj, hjn⟩ := emod_pos h i
  have hm : l.length = l.length / p * p := by have := Nat.div_add_mod l.length p; rw [Nat.mul_comm]; omega
  have hlt : (l.take p).length = p := by simp; omega
  have hr : j % p < p := Nat.mod_lt _ (by omega)
  have e1 : l[j]? = l[j % p]? := by
    conv => lhs; rw [← h2]
    rw [repeatL_get _ (by omega) _ _ (by rw [hlt, ← hm]; exact hjn), hlt, List.getElem?_take_of_lt hr]
  have e2 : i % (p : Int) = ((j % p : Nat) : Int) := by
    have h3 := Int.emod_emod_of_dvd i (show (p : Int) ∣ (l.length : Int) from Int.natCast_dvd_natCast.2 hdvd)
    rw [hj] at h3
    rw [← h3]; omega
  rw [cy_at hj, e2, Int.toNat_natCast]
  simp only [List.getD_eq_getElem?_getD, e1]
theorem cy_per {l : List UInt8} {p : Nat} (h : 0 < l.length) (h0 : 1 ≤ p) (hp : perOk l p = true) {i j : Int} (e : i % (p : Int) = j % (p : Int)) : cy l i = cy l j := by
  rw [perOk_cy h h0 hp, perOk_cy h h0 hp, e]
theorem perOk_le {l : List UInt8} {p : Nat} (h : 0 < l.length) (hp : perOk l p = true) : p ≤ l.length := Nat.le_of_dvd h (Nat.dvd_of_mod_eq_zero (perOk_iff.1 hp).1)
theorem perOk_of {l : List UInt8} {p : Nat} (h0 : 1 ≤ p) (hpn : p ≤ l.length) (hm : l.length % p = 0) (hc : ∀ i : Int, cy l (i + p) = cy l i) : perOk l p = true := by
  refine perOk_iff.2 ⟨hm, repeat_of_shift p h0 _ l (by have := Nat.div_add_mod l.length p; omega) ?_⟩
  apply List.ext_getElem?
  intro k
  by_cases hk : k < l.length - p
  · rw [List.getElem?_drop, List.getElem?_take_of_lt hk]
    have h1 := hc k
    rw [show (k : Int) + p = ((p + k : Nat) : Int) by omega, cy_nat (by omega), cy_nat (by omega)] at h1
    rw [List.getElem?_eq_getElem (show p + k < l.length by omega), List.getElem?_eq_getElem (show k < l.length by omega)]
    simpa [show p + k < l.length by omega, show k < l.length by omega] using h1
  · rw [List.getElem?_eq_none (by simp; omega), List.getElem?_eq_none (by simp; omega)]

/-! ### turns -/
def Rot (a b : List UInt8) : Prop := a.length = b.length ∧ 0 < a.length ∧ ∃ d : Int, ∀ k : Int, cy a k = cy b (k + d)
theorem rot_symm {a b : List UInt8} (h : Rot a b) : Rot b a := by
  obtain ⟨h1, h2, d, h3⟩ := h
  exact ⟨h1.symm, by omega, -d, fun k => by rw [h3 (k + -d), show k + -d + d = k by omega]⟩
theorem rot_turn {l : List UInt8} {i : Nat} (h : i < l.length) : Rot (turnW l i) l := by
  refine ⟨turnW_len l i, by rw [turnW_len]; omega, i, fun k => ?_⟩
  obtain ⟨j, hj, hjn⟩ := emod_pos (show 0 < l.length by omega) k
  have e1 : cy (turnW l i) k = (turnW l i).getD j 0 := cy_at (by rw [turnW_len]; exact hj)
  have e2 : (k + (i : Int)) % (l.length : Int) = (((i + j) % l.length : Nat) : Int) := by
    rw [← Int.emod_add_emod, hj]
    rw [show (j : Int) + (i : Int) = ((i + j : Nat) : Int) by omega]
    omega
  rw [e1, cy_at e2]
  have h3 := turnW_bat h hjn
  unfold bat at h3
  exact UInt8.toNat_inj.1 h3
theorem perOk_rot1 {a b : List UInt8} {p : Nat} (h : Rot a b) (h0 : 1 ≤ p) (hp : perOk a p = true) : perOk b p = true := by
  obtain ⟨h1, h2, d, h3⟩ := h
  refine perOk_of h0 (by rw [← h1]; exact perOk_le h2 hp) (by rw [← h1]; exact (perOk_iff.1 hp).1) fun i => ?_
  have e1 := h3 (i + p - d)
  have e2 := h3 (i - d)
  rw [show i + (p : Int) - d + d = i + p by omega] at e1
  rw [show i - d + d = i by omega] at e2
  rw [← e1, ← e2]
  refine cy_per h2 h0 hp ?_
  rw [show i + (p : Int) - d = (i - d) + p by omega, Int.add_emod_right]
theorem perOk_rot {a b : List UInt8} {p : Nat} (h : Rot a b) (h0 : 1 ≤ p) : perOk a p = perOk b p := by
  rw [Bool.eq_iff_iff]
  exact ⟨perOk_rot1 h h0, perOk_rot1 (rot_symm h) h0⟩
theorem perFrom_rot {a b : List UInt8} (h : Rot a b) : ∀ f p, 1 ≤ p → perFrom a f p = perFrom b f p
  | 0, p, _ => rfl
  | f + 1, p, h0 => by rw [perFrom, perFrom, perOk_rot h h0, perFrom_rot h f (p + 1) (by omega)]
theorem period_rot {a b : List UInt8} (h : Rot a b) : period a = period b := by
  unfold period; rw [h.1]; exact perFrom_rot h _ 1 (Nat.le_refl 1)

/-! ### one face -/
theorem rotE_cy {x y : List UInt8} {p i : Nat} (hx : 0 < x.length) (h0 : 1 ≤ p) (hy : p ≤ y.length) (hper : perOk x p = true) (hi : i < p) : rotE x y p i = true ↔ ∀ k : Nat, k < p → cy x ((i : Int) + k) = cy y k := by
  have hp := perOk_le hx hper
  have hE : rotE x y p i = (((x ++ x).drop i).take p == y.take p) := by
    rw [twice_rot h0 hp hper (by simp; omega), Nat.mod_eq_of_lt hi]; rfl
  rw [hE, beq_iff_eq]
  have hget : ∀ k, k < p → ((x ++ x).drop i)[k]? = some (cy x ((i : Int) + k)) := by
    intro k hk
    rw [List.getElem?_drop, twice_get h0 hp hper (by simp; omega), perOk_cy hx h0 hper]
    have hr : (i + k) % p < p := Nat.mod_lt _ (by omega)
    rw [show (i : Int) + k = ((i + k : Nat) : Int) by omega, show ((i + k : Nat) : Int) % (p : Int) = (((i + k) % p : Nat) : Int) by omega, Int.toNat_natCast]
    simp [show (i + k) % p < x.length by omega]
  have hget2 : ∀ k, k < p → y[k]? = some (cy y k) := by
    intro k hk
    rw [cy_nat (by omega)]
    simp [show k < y.length by omega]
  constructor
  · intro h k hk
    have h1 : (((x ++ x).drop i).take p)[k]? = (y.take p)[k]? := by rw [h]
    rw [List.getElem?_take_of_lt hk, List.getElem?_take_of_lt hk, hget k hk, hget2 k hk] at h1
    exact Option.some.inj h1
  · intro h
    apply List.ext_getElem?
    intro k
    by_cases hk : k < p
    · rw [List.getElem?_take_of_lt hk, List.getElem?_take_of_lt hk, hget k hk, hget2 k hk, h k hk]
    · rw [List.getElem?_eq_none (by simp; omega), List.getElem?_eq_none (by simp; omega)]
theorem rotTo_cy {x y : List UInt8} {p : Nat} (hx : 0 < x.length) (hy : 0 < y.length) (h0 : 1 ≤ p) (px : perOk x p = true) (py : perOk y p = true) : rotTo x y p p = true ↔ ∃ d : Int, ∀ k : Int, cy x (k + d) = cy y k := by
  rw [rotTo_iff]
  constructor
  · rintro ⟨i, hi, h⟩
    rw [rotE_cy hx h0 (perOk_le hy py) px hi] at h
    refine ⟨i, fun k => ?_⟩
    obtain ⟨j, hj, hjp⟩ := emod_pos (show 0 < p by omega) k
    have e1 : cy y k = cy y j := cy_per hy h0 py (by rw [hj]; exact (Int.emod_eq_of_lt (by omega) (by omega)).symm)
    rw [e1, ← h j hjp]
    refine cy_per hx h0 px ?_
    rw [← Int.emod_add_emod, hj, Int.add_comm]
  · rintro ⟨d, h⟩
    obtain ⟨j, hj, hjp⟩ := emod_pos (show 0 < p by omega) d
    refine ⟨j, hjp, (rotE_cy hx h0 (perOk_le hy py) px hjp).2 fun k hk => ?_⟩
    rw [← h k]
    refine cy_per hx h0 px ?_
    rw [← hj, Int.emod_add_emod, Int.add_comm]
theorem rotTo_symm {x y : List UInt8} {p : Nat} (hx : 0 < x.length) (hy : 0 < y.length) (h0 : 1 ≤ p) (px : perOk x p = true) (py : perOk y p = true) : rotTo x y p p = rotTo y x p p := by
  rw [Bool.eq_iff_iff, rotTo_cy hx hy h0 px py, rotTo_cy hy hx h0 py px]
  constructor
  · rintro ⟨d, h⟩; exact ⟨-d, fun k => by rw [← h (k + -d), show k + -d + d = k by omega]⟩
  · rintro ⟨d, h⟩; exact ⟨-d, fun k => by rw [← h (k + -d), show k + -d + d = k by omega]⟩
theorem faceEq_symm {x y : List UInt8} {st st' : Int} (hx : 0 < x.length) (hy : 0 < y.length) : faceEq x y st st' = faceEq y x st' st := by
  unfold faceEq
  by_cases hp : period x = period y
  · have px := period_ok (l := x) (by omega)
    have py := period_ok (l := y) (by omega)
    have h0 := (period_bd (l := x) (by omega)).1
    rw [← hp] at py
    rw [← hp, rotTo_symm hx hy h0 px py]
    simp only [decide_true, Bool.true_and]
    congr 1
    rw [decide_eq_decide]
    exact ⟨fun h => h.symm, fun h => h.symm⟩
  · have hp' : period y ≠ period x := fun h => hp h.symm
    simp [hp, hp']
theorem faceEq_rot {x y : List UInt8} {st : Int} (h : Rot x y) : faceEq x y st st = true := by
  have hx := h.2.1
  have hy : 0 < y.length := by rw [← h.1]; exact hx
  have e := period_rot h
  have px := period_ok (l := x) (by omega)
  have py := period_ok (l := y) (by omega)
  have h0 := (period_bd (l := x) (by omega)).1
  rw [← e] at py
  unfold faceEq
  rw [← e]
  simp only [decide_true, Bool.true_and]
  obtain ⟨_, _, d, h3⟩ := rot_symm h
  exact (rotTo_cy hx hy h0 px py).2 ⟨d, fun k => (h3 k).symm⟩
/-! ### drafts of rows -/
theorem rowTo_congr {xs ys : List Int} : ∀ k, (∀ j, j < k → xs.getD j 0 = ys.getD j 0) → rowTo xs k = rowTo ys k
  | 0, _ => rfl
  | k + 1, h => by
    show rowTo xs k ++ _ = rowTo ys k ++ _
    rw [rowTo_congr k (fun j hj => h j (by omega)), h k (by omega)]
theorem rowW_app (ps : List Int) : rowW (ps ++ [1]) = rowW ps ++ [letter ps.length] := by
  unfold rowW
  rw [List.length_append, List.length_singleton]
  show rowTo (ps ++ [1]) ps.length ++ List.replicate ((ps ++ [1]).getD ps.length 0).toNat (letter ps.length) = _
  rw [rowTo_congr (ys := ps) ps.length (fun j hj => by simp [List.getElem?_append_left, hj])]
  simp
theorem rowW_inc {ps : List Int} (h : 1 ≤ ps.length) (hpos : 0 ≤ ps.getD (ps.length - 1) 0) : rowW (incLast ps) = rowW ps ++ [letter (ps.length - 1)] := by
  unfold rowW
  rw [incLast_len]
  obtain ⟨m, hm⟩ : ∃ m, ps.length = m + 1 := ⟨ps.length - 1, by omega⟩
  rw [hm]
  show rowTo (incLast ps) m ++ List.replicate ((incLast ps).getD m 0).toNat (letter m) = (rowTo ps m ++ List.replicate (ps.getD m 0).toNat (letter m)) ++ [letter (m + 1 - 1)]
  rw [hm, Nat.add_sub_cancel] at hpos
  rw [Nat.add_sub_cancel, rowTo_congr (ys := ps) m (fun j hj => by
    unfold incLast
    rw [hm, Nat.add_sub_cancel]
    simp [show ¬ m = j by omega])]
  have e : (incLast ps).getD m 0 = ps.getD m 0 + 1 := by
    unfold incLast
    rw [hm, Nat.add_sub_cancel]
    simp [show m < ps.length by omega]
  rw [e, show (ps.getD m 0 + 1).toNat = (ps.getD m 0).toNat + 1 by omega, List.replicate_succ', List.append_assoc]
theorem letter_next {n : Nat} {c : UInt8} (h : c = 70 ∨ c = 66) (hne : c ≠ letter n) : c = letter (n + 1) := by
  unfold letter at *
  by_cases hp : n % 2 = 0
  · have hq : ¬ (n + 1) % 2 = 0 := by omega
    rw [if_pos hp] at hne; rw [if_neg hq]
    rcases h with h | h
    · exact absurd h hne
    · exact h
  · have hq : (n + 1) % 2 = 0 := by omega
    rw [if_neg hp] at hne; rw [if_pos hq]
    rcases h with h | h
    · exact h
    · exact absurd h hne
theorem parts_row {l : List UInt8} (h2 : two 70 66 l = true) (h0 : l.getD 0 0 = 70) : ∀ k, k + 1 ≤ l.length → rowW (partsTo l (k + 1)) = l.take (k + 1) ∧ letter ((partsTo l (k + 1)).length - 1) = l.getD k 0 ∧ ∀ x ∈ partsTo l (k + 1), 1 ≤ x
  | 0, hk => by
    have e : partsTo l (0 + 1) = [1] := by simp [partsTo]
    rw [e]
    refine ⟨?_, h0.symm, by simp⟩
    rw [take_snocD (d := 0) (show 0 < l.length by omega), h0]
    rfl
  | k + 1, hk => by
    obtain ⟨i1, i2, i3⟩ := parts_row h2 h0 k (by omega)
    have hpos := partsTo_pos l k
    obtain ⟨ps, hps⟩ : ∃ ps, partsTo l (k + 1) = ps := ⟨_, rfl⟩
    have hd : partsTo l (k + 1 + 1) = if decide (k + 1 = 0) || decide (bat l (k + 1) ≠ bat l (k + 1 - 1)) then partsTo l (k + 1) ++ [1] else incLast (partsTo l (k + 1)) := rfl
    rw [hps] at i1 i2 i3 hpos hd
    rw [hd, take_snocD (d := 0) (show k + 1 < l.length by omega), ← i1]
    have hlet := two_iff.1 h2 (l.getD (k + 1) 0) (by simp [show k + 1 < l.length by omega])
    by_cases hne : l.getD (k + 1) 0 = l.getD k 0
    · have hb : bat l (k + 1) = bat l (k + 1 - 1) := by unfold bat; rw [Nat.add_sub_cancel, hne]
      rw [if_neg (by simp [hb]), rowW_inc hpos (by
        have := i3 (ps.getD (ps.length - 1) 0) (by simp [show ps.length - 1 < ps.length by omega])
        omega), incLast_len, i2, hne]
      refine ⟨rfl, rfl, fun x hx => ?_⟩
      unfold incLast at hx
      rcases List.mem_or_eq_of_mem_set hx with h | h
      · exact i3 x h
      · have := i3 (ps.getD (ps.length - 1) 0) (by simp [show ps.length - 1 < ps.length by omega])
        omega
    · have hb : bat l (k + 1) ≠ bat l (k + 1 - 1) := by
        unfold bat; rw [Nat.add_sub_cancel]
        exact fun e => hne (UInt8.toNat_inj.1 e)
      rw [if_pos (by simp only [Bool.or_eq_true, decide_eq_true_eq]; exact .inr hb), rowW_app]
      have hl := letter_next hlet (show l.getD (k + 1) 0 ≠ letter (ps.length - 1) by rw [i2]; exact hne)
      rw [show ps.length - 1 + 1 = ps.length by omega] at hl
      refine ⟨by rw [hl], ?_, fun x hx => ?_⟩
      · rw [List.length_append, List.length_singleton, Nat.add_sub_cancel]; exact hl.symm
      · rcases List.mem_append.1 hx with h | h
        · exact i3 x h
        · simp at h; omega
theorem draft_ok {l : List UInt8} {st : Int} (h2 : two 70 66 l = true) (h0 : l.getD 0 0 = 70) (hz : l.getD (l.length - 1) 0 = 66) (hn : 2 ≤ l.length) (h12 : l.length ≤ 12) (hs0 : 1 ≤ st) (hs1 : st ≤ (l.length : Int) - 1) : vTwill (partsW l) st = true ∧ rowW (partsW l) = l := by
  obtain ⟨m, hm⟩ : ∃ m, l.length = m + 1 := ⟨l.length - 1, by omega⟩
  obtain ⟨h3, h4, h5⟩ := parts_row h2 h0 m (by omega)
  have hpw : partsW l = partsTo l (m + 1) := by unfold partsW; rw [hm]
  rw [hpw]
  have hrow : rowW (partsTo l (m + 1)) = l := by rw [h3, ← hm, List.take_length]
  refine ⟨?_, hrow⟩
  have hbd := partsTo_bd l (m + 1)
  have heach : eachIn (partsTo l (m + 1)) 1 12 = true := eachIn_iff.2 fun x hx => ⟨h5 x hx, by have := (hbd x hx).2; omega⟩
  have hw := rowW_len heach
  rw [hrow] at hw
  have hpos := partsTo_pos l m
  rw [hm, Nat.add_sub_cancel] at hz
  rw [hz] at h4
  have hodd : ((partsTo l (m + 1)).length - 1) % 2 ≠ 0 := by
    intro e
    unfold letter at h4
    rw [if_pos e] at h4
    exact absurd h4 (by decide)
  unfold vTwill
  simp only [Bool.and_eq_true, decide_eq_true_eq]
  exact ⟨⟨⟨⟨heach, by omega⟩, by omega⟩, by omega⟩, inB_iff.2 ⟨hs0, by omega⟩⟩
theorem turnT_ok {l : List UInt8} {i : Nat} (h2 : two 70 66 l = true) (hi : goodI l = some i) : turnT l = turnW l i ∧ i < l.length ∧ (turnT l).length = l.length ∧ two 70 66 (turnT l) = true ∧ (turnT l).getD 0 0 = 70 ∧ (turnT l).getD (l.length - 1) 0 = 66 := by
  have h3 := goodFrom_some hi
  have hil : i < l.length := by omega
  have e : turnT l = turnW l i := by unfold turnT; rw [hi]
  have hg := h3.2.2.1
  unfold goodT at hg
  simp only [Bool.and_eq_true, beq_iff_eq] at hg
  rw [e]
  refine ⟨rfl, hil, turnW_len l i, two_iff.2 fun c hc => two_iff.1 h2 c ((turnW_mem l i).1 hc), ?_, ?_⟩
  · have := turnW_bat hil (k := 0) (by omega)
    rw [Nat.add_zero, Nat.mod_eq_of_lt hil, hg.1] at this
    exact UInt8.toNat_inj.1 this
  · have := turnW_bat hil (k := l.length - 1) (by omega)
    rw [show i + (l.length - 1) = i + l.length - 1 by omega, hg.2] at this
    exact UInt8.toNat_inj.1 this
theorem turnT_draft {l : List UInt8} {i : Nat} {st : Int} (h2 : two 70 66 l = true) (hi : goodI l = some i) (hn : 2 ≤ l.length) (h12 : l.length ≤ 12) (hs0 : 1 ≤ st) (hs1 : st ≤ (l.length : Int) - 1) : vTwill (partsW (turnT l)) st = true ∧ rowW (partsW (turnT l)) = turnT l := by
  obtain ⟨e, hil, h3, h4, h5, h6⟩ := turnT_ok h2 hi
  exact draft_ok h4 h5 (by rw [h3]; exact h6) (by omega) (by omega) hs0 (by omega)
end Go.Proofs.YtggbnibdpkblgaaDoor
