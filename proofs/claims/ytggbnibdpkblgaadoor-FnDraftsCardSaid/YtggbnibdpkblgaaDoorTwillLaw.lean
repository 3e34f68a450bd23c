/-
  Twills, the plain facts of the laws of twills: a face repeats as told, no float is longer than told, the back turned twice has the face. No program in sight.
-/
import Derived.Test.YtggbnibdpkblgaaDoorTwillBack
import Derived.Test.YtggbnibdpkblgaaDoorTwillCyc
import Derived.Test.YtggbnibdpkblgaaDoorTwill9
import Derived.Test.YtggbnibdpkblgaaDoorTwillFace2
namespace Go.Proofs.YtggbnibdpkblgaaDoor
open Go.RowKit
set_option linter.unusedVariables false

/-! ### seen from behind, twice -/
theorem othB_twice {c : UInt8} (h : c = 70 ∨ c = 66) : othB (othB c) = c := by rcases h with rfl | rfl <;> rfl
theorem cy_back {l : List UInt8} (h : 0 < l.length) (k : Int) : cy (backL l) k = othB (cy l (-1 - k)) := by
  obtain ⟨j, hj, hjn⟩ := emod_pos h k
  have e1 : cy (backL l) k = (backL l).getD j 0 := cy_at (by rw [backL_len]; exact hj)
  have e2 : (-1 - k) % (l.length : Int) = ((l.length - 1 - j : Nat) : Int) := by
    have h4 := Int.emod_add_mul_ediv k (l.length : Int)
    rw [hj] at h4
    have h3 : -1 - k = ((l.length - 1 - j : Nat) : Int) + (l.length : Int) * (-(k / (l.length : Int)) - 1) := by
      rw [Int.mul_sub, Int.mul_neg]; omega
    rw [h3, Int.add_mul_emod_self_left, Int.emod_eq_of_lt (by omega) (by omega)]
  rw [e1, cy_at e2]
  unfold backL
  simp [show j < l.length by omega, show l.length - 1 - j < l.length by omega]
theorem backL_backL {l : List UInt8} (h2 : two 70 66 l = true) : backL (backL l) = l := by
  unfold backL
  rw [List.map_reverse, List.reverse_reverse, List.map_map]
  conv => rhs; rw [← List.map_id l]
  exact List.map_congr_left fun c hc => othB_twice (two_iff.1 h2 c hc)
theorem rot_trans {a b c : List UInt8} (h : Rot a b) (k : Rot b c) : Rot a c := by
  obtain ⟨h1, h2, d, h3⟩ := h
  obtain ⟨k1, k2, e, k3⟩ := k
  exact ⟨h1.trans k1, h2, d + e, fun i => by rw [h3, k3, Int.add_assoc]⟩
theorem rot_back {a b : List UInt8} (h : Rot a b) : Rot (backL a) (backL b) := by
  obtain ⟨h1, h2, d, h3⟩ := h
  refine ⟨by rw [backL_len, backL_len, h1], by rw [backL_len]; exact h2, -d, fun k => ?_⟩
  rw [cy_back h2, cy_back (by omega), h3, show -1 - k + d = -1 - (k + -d) by omega]
theorem back_draft {xs : List Int} {st : Int} (hv : vTwill xs st = true) : ∃ i, i < (rowW xs).length ∧ turnT (backL (rowW xs)) = turnW (backL (rowW xs)) i ∧ (turnT (backL (rowW xs))).length = (rowW xs).length ∧
    vTwill (partsW (turnT (backL (rowW xs)))) (((rowW xs).length : Int) - st) = true ∧ rowW (partsW (turnT (backL (rowW xs)))) = turnT (backL (rowW xs)) := by
  obtain ⟨he, h7, hN0, hN1, hst0, hst1⟩ := row_factsB hv
  obtain ⟨i, hi⟩ := back_good he (vTwill_iff hv).2.1
  obtain ⟨e, hil, hl, _⟩ := turnT_ok backL_two hi
  rw [backL_len] at hil hl
  obtain ⟨d1, d2⟩ := turnT_draft (st := ((rowW xs).length : Int) - st) backL_two hi (by rw [backL_len]; omega) (by rw [backL_len]; omega) (by omega) (by rw [backL_len]; omega)
  exact ⟨i, hil, e, hl, d1, d2⟩
/-- the back of a good draft -/
def backP (xs : List Int) : List Int := partsW (turnT (backL (rowW xs)))
theorem backR_ok {xs : List Int} {st : Int} (hv : vTwill xs st = true) : backR xs st = (backP xs, ((rowW xs).length : Int) - st, 0) ∧ vTwill (backP xs) (((rowW xs).length : Int) - st) = true ∧ (rowW (backP xs)).length = (rowW xs).length ∧ Rot (rowW (backP xs)) (backL (rowW xs)) := by
  obtain ⟨i, h1, h2, h3, h4, h5⟩ := back_draft hv
  refine ⟨by unfold backR; rw [if_pos hv]; rfl, h4, by unfold backP; rw [h5, h3], ?_⟩
  unfold backP
  rw [h5, h2]
  exact rot_turn (by rw [backL_len]; exact h1)
theorem backR_bad {xs : List Int} {st : Int} (hv : vTwill xs st = false) : backR xs st = ([], 0, 1) := by
  unfold backR; rw [hv]; rfl
theorem back_twice {xs : List Int} {st : Int} (hv : vTwill xs st = true) :
    backR (backP xs) (((rowW xs).length : Int) - st) = (backP (backP xs), st, 0) ∧ sameFaceR (backP (backP xs)) xs st st = (true, 0) := by
  obtain ⟨h1, h2, h3, h4⟩ := backR_ok hv
  obtain ⟨k1, k2, k3, k4⟩ := backR_ok h2
  have e : ((rowW (backP xs)).length : Int) - (((rowW xs).length : Int) - st) = st := by rw [h3]; omega
  rw [e] at k1 k2
  refine ⟨k1, ?_⟩
  have hr : Rot (rowW (backP (backP xs))) (rowW xs) := by
    have h := rot_trans k4 (rot_back h4)
    rw [backL_backL (show two 70 66 (rowW xs) = true from rowTo_two xs xs.length)] at h
    exact h
  unfold sameFaceR
  rw [hv, k2, faceEq_rot hr]
  rfl

/-! ### a face repeats as told -/
theorem lineW_at {l : List UInt8} {st : Int} {m r k : Nat} (h : k < m) : (lineW l st m r).getD k 0 = cy l ((k : Int) - st * r) := by
  unfold lineW cy; simp [h]
theorem face_along {l : List UInt8} {st : Int} {m r k : Nat} (hl : 0 < l.length) (hk : k < m) (hp : period l ≤ k) : (lineW l st m r).getD k 0 = (lineW l st m r).getD (k - period l) 0 := by
  rw [lineW_at hk, lineW_at (by omega)]
  refine cy_per hl (period_bd (by omega)).1 (period_ok (by omega)) ?_
  rw [show (k : Int) - st * r = ((k - period l : Nat) : Int) - st * r + (period l : Int) by omega, Int.add_emod_right]
theorem again_dvd {p : Nat} {st : Int} (h : 1 ≤ p) (hs : 1 ≤ st) : ∃ q : Int, st * (againN p st : Int) = (p : Int) * q := by
  obtain ⟨h1, h2, h3, h4, h5⟩ := againN_spec (n := p) (st := st) h hs
  have hd := gcdI_dvd (x := (p : Int)) (y := st) (by omega) (by omega)
  obtain ⟨a, ha⟩ := hd.1
  obtain ⟨b, hb⟩ := hd.2
  have e : (againN p st : Int) = a := by
    rw [← h1]
    conv => lhs; arg 1; rw [ha]
    exact Int.mul_tdiv_cancel_left _ (by omega)
  refine ⟨b, ?_⟩
  rw [e]
  conv => lhs; rw [hb]
  conv => rhs; rw [ha]
  rw [Int.mul_assoc, Int.mul_assoc, Int.mul_comm b a]
theorem face_around {l : List UInt8} {st : Int} {m r k : Nat} (hl : 0 < l.length) (hs : 1 ≤ st) (hk : k < m) (hr : againN (period l) st ≤ r) : (lineW l st m r).getD k 0 = (lineW l st m (r - againN (period l) st)).getD k 0 := by
  rw [lineW_at hk, lineW_at hk]
  obtain ⟨q, hq⟩ := again_dvd (p := period l) (st := st) (period_bd (by omega)).1 hs
  refine cy_per hl (period_bd (by omega)).1 (period_ok (by omega)) ?_
  have e : (r : Int) = ((r - againN (period l) st : Nat) : Int) + (againN (period l) st : Int) := by omega
  rw [e, Int.mul_add, hq]
  rw [show (k : Int) - (st * ((r - againN (period l) st : Nat) : Int) + (period l : Int) * q) = ((k : Int) - st * ((r - againN (period l) st : Nat) : Int)) + (period l : Int) * (-q) by rw [Int.mul_neg]; omega, Int.add_mul_emod_self_left]
/-! ### no float is longer than told -/
theorem runK_ge {l : List UInt8} : ∀ t i, t ≤ i + 1 → (∀ s, s + 1 < t → bat l ((i - s) % l.length) = bat l ((i - s - 1) % l.length)) → t ≤ runK l (i + 1)
  | 0, i, _, _ => Nat.zero_le _
  | 1, i, _, _ => by unfold runK; split <;> omega
  | t + 2, i, ht, h => by
    have h0 := h 0 (by omega)
    rw [Nat.sub_zero] at h0
    obtain ⟨j, rfl⟩ : ∃ j, i = j + 1 := ⟨i - 1, by omega⟩
    have ih := runK_ge (t + 1) j (by omega) (fun s hs => by
      have := h (s + 1) (by omega)
      rw [show j + 1 - (s + 1) = j - s by omega] at this
      exact this)
    have e : runK l (j + 1 + 1) = (if 0 < j + 1 ∧ bat l ((j + 1) % l.length) ≠ bat l ((j + 1 - 1) % l.length) then 0 else runK l (j + 1)) + 1 := rfl
    rw [e, if_neg (fun hh => hh.2 h0)]
    omega
theorem mostK_ge {l : List UInt8} {k : Nat} : ∀ N, k + 1 ≤ N → runK l (k + 1) ≤ mostK l N
  | 0, h => by omega
  | N + 1, h => by
    show _ ≤ max (mostK l N) (runK l (N + 1))
    by_cases e : k = N
    · subst e; omega
    · have := mostK_ge (l := l) (k := k) N (by omega); omega
theorem run_long {l : List UInt8} (hF : (70 : UInt8) ∈ l) (hB : (66 : UInt8) ∈ l) {i : Int} {t : Nat} (h : ∀ s : Nat, s + 1 < t → cy l (i - s) = cy l (i - s - 1)) : t ≤ longRun l := by
  have hn : 0 < l.length := List.length_pos_of_mem hF
  have hall : ∀ s : Nat, s < t → cy l (i - s) = cy l i := by
    intro s
    induction s with
    | zero => intro _; simp
    | succ s ih =>
      intro hs
      rw [← ih (by omega), h s (by omega)]
      congr 1; omega
  have hle : t ≤ l.length := by
    apply Nat.le_of_not_lt
    intro hlt
    have key : ∀ c, c ∈ l → cy l i = c := by
      intro c hc
      obtain ⟨j, hj, hjc⟩ := List.getElem_of_mem hc
      obtain ⟨s, hs, hsn⟩ := emod_pos hn (i - j)
      rw [← hall s (by omega)]
      have e : cy l (i - s) = cy l j := cy_congr (by
        have h4 := Int.emod_add_mul_ediv (i - j) (l.length : Int)
        rw [hs] at h4
        rw [show i - (s : Int) = (j : Int) + (l.length : Int) * ((i - j) / (l.length : Int)) by omega, Int.add_mul_emod_self_left])
      rw [e, cy_nat hj]
      simp [hj, hjc]
    have e1 := key 70 hF
    have e2 := key 66 hB
    rw [e1] at e2
    exact absurd e2 (by decide)
  obtain ⟨j, hj, hjn⟩ := emod_pos hn i
  have hb : ∀ s : Nat, s + 1 ≤ l.length → bat l ((j + l.length - s) % l.length) = (cy l (i - s)).toNat := by
    intro s hs
    have e : (i - (s : Int)) % (l.length : Int) = (((j + l.length - s) % l.length : Nat) : Int) := by
      have h4 := Int.emod_add_mul_ediv i (l.length : Int)
      rw [hj] at h4
      have h5 : i - (s : Int) = ((j + l.length - s : Nat) : Int) + (l.length : Int) * (i / (l.length : Int) - 1) := by
        rw [Int.mul_sub]; omega
      rw [h5, Int.add_mul_emod_self_left]
      omega
    rw [cy_at e]; rfl
  have hk := runK_ge (l := l) t (j + l.length) (by omega) (fun s hs => by
    rw [hb s (by omega), show j + l.length - s - 1 = j + l.length - (s + 1) by omega, hb (s + 1) (by omega), h s hs]
    congr 2; omega)
  have := mostK_ge (l := l) (k := j + l.length) (2 * l.length) (by omega)
  unfold longRun; omega
/-- the run that ends with the last of the first k bytes -/
def lrun (L : List UInt8) : Nat → Nat
  | 0 => 0
  | k + 1 => (if 0 < k ∧ L.getD k 0 ≠ L.getD (k - 1) 0 then 0 else lrun L k) + 1
theorem lrun_back (L : List UInt8) : ∀ k s, s + 1 < lrun L (k + 1) → s + 1 ≤ k ∧ L.getD (k - s) 0 = L.getD (k - s - 1) 0
  | 0, s, h => by simp [lrun] at h
  | k + 1, s, h => by
    have e : lrun L (k + 1 + 1) = (if 0 < k + 1 ∧ L.getD (k + 1) 0 ≠ L.getD (k + 1 - 1) 0 then 0 else lrun L (k + 1)) + 1 := rfl
    rw [e] at h
    by_cases hc : 0 < k + 1 ∧ L.getD (k + 1) 0 ≠ L.getD (k + 1 - 1) 0
    · rw [if_pos hc] at h; omega
    · rw [if_neg hc] at h
      match s with
      | 0 =>
        refine ⟨by omega, ?_⟩
        have h2 : ¬ L.getD (k + 1) 0 ≠ L.getD (k + 1 - 1) 0 := fun hne => hc ⟨by omega, hne⟩
        exact Decidable.not_not.1 h2
      | s + 1 =>
        obtain ⟨h1, h2⟩ := lrun_back L k s (by omega)
        refine ⟨by omega, ?_⟩
        rw [show k + 1 - (s + 1) = k - s by omega]
        exact h2
theorem lrun_le {l : List UInt8} (hF : (70 : UInt8) ∈ l) (hB : (66 : UInt8) ∈ l) {st : Int} {m r k : Nat} (hk : k < m) : lrun (lineW l st m r) (k + 1) ≤ longRun l := by
  refine run_long hF hB (i := (k : Int) - st * r) fun s hs => ?_
  obtain ⟨h1, h2⟩ := lrun_back _ k s hs
  rw [lineW_at (by omega), lineW_at (by omega)] at h2
  rw [show (k : Int) - st * r - s = ((k - s : Nat) : Int) - st * r by omega, h2]
  congr 1; omega
theorem row_both {xs : List Int} {st : Int} (hv : vTwill xs st = true) : (70 : UInt8) ∈ rowW xs ∧ (66 : UInt8) ∈ rowW xs := by
  obtain ⟨he, h2, _⟩ := vTwill_iff hv
  exact ⟨rowTo_front he xs.length (Nat.le_refl _) (by omega), rowTo_behind he xs.length (Nat.le_refl _) h2⟩
end Go.Proofs.YtggbnibdpkblgaaDoor
