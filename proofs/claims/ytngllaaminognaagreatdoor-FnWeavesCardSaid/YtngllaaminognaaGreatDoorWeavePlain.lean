/-
  Weaves, plainly: runs of a text that goes on for ever, counted in two ways; loose stakes; sound weaves. No program in sight.
-/
import Derived.Test.YtngllaaminognaaGreatDoorStrs
import Derived.Test.YtngllaaminognaaGreatDoorDraftPlain
import Derived.Test.YtngllaaminognaaGreatDoorNumPlain
import Derived.Test.YtngllaaminognaaGreatDoorLists
namespace Go.Proofs.YtngllaaminognaaGreatDoor
open Go.RowKit
set_option linter.unusedVariables false

/-! ### runs -/
def dif (l : List UInt8) (i : Nat) : Bool := bat l (i % l.length) != bat l ((i + 1) % l.length)
theorem dif_false {l : List UInt8} {i : Nat} : dif l i = false ↔ bat l (i % l.length) = bat l ((i + 1) % l.length) := by simp [dif]
theorem dif_period (l : List UInt8) (i : Nat) : dif l (i + l.length) = dif l i := by
  unfold dif
  rw [Nat.add_mod_right, show i + l.length + 1 = (i + 1) + l.length by omega, Nat.add_mod_right]
/-- the run that lasts up to step i, as the reference counts it -/
def runE (l : List UInt8) : Nat → Nat
  | 0 => 0
  | i + 1 => if dif l i then 0 else runE l i + 1
def mostE (l : List UInt8) : Nat → Nat
  | 0 => 0
  | i + 1 => if dif l i then max (mostE l i) (runE l i + 1) else mostE l i
def runR (l : List UInt8) : Nat := mostE l (2 * l.length)
theorem runE_le (l : List UInt8) : ∀ i, runE l i ≤ i
  | 0 => by simp [runE]
  | i + 1 => by have := runE_le l i; rw [runE]; split <;> omega
theorem mostE_le (l : List UInt8) : ∀ i, mostE l i ≤ i
  | 0 => by simp [mostE]
  | i + 1 => by have := mostE_le l i; have := runE_le l i; rw [mostE]; split <;> omega
theorem runE_K (l : List UInt8) : ∀ i, runE l i + 1 = runK l (i + 1)
  | 0 => by simp [runE, runK]
  | i + 1 => by
    have ih := runE_K l i
    rw [runK, runE]
    simp only [Nat.add_sub_cancel]
    cases h : dif l i
    · have h2 := dif_false.1 h
      rw [if_neg (by simp), if_neg (by rintro ⟨_, h3⟩; exact h3 h2.symm), ih]
    · have h2 : bat l (i % l.length) ≠ bat l ((i + 1) % l.length) := by
        intro e; rw [dif_false.2 e] at h; cases h
      rw [if_pos rfl, if_pos ⟨by omega, fun e => h2 e.symm⟩]
theorem runK_one (l : List UInt8) (i : Nat) : 1 ≤ runK l (i + 1) := by rw [← runE_K]; omega
theorem mostE_ge {l : List UInt8} {i : Nat} (hd : dif l i = true) : ∀ m, i < m → runK l (i + 1) ≤ mostE l m
  | 0, h => by omega
  | m + 1, h => by
    rw [mostE]
    by_cases e : i = m
    · subst e
      rw [if_pos hd, runE_K]; omega
    · have := mostE_ge hd m (by omega)
      split <;> omega
theorem mostK_ge (l : List UInt8) {i : Nat} : ∀ m, i < m → runK l (i + 1) ≤ mostK l m
  | 0, h => by omega
  | m + 1, h => by
    rw [mostK]
    by_cases e : i = m
    · subst e; omega
    · have := mostK_ge l (i := i) m (by omega); omega
theorem mostK_bound {l : List UInt8} {B : Nat} : ∀ m, (∀ k, k < m → runK l (k + 1) ≤ B) → mostK l m ≤ B
  | 0, _ => by simp [mostK]
  | m + 1, h => by
    rw [mostK]
    have h1 := mostK_bound m fun k hk => h k (by omega)
    have h2 := h m (by omega)
    omega
theorem mostE_K (l : List UInt8) : ∀ m, mostE l m ≤ mostK l m
  | 0 => by simp [mostE]
  | m + 1 => by
    have h := mostE_K l m
    rw [mostE, mostK, ← runE_K]
    split <;> omega
theorem mostE_none {l : List UInt8} : ∀ m, (∀ i, i < m → dif l i = false) → mostE l m = 0
  | 0, _ => rfl
  | m + 1, h => by
    rw [mostE, if_neg (by rw [h m (by omega)]; simp)]
    exact mostE_none m fun i hi => h i (by omega)
theorem runK_on {l : List UInt8} {a : Nat} : ∀ d, (∀ j, a ≤ j → j < a + d → dif l j = false) → runK l (a + d + 1) = runK l (a + 1) + d
  | 0, _ => rfl
  | d + 1, h => by
    have ih := runK_on d fun j h1 h2 => h j h1 (by omega)
    rw [show a + (d + 1) + 1 = (a + d + 1) + 1 by omega, ← runE_K, runE, if_neg (by rw [h (a + d) (by omega) (by omega)]; simp), runE_K, ih]
    omega
theorem runK_start (l : List UInt8) : ∀ k, ∃ a, a ≤ k ∧ runK l (k + 1) = k - a + 1 ∧ (a = 0 ∨ dif l (a - 1) = true) ∧ ∀ j, a ≤ j → j < k → dif l j = false
  | 0 => ⟨0, Nat.le_refl _, by simp [runK], .inl rfl, fun j h1 h2 => by omega⟩
  | k + 1 => by
    obtain ⟨a, h1, h2, h3, h4⟩ := runK_start l k
    cases hd : dif l k
    · refine ⟨a, by omega, ?_, h3, fun j j1 j2 => ?_⟩
      · rw [← runE_K, runE, if_neg (by rw [hd]; simp), runE_K, h2]; omega
      · by_cases e : j = k
        · rw [e]; exact hd
        · exact h4 j j1 (by omega)
    · refine ⟨k + 1, Nat.le_refl _, ?_, .inr hd, fun j j1 j2 => by omega⟩
      rw [← runE_K, runE, if_pos hd]; omega
theorem least_dif {l : List UInt8} {lo : Nat} : ∀ d j, j = lo + d → dif l j = true → ∃ i, lo ≤ i ∧ i ≤ j ∧ dif l i = true ∧ ∀ q, lo ≤ q → q < i → dif l q = false
  | 0, j, hj, h => ⟨j, by omega, Nat.le_refl _, h, fun q h1 h2 => by omega⟩
  | d + 1, j, hj, h => by
    by_cases hex : ∃ q, lo ≤ q ∧ q < j ∧ dif l q = true
    · obtain ⟨q, h1, h2, h3⟩ := hex
      have hlt : q - lo < d + 1 := by omega
      obtain ⟨i, a1, a2, a3, a4⟩ := least_dif (lo := lo) (q - lo) q (by omega) h3
      exact ⟨i, a1, by omega, a3, a4⟩
    · refine ⟨j, by omega, Nat.le_refl _, h, fun q h1 h2 => ?_⟩
      cases hq : dif l q
      · rfl
      · exact absurd ⟨q, h1, h2, hq⟩ hex
termination_by d => d
theorem run_counted {l : List UInt8} {i0 : Nat} (hi : i0 < l.length) (hd : dif l i0 = true) {k : Nat} (hk : k < 2 * l.length) : runK l (k + 1) ≤ mostE l (2 * l.length) := by
  have hd1 : dif l (i0 + l.length) = true := by rw [dif_period]; exact hd
  by_cases hex : ∃ j, k ≤ j ∧ j < 2 * l.length ∧ dif l j = true
  · obtain ⟨j, h1, h2, h3⟩ := hex
    obtain ⟨i, a1, a2, a3, a4⟩ := least_dif (lo := k) (j - k) j (by omega) h3
    have h4 := runK_on (l := l) (a := k) (i - k) fun q q1 q2 => a4 q q1 (by omega)
    rw [show k + (i - k) = i by omega] at h4
    have h5 := mostE_ge a3 (2 * l.length) (by omega)
    omega
  · obtain ⟨a, h1, h2, h3, h4⟩ := runK_start l k
    have hno : ∀ j, a ≤ j → j < 2 * l.length → dif l j = false := fun j j1 j2 => by
      by_cases e : j < k
      · exact h4 j j1 e
      · cases hq : dif l j
        · rfl
        · exact absurd ⟨j, by omega, j2, hq⟩ hex
    have ha : i0 + l.length < a := by
      rcases Nat.lt_or_ge (i0 + l.length) a with h | h
      · exact h
      · rw [hno _ h (by omega)] at hd1; cases hd1
    obtain ⟨i, a1, a2, a3, a4⟩ := least_dif (lo := l.length) i0 (i0 + l.length) (by omega) hd1
    have h6 := runK_on (l := l) (a := a - l.length) (i - (a - l.length)) fun q q1 q2 => by
      by_cases e : q < l.length
      · rw [← dif_period]; exact hno _ (by omega) (by omega)
      · exact a4 q (by omega) (by omega)
    rw [show a - l.length + (i - (a - l.length)) = i by omega] at h6
    have h7 := runK_one l (a - l.length)
    have h5 := mostE_ge a3 (2 * l.length) (by omega)
    omega
theorem run_short {l : List UInt8} {i0 : Nat} (hi : i0 < l.length) (hd : dif l i0 = true) {k : Nat} (hk : k < 2 * l.length) : runK l (k + 1) ≤ l.length := by
  have hd1 : dif l (i0 + l.length) = true := by rw [dif_period]; exact hd
  obtain ⟨a, h1, h2, h3, h4⟩ := runK_start l k
  rcases Nat.lt_or_ge (k - a) l.length with h | h
  · omega
  · by_cases e : a ≤ i0
    · have := h4 i0 e (by omega); rw [this] at hd; cases hd
    · have := h4 (i0 + l.length) (by omega) (by omega); rw [this] at hd1; cases hd1
theorem runR_dif {l : List UInt8} {i0 : Nat} (hi : i0 < l.length) (hd : dif l i0 = true) : runR l = longRun l := by
  have h1 := mostK_bound (l := l) (B := mostE l (2 * l.length)) (2 * l.length) fun k hk => run_counted hi hd hk
  have h2 := mostK_bound (l := l) (B := l.length) (2 * l.length) fun k hk => run_short hi hd hk
  have h3 := mostE_K l (2 * l.length)
  unfold runR longRun
  omega
theorem longRun_pos {l : List UInt8} (h : 1 ≤ l.length) : 1 ≤ longRun l := by
  have h1 := mostK_ge l (i := 0) (2 * l.length) (by omega)
  have h2 := runK_one l 0
  unfold longRun
  omega
theorem longRun_len (l : List UInt8) : longRun l ≤ l.length := by unfold longRun; omega

/-! ### both letters -/
def bothW (l : List UInt8) : Bool := decide ((70 : UInt8) ∈ l) && decide ((66 : UInt8) ∈ l)
theorem same_all {l : List UInt8} (h : ∀ i, i < l.length → dif l i = false) : ∀ i, i < l.length → bat l i = bat l 0
  | 0, _ => rfl
  | i + 1, hi => by
    have h1 := dif_false.1 (h i (by omega))
    rw [Nat.mod_eq_of_lt (by omega), Nat.mod_eq_of_lt hi] at h1
    rw [← h1]
    exact same_all h i (by omega)
theorem mem_bat {l : List UInt8} {c : UInt8} (h : c ∈ l) : ∃ i, i < l.length ∧ bat l i = c.toNat := by
  obtain ⟨i, hi, rfl⟩ := List.mem_iff_getElem.1 h
  exact ⟨i, hi, by simp [bat, hi]⟩
theorem bat_eq {l : List UInt8} {i : Nat} {c : UInt8} (hi : i < l.length) (h : bat l i = c.toNat) : c ∈ l := by
  have : l[i] = c := by
    have h2 : bat l i = l[i].toNat := by simp [bat, hi]
    exact UInt8.toNat_inj.1 (h2.symm.trans h)
  rw [← this]; exact List.getElem_mem hi
theorem bothW_dif {l : List UInt8} (h : bothW l = true) : ∃ i, i < l.length ∧ dif l i = true := by
  simp only [bothW, Bool.and_eq_true, decide_eq_true_eq] at h
  obtain ⟨i, hi, e1⟩ := mem_bat h.1
  obtain ⟨j, hj, e2⟩ := mem_bat h.2
  rcases Classical.em (∃ i, i < l.length ∧ dif l i = true) with hex | hex
  · exact hex
  · have hno : ∀ i, i < l.length → dif l i = false := fun q hq => by
      cases e : dif l q
      · rfl
      · exact absurd ⟨q, hq, e⟩ hex
    have h1 := same_all hno i hi
    have h2 := same_all hno j hj
    rw [e1] at h1; rw [e2] at h2
    have : (70 : UInt8).toNat = (66 : UInt8).toNat := h1.trans h2.symm
    exact absurd this (by decide)
theorem dif_bothW {l : List UInt8} (h2 : two 70 66 l = true) {i : Nat} (hi : i < l.length) (hd : dif l i = true) : bothW l = true := by
  have hm : (i + 1) % l.length < l.length := Nat.mod_lt _ (by omega)
  have hne : bat l i ≠ bat l ((i + 1) % l.length) := by
    intro e
    rw [dif_false.2 (by rw [Nat.mod_eq_of_lt hi]; exact e)] at hd; cases hd
  simp only [bothW, Bool.and_eq_true, decide_eq_true_eq]
  rcases two_at h2 hi with e1 | e1 <;> rcases two_at h2 hm with e2 | e2
  · exact absurd (e1.trans e2.symm) hne
  · exact ⟨bat_eq hi e1, bat_eq hm e2⟩
  · exact ⟨bat_eq hm e2, bat_eq hi e1⟩
  · exact absurd (e1.trans e2.symm) hne
theorem runR_eq {l : List UInt8} (h2 : two 70 66 l = true) : runR l = if bothW l then longRun l else 0 := by
  cases hb : bothW l
  · rw [if_neg (by simp)]
    refine mostE_none _ fun i hi => ?_
    cases e : dif l i
    · rfl
    · have hl : 0 < l.length := by omega
      have : dif l (i % l.length) = true := by
        unfold dif at e ⊢
        rw [Nat.mod_mod, Nat.add_mod, Nat.mod_mod, ← Nat.add_mod]
        exact e
      rw [dif_bothW h2 (Nat.mod_lt _ hl) this] at hb; cases hb
  · rw [if_pos rfl]
    obtain ⟨i, hi, hd⟩ := bothW_dif hb
    exact runR_dif hi hd
theorem runR_zero {l : List UInt8} (h2 : two 70 66 l = true) : (runR l = 0) ↔ bothW l = false := by
  rw [runR_eq h2]
  cases hb : bothW l
  · simp
  · have hl : 1 ≤ l.length := by
      obtain ⟨i, hi, _⟩ := bothW_dif hb; omega
    have := longRun_pos hl
    simp; omega
theorem two_along {l : List UInt8} (h2 : two 70 66 l = true) (hl : 1 ≤ l.length) (f st : Int) (m : Nat) : two 70 66 (alongL l f st m) = true := by
  refine two_iff.2 fun c hc => ?_
  simp only [alongL, List.mem_map] at hc
  obtain ⟨i, _, rfl⟩ := hc
  have hm1 := Int.emod_nonneg (f + i * st) (show (l.length : Int) ≠ 0 by omega)
  have hm2 := Int.emod_lt_of_pos (f + i * st) (show (0 : Int) < l.length by omega)
  refine two_iff.1 h2 _ ?_
  have : ((f + i * st) % l.length).toNat < l.length := by omega
  simp [this]

/-! ### loose stakes -/
/-- after how many rounds a weave begins again -/
def agW (n : Nat) (st : Int) : Nat := ((n : Int) / gcdI n st).toNat
theorem agW_spec {n : Nat} {st : Int} (hn : 1 ≤ n) (h0 : 1 ≤ st) : (n : Int).tdiv (gcdI n st) = (agW n st : Int) ∧ 1 ≤ agW n st ∧ agW n st ≤ n ∧ 1 ≤ gcdI n st ∧ gcdI n st ≤ st := by
  have hg := gcdI_pos (x := (n : Int)) (y := st) (by omega) (by omega)
  have hd := (gcdI_dvd (x := (n : Int)) (y := st) (by omega) (by omega)).1
  have h1 : 0 ≤ (n : Int) / gcdI n st := Int.ediv_nonneg (by omega) (by omega)
  have h2 : (n : Int) / gcdI n st ≤ n := Int.ediv_le_self _ (by omega)
  have h3 : (n : Int) / gcdI n st * gcdI n st = n := Int.ediv_mul_cancel hd
  have h4 : (n : Int) / gcdI n st ≠ 0 := by intro e; rw [e] at h3; omega
  refine ⟨?_, ?_, ?_, hg.1, hg.2⟩
  · rw [Int.tdiv_eq_ediv_of_nonneg (by omega), agW]; omega
  · rw [agW]; omega
  · rw [agW]; omega
theorem agW_mul {n : Nat} {st : Int} (hn : 1 ≤ n) (h0 : 1 ≤ st) : ∃ q : Int, (agW n st : Int) * st = n * q := by
  have hg := agW_spec hn h0
  obtain ⟨a, ha⟩ := (gcdI_dvd (x := (n : Int)) (y := st) (by omega) (by omega)).1
  obtain ⟨b, hb⟩ := (gcdI_dvd (x := (n : Int)) (y := st) (by omega) (by omega)).2
  have e : (agW n st : Int) = a := by
    rw [← hg.1, Int.tdiv_eq_ediv_of_nonneg (by omega)]
    conv => lhs; lhs; rw [ha]
    exact Int.mul_ediv_cancel_left _ (by omega)
  refine ⟨b, ?_⟩
  rw [e]
  generalize gcdI (n : Int) st = g at *
  rw [ha, hb, ← Int.mul_assoc, Int.mul_comm a g]
/-- stake k -/
def stackW (l : List UInt8) (st : Int) (k : Nat) : List UInt8 := alongL l k st (agW l.length st)
def looseK (l : List UInt8) (st : Int) (k : Nat) : Bool := !bothW (stackW l st k)
def looseTo (l : List UInt8) (st : Int) : Nat → List Int
  | 0 => []
  | k + 1 => if looseK l st k then looseTo l st k ++ [(k : Int)] else looseTo l st k
def looseW (l : List UInt8) (st : Nat) : List Int := looseTo l st st
theorem looseTo_len (l : List UInt8) (st : Int) : ∀ k, (looseTo l st k).length ≤ k
  | 0 => by simp [looseTo]
  | k + 1 => by
    have := looseTo_len l st k
    rw [looseTo]; split <;> simp <;> omega
def looseR (l : List UInt8) (st : Int) : List Int × Int :=
  if vS l then if areSt st then (looseTo l st st.toNat, 0) else ([], 2) else ([], 1)

/-! ### sound weaves -/
def soundW (l : List UInt8) (st : Nat) (fl : Int) : Bool := bothW l && decide ((longRun l : Int) ≤ fl) && decide ((looseW l st).length = 0)
def soundTo (l : List UInt8) (fl : Int) : Nat → List Int
  | 0 => []
  | k + 1 => if soundW l (k + 3) fl then soundTo l fl k ++ [((k + 3 : Nat) : Int)] else soundTo l fl k
theorem soundTo_len (l : List UInt8) (fl : Int) : ∀ k, (soundTo l fl k).length ≤ k
  | 0 => by simp [soundTo]
  | k + 1 => by
    have := soundTo_len l fl k
    rw [soundTo]; split <;> simp <;> omega
def soundR (l : List UInt8) (fl most : Int) : List Int × Int :=
  if vS l then if areSt most then if inB fl 1 12 then (soundTo l fl (most - 2).toNat, 0) else ([], 2) else ([], 2) else ([], 1)
theorem soundR_len (l : List UInt8) (fl most : Int) : (soundR l fl most).1.length ≤ 1000000 := by
  unfold soundR
  split
  · split
    · rename_i hm
      obtain ⟨h1, h2⟩ := inB_iff.1 (show inB most 3 60 = true from hm)
      split
      · have := soundTo_len l fl (most - 2).toNat
        simp only; omega
      · simp
    · simp
  · simp
end Go.Proofs.YtngllaaminognaaGreatDoor
