/-
  Periods of rows, plain rows, plainly. No program in sight.
-/
import Derived.Test.YtggbnibdpkblgaaDoorStrs
namespace Go.Proofs.YtggbnibdpkblgaaDoor
open Go.RowKit
set_option linter.unusedVariables false

def perOk (l : List UInt8) (p : Nat) : Bool := decide (l.length % p = 0) && (Lib.repeatL (l.take p) (l.length / p) == l)
theorem perOk_iff {l : List UInt8} {p : Nat} : perOk l p = true ↔ l.length % p = 0 ∧ Lib.repeatL (l.take p) (l.length / p) = l := by simp [perOk]
theorem repeat_of_shift (p : Nat) (hp : 0 < p) : ∀ (m : Nat) (l : List UInt8), l.length = p * m → l.drop p = l.take (l.length - p) → Lib.repeatL (l.take p) m = l := by
  intro m
  induction m with
  | zero => intro l hl _; have : l = [] := List.eq_nil_of_length_eq_zero (by simpa using hl)
            subst this; simp [Lib.repeatL]
  | succ m ih =>
    intro l hl hs
    have hpm : l.length = p * m + p := by rw [hl, Nat.mul_succ]
    have hsplit := List.take_append_drop p l
    by_cases hm : m = 0
    · subst hm
      have h0 : l.take p = l := List.take_of_length_le (by omega)
      simp [Lib.repeatL, h0]
    · have hpp : p ≤ p * m := Nat.le_mul_of_pos_right p (by omega)
      have hl' : (l.drop p).length = p * m := by simp; omega
      have htp : (l.drop p).take p = l.take p := by
        rw [hs, List.take_take]; congr 1; omega
      have hs' : (l.drop p).drop p = (l.drop p).take ((l.drop p).length - p) := by
        rw [hl']
        conv => lhs; rw [hs]
        rw [List.drop_take]
        congr 1; omega
      have h := ih (l.drop p) hl' hs'
      rw [htp] at h
      show l.take p ++ Lib.repeatL (l.take p) m = l
      rw [h, hsplit]
theorem shift_of_repeat (t : List UInt8) (m : Nat) (hm : 0 < m) : (Lib.repeatL t m).drop t.length = (Lib.repeatL t m).take ((Lib.repeatL t m).length - t.length) := by
  obtain ⟨q, rfl⟩ : ∃ q, m = q + 1 := ⟨m - 1, by omega⟩
  have h1 : Lib.repeatL t (q + 1) = t ++ Lib.repeatL t q := rfl
  have h2 := Lib.repeatL_take t (q + 1) q (by omega)
  have h3 : (Lib.repeatL t (q + 1)).length - t.length = q * t.length := by
    rw [Lib.repeatL_length, Nat.succ_mul]; omega
  rw [h3, h2]
  conv => lhs; rw [h1]
  simp
theorem ends_of_shift {l : List UInt8} {p : Nat} (h0 : 0 < p) (hp : p < l.length) (hd : l.length % p = 0) (h : l.drop p = l.take (l.length - p)) : l.take p = l.drop (l.length - p) := by
  have hm : l.length = p * (l.length / p) := by have := Nat.div_add_mod l.length p; omega
  have hr := repeat_of_shift p h0 (l.length / p) l hm h
  generalize l.length / p = m at *
  obtain ⟨q, rfl⟩ : ∃ q, m = q + 1 := ⟨m - 1, by cases m with
    | zero => omega
    | succ m => omega⟩
  have hlt : (l.take p).length = p := by simp; omega
  have h2 : Lib.repeatL (l.take p) (q + 1) = Lib.repeatL (l.take p) q ++ l.take p := by
    rw [Lib.repeatL_add, Lib.repeatL_one]
  have h3 : l.drop (l.length - p) = (Lib.repeatL (l.take p) (q + 1)).drop (l.length - p) := by rw [hr]
  rw [h3, h2]
  have h4 : (Lib.repeatL (l.take p) q).length = l.length - p := by
    rw [Lib.repeatL_length, hlt, hm, Nat.mul_succ, Nat.mul_comm]; omega
  rw [← h4]
  simp
/-- what the reference asks is what the program asks -/
theorem perOk_spec {l : List UInt8} {p : Nat} (h0 : 0 < p) (hp : p < l.length) : perOk l p = (decide (l.length % p = 0) && (l.take p == l.drop (l.length - p)) && (l.drop p == l.take (l.length - p))) := by
  rw [Bool.eq_iff_iff, perOk_iff]
  simp only [Bool.and_eq_true, decide_eq_true_eq, beq_iff_eq]
  constructor
  · rintro ⟨h1, h2⟩
    have hm : l.length = p * (l.length / p) := by have := Nat.div_add_mod l.length p; omega
    have hq : 0 < l.length / p := Nat.div_pos (by omega) h0
    have hlt : (l.take p).length = p := by simp; omega
    have hs := shift_of_repeat (l.take p) (l.length / p) hq
    rw [h2, hlt] at hs
    exact ⟨⟨h1, ends_of_shift h0 hp h1 hs⟩, hs⟩
  · rintro ⟨⟨h1, _⟩, h3⟩
    have hm : l.length = p * (l.length / p) := by have := Nat.div_add_mod l.length p; omega
    exact ⟨h1, repeat_of_shift p h0 _ l hm h3⟩
theorem perOk_all (l : List UInt8) (h : 0 < l.length) : perOk l l.length = true := by
  rw [perOk_iff, Nat.mod_self, Nat.div_self h, Lib.repeatL_one, List.take_length]
  exact ⟨rfl, rfl⟩
def perFrom (l : List UInt8) : Nat → Nat → Nat
  | 0, p => p
  | f + 1, p => if perOk l p then p else perFrom l f (p + 1)
def period (l : List UInt8) : Nat := perFrom l (l.length - 1) 1
theorem perFrom_hit {l : List UInt8} {f p : Nat} (h : perOk l p = true) : perFrom l f p = p := by
  cases f with
  | zero => rfl
  | succ f => simp [perFrom, h]
theorem perFrom_miss {l : List UInt8} {f p : Nat} (h : perOk l p = false) : perFrom l (f + 1) p = perFrom l f (p + 1) := by simp [perFrom, h]
theorem perFrom_bd (l : List UInt8) : ∀ f p, p ≤ perFrom l f p ∧ perFrom l f p ≤ p + f := by
  intro f
  induction f with
  | zero => intro p; simp [perFrom]
  | succ f ih => intro p; simp only [perFrom]; split
                 · omega
                 · have := ih (p + 1); omega
theorem period_bd {l : List UInt8} (h : 1 ≤ l.length) : 1 ≤ period l ∧ period l ≤ l.length := by
  have := perFrom_bd l (l.length - 1) 1
  unfold period; omega

/-! ### plain rows -/
def plainAt (l : List UInt8) (st : Int) (i : Nat) : Bool := (bat l i != bat l ((i + 1) % l.length)) && (bat l i != bat l (((i : Int) + st) % l.length).toNat)
def plainAt' (l : List UInt8) (st : Int) (i : Nat) : Bool := (bat l i != bat l ((i + 1) % l.length)) && (bat l i != bat l (((i : Int) - st) % l.length).toNat)
def plainTo (l : List UInt8) (st : Int) (k : Nat) : Bool := (List.range k).all (plainAt l st)
def plainTo' (l : List UInt8) (st : Int) (k : Nat) : Bool := (List.range k).all (plainAt' l st)
theorem plainTo_step (l : List UInt8) (st : Int) (k : Nat) : plainTo l st (k + 1) = (plainTo l st k && plainAt l st k) := by simp [plainTo, List.range_succ]
theorem plainTo'_step (l : List UInt8) (st : Int) (k : Nat) : plainTo' l st (k + 1) = (plainTo' l st k && plainAt' l st k) := by simp [plainTo', List.range_succ]
theorem plainTo_bad {l : List UInt8} {st : Int} {k n : Nat} (h : plainAt l st k = false) (hk : k < n) : plainTo l st n = false := by
  rw [← Bool.not_eq_true]
  intro h2
  have := List.all_eq_true.1 h2 k (List.mem_range.2 hk)
  rw [h] at this; exact absurd this (by simp)
theorem plainTo'_bad {l : List UInt8} {st : Int} {k n : Nat} (h : plainAt' l st k = false) (hk : k < n) : plainTo' l st n = false := by
  rw [← Bool.not_eq_true]
  intro h2
  have := List.all_eq_true.1 h2 k (List.mem_range.2 hk)
  rw [h] at this; exact absurd this (by simp)
theorem plain_same (l : List UInt8) (st : Int) : plainTo l st l.length = plainTo' l st l.length := by
  rw [Bool.eq_iff_iff]
  simp only [plainTo, plainTo', List.all_eq_true, List.mem_range, plainAt, plainAt', Bool.and_eq_true, bne_iff_ne]
  have key : ∀ s : Int, (∀ x, x < l.length → bat l x ≠ bat l ((x + 1) % l.length) ∧ bat l x ≠ bat l (((x : Int) + s) % l.length).toNat) → ∀ x, x < l.length → bat l x ≠ bat l ((x + 1) % l.length) ∧ bat l x ≠ bat l (((x : Int) - s) % l.length).toNat := by
    intro s h x hx
    refine ⟨(h x hx).1, ?_⟩
    have hpos : (0 : Int) < l.length := by omega
    have h0 := Int.emod_nonneg ((x : Int) - s) (show (l.length : Int) ≠ 0 by omega)
    have h1 := Int.emod_lt_of_pos ((x : Int) - s) hpos
    obtain ⟨y, hy⟩ := Int.eq_ofNat_of_zero_le h0
    have h2 := (h y (by omega)).2
    have h3 : (((y : Int) + s) % l.length).toNat = x := by
      rw [← hy, Int.emod_add_emod, Int.sub_add_cancel, Int.emod_eq_of_lt (by omega) (by omega)]; omega
    rw [h3] at h2
    rw [hy, Int.toNat_natCast]
    exact fun e => h2 e.symm
  constructor
  · exact key st
  · intro h x hx
    have h2 := key (-st) (fun x hx => by
      have := h x hx
      rw [show (x : Int) + -st = (x : Int) - st by omega]
      exact this) x hx
    rw [show (x : Int) - -st = (x : Int) + st by omega] at h2
    exact h2
end Go.Proofs.YtggbnibdpkblgaaDoor
