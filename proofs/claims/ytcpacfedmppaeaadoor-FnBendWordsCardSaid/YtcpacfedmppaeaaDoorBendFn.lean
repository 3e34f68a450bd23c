/-
  What the law of borders asks, plainly: listed words rise and are their own first words, rods that come out, covers.
-/
import Derived.Test.YtcpacfedmppaeaaDoorBendDraw
import Derived.Test.YtcpacfedmppaeaaDoorBend9
import Derived.Test.YtcpacfedmppaeaaDoorBend6
import Derived.Test.YtcpacfedmppaeaaDoorBend4
import Derived.Test.YtcpacfedmppaeaaDoorBend3
import Derived.Test.YtcpacfedmppaeaaDoorBend12
import Derived.Test.YtcpacfedmppaeaaDoorF6
namespace Go.Proofs.YtcpacfedmppaeaaDoor
open Go Go.RowKit
set_option linter.unusedVariables false

/-! ### words rise -/
theorem less_head {a b : UInt8} {x y : List UInt8} (h : a < b) : Op.bytesLess (a :: x) (b :: y) = true := by simp [Op.bytesLess, h]
theorem less_same (a : UInt8) (x y : List UInt8) : Op.bytesLess (a :: x) (a :: y) = Op.bytesLess x y := by
  have : ¬ a < a := by simp
  simp [Op.bytesLess, this]
def bitB (set j : Nat) : UInt8 := if set / 2 ^ j % 2 = 1 then 102 else 98
theorem wordTo_cons (n set : Nat) : wordTo (n + 1) set (n + 1) = bitB set n :: wordTo n set n := by
  unfold wordTo
  rw [List.range_succ_eq_map, List.map_cons, List.map_map]
  congr 1
  apply List.map_congr_left
  intro i hi
  show (if set / 2 ^ (n + 1 - 1 - (i + 1)) % 2 = 1 then (102 : UInt8) else 98) = _
  rw [show n + 1 - 1 - (i + 1) = n - 1 - i by omega]
theorem wordTo_high (n set : Nat) : wordTo n (set + 2 ^ n) n = wordTo n set n := by
  unfold wordTo
  apply List.map_congr_left
  intro i hi
  have hi := List.mem_range.1 hi
  have e : (set + 2 ^ n) / 2 ^ (n - 1 - i) = set / 2 ^ (n - 1 - i) + 2 ^ (i + 1) := by
    rw [show (2 : Nat) ^ n = 2 ^ (n - 1 - i) * 2 ^ (i + 1) by rw [← Nat.pow_add]; congr 1; omega]
    exact Nat.add_mul_div_left _ _ (Nat.pos_of_ne_zero (by exact Nat.ne_of_gt (Nat.two_pow_pos _)))
  rw [e, Nat.pow_succ]
  have : (set / 2 ^ (n - 1 - i) + 2 ^ i * 2) % 2 = set / 2 ^ (n - 1 - i) % 2 := by omega
  rw [this]
theorem word_less : ∀ n a b, a < b → b < 2 ^ n → Op.bytesLess (wordTo n a n) (wordTo n b n) = true := by
  intro n
  induction n with
  | zero => intro a b h1 h2; simp at h2; omega
  | succ n ih =>
    intro a b h1 h2
    rw [wordTo_cons, wordTo_cons]
    have hp : (2 : Nat) ^ (n + 1) = 2 ^ n * 2 := Nat.pow_succ ..
    have hpos : 0 < (2 : Nat) ^ n := Nat.two_pow_pos n
    rw [hp] at h2
    by_cases ha : a < 2 ^ n
    · have ea : bitB a n = 98 := by unfold bitB; rw [Nat.div_eq_of_lt ha]; rfl
      by_cases hb : b < 2 ^ n
      · have eb : bitB b n = 98 := by unfold bitB; rw [Nat.div_eq_of_lt hb]; rfl
        rw [ea, eb, less_same]
        exact ih a b h1 hb
      · have eb : bitB b n = 102 := by
          unfold bitB
          have : b / 2 ^ n = 1 := by
            apply Nat.div_eq_of_lt_le <;> omega
          rw [this]; rfl
        rw [ea, eb]
        exact less_head (by decide)
    · have hb : ¬ b < 2 ^ n := by omega
      have ea : bitB a n = 102 := by
        unfold bitB
        have : a / 2 ^ n = 1 := by
          apply Nat.div_eq_of_lt_le <;> omega
        rw [this]; rfl
      have eb : bitB b n = 102 := by
        unfold bitB
        have : b / 2 ^ n = 1 := by
          apply Nat.div_eq_of_lt_le <;> omega
        rw [this]; rfl
      rw [ea, eb, less_same]
      have h3 := ih (a - 2 ^ n) (b - 2 ^ n) (by omega) (by omega)
      rw [← wordTo_high n (a - 2 ^ n), ← wordTo_high n (b - 2 ^ n), show a - 2 ^ n + 2 ^ n = a by omega, show b - 2 ^ n + 2 ^ n = b by omega] at h3
      exact h3
theorem list_rises (n : Nat) : ∀ k, k ≤ 2 ^ n → (listTo n k).Pairwise fun x y => Op.bytesLess x y = true := by
  intro k
  induction k with
  | zero => intro _; simp [listTo]
  | succ k ih =>
    intro hk
    rw [listTo_step]
    rw [List.pairwise_append]
    refine ⟨ih (by omega), by split <;> simp, fun x hx y hy => ?_⟩
    split at hy
    · simp only [List.mem_singleton] at hy
      subst hy
      obtain ⟨set, h1, h2, _⟩ := listTo_mem hx
      rw [h2]
      exact word_less n set k h1 (by omega)
    · cases hy
theorem listR_at {n : Int} {i : Nat} (hi : i < (listR n).1.length) : vB ((listR n).1.getD i []) = true ∧ firstW ((listR n).1.getD i []) = (listR n).1.getD i [] ∧ ∀ j, i = j + 1 → Op.bytesLess ((listR n).1.getD j []) ((listR n).1.getD i []) = true := by
  unfold listR at hi ⊢
  split at hi
  · next h =>
    have h2 := inB_iff.1 h
    rw [if_pos h]
    simp only at hi ⊢
    have hr := list_rises n.toNat (2 ^ n.toNat) (Nat.le_refl _)
    have hm : (listTo n.toNat (2 ^ n.toNat)).getD i [] ∈ listTo n.toNat (2 ^ n.toNat) := by simp [hi]
    obtain ⟨set, h3, h4, h5⟩ := listTo_mem hm
    refine ⟨?_, h5, fun j hj => ?_⟩
    · rw [h4]
      exact vB_iff.2 ⟨by rw [wordTo_len]; omega, by rw [wordTo_len]; omega, wordTo_two _ _ _⟩
    · subst hj
      have := List.pairwise_iff_getElem.1 hr j (j + 1) (by omega) hi (by omega)
      simpa [hi, show j < (listTo n.toNat (2 ^ n.toNat)).length by omega] using this
  · simp at hi

/-! ### covers -/
theorem bat_98 {l : List UInt8} {i : Nat} : (bat l i == 98) = true ↔ l.getD i 0 = 98 := by
  unfold bat
  rw [beq_iff_eq]
  constructor
  · intro h; exact UInt8.toNat_inj.1 h
  · intro h; rw [h]; rfl
theorem covers_none {l : List UInt8} {st k : Int} (h : behindW l = 0) : coversW l st k = [] := by
  unfold coversW coversTo
  have : ((List.range l.length).filter fun i => bat l i == 98) = [] := by
    rw [List.filter_eq_nil_iff]
    intro i hi hb
    have hi := List.mem_range.1 hi
    have h2 := bat_98.1 hb
    have h3 : (98 : UInt8) ∈ l := by rw [← h2]; simp [hi]
    have := List.count_pos_iff.2 h3
    unfold behindW at h
    omega
  rw [this]; rfl
theorem covers_some {l : List UInt8} {st k : Int} (h : 0 < behindW l) : 0 < (coversW l st k).length := by
  have h3 : (98 : UInt8) ∈ l := List.count_pos_iff.1 h
  obtain ⟨i, hi, he⟩ := List.mem_iff_getElem.1 h3
  unfold coversW coversTo
  rw [List.length_map, List.length_pos_iff]
  intro h4
  have := List.filter_eq_nil_iff.1 h4 i (List.mem_range.2 hi)
  exact this (bat_98.2 (by simp [hi, he]))
theorem covers_pos (l : List UInt8) (st k : Int) : decide (0 < ((coversW l st k).length : Int)) = decide (0 < (behindW l : Int)) := by
  by_cases h : 0 < behindW l
  · have := covers_some (st := st) (k := k) h
    rw [decide_eq_true (by omega), decide_eq_true (by omega)]
  · rw [covers_none (by omega)]
    have : behindW l = 0 := by omega
    rw [this]; rfl

/-! ### rods that come out -/
theorem len_ge : ∀ (N : Nat) (p : List Int), (∀ j : Nat, j < N → (j : Int) ∈ p) → N ≤ p.length := by
  intro N
  induction N with
  | zero => intro p _; omega
  | succ N ih =>
    intro p h
    have hm := h N (by omega)
    have h1 := ih (p.erase (N : Int)) (fun j hj => (List.mem_erase_of_ne (by omega)).2 (h j (by omega)))
    have h2 := List.length_erase_of_mem hm
    have h3 : 0 < p.length := List.length_pos_of_mem hm
    omega
theorem outF_some {l : List UInt8} {N : Nat} : ∀ f out, Some N out → Some N (outF l N f out) ∧ out.length ≤ (outF l N f out).length := by
  intro f
  induction f with
  | zero => intro out h; exact ⟨h, Nat.le_refl _⟩
  | succ f ih =>
    intro out h
    have hp := passTo_some (l := l) (st := (N : Int)) h N (Nat.le_refl _)
    have hl := passTo_len l (N : Int) out N
    simp only [outF, Int.toNat_natCast]
    split
    · exact ⟨h, Nat.le_refl _⟩
    · have := ih _ hp
      exact ⟨this.1, by omega⟩
theorem out_start {N : Nat} (h : 1 ≤ N) : Some N [0] := ⟨by simp, fun x hx => by simp at hx; omega⟩
theorem out_bd {l : List UInt8} {N : Nat} (h : 1 ≤ N) : 1 ≤ (outW l N).length ∧ (outW l N).length ≤ N := by
  have := outF_some (l := l) (N + 1) [0] (out_start h)
  exact ⟨this.2, some_len this.1⟩
theorem pass_all {l : List UInt8} {N : Nat} (h : behindW l = 0) (out : List Int) : ∀ k j, j < k → (j : Int) ∈ passTo l N out k := by
  intro k
  induction k with
  | zero => intro j h; omega
  | succ k ih =>
    intro j hj
    show (j : Int) ∈ outStep l N (passTo l N out k) k
    unfold outStep
    by_cases hk : decide ((k : Int) ∈ passTo l N out k) = true
    · rw [if_pos hk]
      by_cases e : j = k
      · subst e; simpa using hk
      · exact ih j (by omega)
    · rw [if_neg hk, if_pos (by unfold freeW; rw [covers_none h]; rfl)]
      by_cases e : j = k
      · subst e; simp
      · exact List.mem_append_left _ (ih j (by omega))
theorem out_all {l : List UInt8} {N : Nat} (h : behindW l = 0) (hN : 1 ≤ N) : (outW l N).length = N := by
  have hp := passTo_some (l := l) (st := (N : Int)) (out_start hN) N (Nat.le_refl _)
  have h1 := len_ge N (passTo l (N : Int) [0] N) (fun j hj => pass_all (N := N) h [0] N j hj)
  have h2 := some_len hp
  unfold outW
  simp only [outF, Int.toNat_natCast]
  split
  · next e => simp at e ⊢; omega
  · obtain ⟨f, rfl⟩ : ∃ f, N = f + 1 := ⟨N - 1, by omega⟩
    have h3 := outF_some (l := l) (f + 1) _ hp
    have := some_len h3.1
    omega
theorem drawn_ok {l : List UInt8} {st : Int} (h : (drawnR l st).2 = 0) : codeS l st = 0 ∧ 1 ≤ (drawnR l st).1 ∧ (drawnR l st).1 ≤ st ∧ ((lockR l st).1 = false → (drawnR l st).1 = st) := by
  unfold drawnR at h ⊢
  split at h
  · next hc =>
    obtain ⟨hv, hst⟩ := codeS_ok hc
    obtain ⟨N, rfl⟩ : ∃ N : Nat, st = (N : Int) := ⟨st.toNat, by omega⟩
    have hb := out_bd (l := l) (N := N) (by omega)
    rw [if_pos hc]
    simp only [Int.toNat_natCast]
    refine ⟨hc, by omega, by omega, fun hl => ?_⟩
    unfold lockR at hl
    rw [if_pos hc] at hl
    have : behindW l = 0 := by simpa using hl
    rw [out_all this (by omega)]
  · exact absurd h (by assumption)
theorem lock_ok {l : List UInt8} {st : Int} (h : (lockR l st).2 = 0) : codeS l st = 0 ∧ (lockR l st).1 = decide (0 < (behindW l : Int)) ∧ 3 ≤ st ∧ st ≤ 40 ∧ ∀ k, 0 ≤ k → k < st → coversR l st k = (coversW l st k, 0) := by
  unfold lockR at h ⊢
  split at h
  · next hc =>
    obtain ⟨hv, hst⟩ := codeS_ok hc
    have h8 := vB_iff.1 hv
    rw [if_pos hc]
    refine ⟨hc, rfl, by omega, by omega, fun k h0 h1 => ?_⟩
    unfold coversR
    rw [if_pos]
    unfold codeB
    rw [if_pos hv, inB_iff.2 hst, inB_iff.2 (show 0 ≤ k ∧ k ≤ st - 1 by omega)]
    rfl
  · exact absurd h (by assumption)
theorem first_ok {l : List UInt8} (hv : vB l = true) (hf : firstW l = l) : firstWR l = (str l, 0) := by
  unfold firstWR
  rw [if_pos hv, hf]
end Go.Proofs.YtcpacfedmppaeaaDoor
