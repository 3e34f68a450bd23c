/-
  What the law of words of bends asks: turned words, locked words, rods; the draws.
-/
import Derived.Test.YtcpacfedmppaeaaDoorBendFn
import Derived.Test.YtcpacfedmppaeaaDoorBend14
namespace Go.Proofs.YtcpacfedmppaeaaDoor
open Go Go.RowKit
set_option linter.unusedVariables false

/-! ### turned words -/
theorem turn_turn {l : List UInt8} {i j : Nat} (hi : i < l.length) (hj : j < l.length) : ∃ k, k < l.length ∧ turnW (turnW l i) j = turnW l k := by
  by_cases h : j ≤ l.length - i
  · by_cases h0 : i + j = l.length
    · refine ⟨0, by omega, ?_⟩
      have e : (l.drop i).length = j := by simp; omega
      unfold turnW
      rw [List.drop_left' e, List.take_left' e, List.take_append_drop]
      simp
    · refine ⟨i + j, by omega, ?_⟩
      unfold turnW
      rw [List.drop_append, List.take_append]
      simp only [List.length_drop, show j - (l.length - i) = 0 by omega, List.drop_zero, List.take_zero, List.append_nil, List.drop_drop]
      rw [List.append_assoc]
      congr 1
      rw [List.take_add]
  · refine ⟨j - (l.length - i), by omega, ?_⟩
    unfold turnW
    rw [List.drop_append, List.take_append]
    simp only [List.length_drop]
    rw [List.drop_of_length_le (by simp; omega), List.nil_append, List.take_of_length_le (show (l.drop i).length ≤ j by simp; omega)]
    obtain ⟨m, hm⟩ : ∃ m, m = j - (l.length - i) := ⟨_, rfl⟩
    rw [← hm]
    have hmi : m ≤ i := by omega
    rw [List.take_take, show min m i = m by omega, ← List.append_assoc]
    congr 1
    have e1 : l.drop m = (l.take i).drop m ++ l.drop i := by
      have := List.take_append_drop i l
      conv => lhs; rw [← this, List.drop_append]
      simp [show m - min i l.length = 0 by omega]
    rw [e1]
theorem turn_back {l : List UInt8} {i : Nat} (hi : i < l.length) : ∃ k, k < l.length ∧ turnW (turnW l i) k = l := by
  by_cases h0 : i = 0
  · subst h0; exact ⟨0, hi, by rw [turnW_zero, turnW_zero]⟩
  · refine ⟨l.length - i, by omega, ?_⟩
    have e : (l.drop i).length = l.length - i := by simp
    unfold turnW
    rw [List.drop_left' e, List.take_left' e, List.take_append_drop]
/-- a is b turned -/
def Turned (a b : List UInt8) : Prop := ∃ i, i < a.length ∧ turnW a i = b
theorem firstTo_some (l : List UInt8) (h : 0 < l.length) : ∀ k, k ≤ l.length → Turned l (firstTo l k) := by
  intro k
  induction k with
  | zero => intro _; exact ⟨0, h, turnW_zero l⟩
  | succ k ih =>
    intro hk
    unfold firstTo
    split
    · exact ⟨k, by omega, rfl⟩
    · exact ih (by omega)
/-- x is not behind y -/
def Leq (x y : List UInt8) : Prop := Op.bytesLess y x = false
theorem leq_of (x y : List UInt8) : Leq x y ↔ (Op.bytesLess x y = true ∨ x = y) := by
  unfold Leq
  have h := less_total x y
  constructor
  · intro h1
    rw [h1] at h
    simpa using h
  · intro h1
    have : (Op.bytesLess x y || x == y) = true := by simpa using h1
    rw [this] at h
    simpa using h.symm
theorem less_trans : ∀ x y z : List UInt8, Op.bytesLess x y = true → Op.bytesLess y z = true → Op.bytesLess x z = true := by
  intro x
  induction x with
  | nil =>
    intro y z h1 h2
    cases y with
    | nil => simp [Op.bytesLess] at h1
    | cons b y =>
      cases z with
      | nil => simp [Op.bytesLess] at h2
      | cons c z => simp [Op.bytesLess]
  | cons a x ih =>
    intro y z h1 h2
    cases y with
    | nil => simp [Op.bytesLess] at h1
    | cons b y =>
      cases z with
      | nil => simp [Op.bytesLess] at h2
      | cons c z =>
        simp only [Op.bytesLess, Bool.or_eq_true, decide_eq_true_eq, Bool.and_eq_true, beq_iff_eq] at h1 h2 ⊢
        rcases h1 with h1 | ⟨rfl, h1⟩
        · rcases h2 with h2 | ⟨rfl, h2⟩
          · exact .inl (UInt8.lt_trans h1 h2)
          · exact .inl h1
        · rcases h2 with h2 | ⟨rfl, h2⟩
          · exact .inl h2
          · exact .inr ⟨rfl, ih y z h1 h2⟩
theorem leq_trans {x y z : List UInt8} (h1 : Leq x y) (h2 : Leq y z) : Leq x z := by
  rw [leq_of] at *
  rcases h1 with h1 | rfl
  · rcases h2 with h2 | rfl
    · exact .inl (less_trans _ _ _ h1 h2)
    · exact .inl h1
  · exact h2
theorem leq_anti {x y : List UInt8} (h1 : Leq x y) (h2 : Leq y x) : x = y := by
  rcases (leq_of x y).1 h1 with h | h
  · unfold Leq at h2; rw [h] at h2; cases h2
  · exact h
theorem firstTo_le (l : List UInt8) : ∀ k i, i < k → Leq (firstTo l k) (turnW l i) := by
  intro k
  induction k with
  | zero => intro i h; omega
  | succ k ih =>
    intro i hi
    unfold firstTo
    split
    · next h =>
      by_cases e : i = k
      · subst e; exact less_irrefl _
      · exact leq_trans ((leq_of _ _).2 (.inl h)) (ih i (by omega))
    · next h =>
      by_cases e : i = k
      · subst e; simpa [Leq] using h
      · exact ih i (by omega)
theorem firstW_le {l : List UInt8} {b : List UInt8} (h : Turned l b) : Leq (firstW l) b := by
  obtain ⟨i, hi, rfl⟩ := h
  exact firstTo_le l _ i hi
theorem firstW_turned {l : List UInt8} (h : 0 < l.length) : Turned l (firstW l) := firstTo_some l h _ (Nat.le_refl _)
theorem turned_trans {a b c : List UInt8} (h1 : Turned a b) (h2 : Turned b c) : Turned a c := by
  obtain ⟨i, hi, rfl⟩ := h1
  obtain ⟨j, hj, rfl⟩ := h2
  rw [turnW_len] at hj
  obtain ⟨k, hk, e⟩ := turn_turn hi hj
  exact ⟨k, hk, e.symm⟩
theorem turned_symm {a b : List UInt8} (h : Turned a b) : Turned b a := by
  obtain ⟨i, hi, rfl⟩ := h
  obtain ⟨k, hk, e⟩ := turn_back hi
  exact ⟨k, by rw [turnW_len]; exact hk, e⟩
theorem turned_pos {a b : List UInt8} (h : Turned a b) : 0 < a.length ∧ 0 < b.length := by
  obtain ⟨i, hi, rfl⟩ := h
  rw [turnW_len]; omega
theorem firstW_eq {a b : List UInt8} (h : Turned a b) : firstW a = firstW b := by
  obtain ⟨ha, hb⟩ := turned_pos h
  exact leq_anti (firstW_le (turned_trans h (firstW_turned hb))) (firstW_le (turned_trans (turned_symm h) (firstW_turned ha)))
theorem same_iff {a b : List UInt8} (ha : 0 < a.length) (hb : 0 < b.length) : firstW a = firstW b ↔ Turned a b := by
  constructor
  · intro h
    have h1 := firstW_turned ha
    have h2 := turned_symm (firstW_turned hb)
    rw [h] at h1
    exact turned_trans h1 h2
  · exact firstW_eq
theorem firstW_own {l : List UInt8} (hv : vB l = true) : sameWR l (firstW l) = (true, 0) := by
  have h8 := vB_iff.1 hv
  have hl : (firstW l).length = l.length := firstTo_len l _
  have hv2 : vB (firstW l) = true := vB_iff.2 ⟨by omega, by omega, two_iff.2 fun c hc => two_iff.1 h8.2.2 c ((firstTo_mem l _).1 hc)⟩
  unfold sameWR
  rw [if_pos (by rw [hv, hv2]; rfl)]
  rw [← firstW_eq (firstW_turned (l := l) (by omega))]
  simp
/-- some of the first k turned words is b -/
def turnsTo (a b : List UInt8) (k : Nat) : Bool := (List.range k).any fun i => turnW a i == b
theorem turnsTo_step (a b : List UInt8) (k : Nat) : turnsTo a b (k + 1) = (turnsTo a b k || turnW a k == b) := by
  unfold turnsTo
  rw [List.range_succ, List.any_append]
  simp
theorem turnsTo_all {a b : List UInt8} (hs : (sameWR a b).2 = 0) : turnsTo a b a.length = (sameWR a b).1 := by
  unfold sameWR at hs ⊢
  split at hs
  · next h =>
    rw [if_pos h]
    rw [Bool.and_eq_true] at h
    have ha := (vB_iff.1 h.1).1
    have hb := (vB_iff.1 h.2).1
    have hi := same_iff (a := a) (b := b) ha hb
    rw [Bool.eq_iff_iff]
    show turnsTo a b a.length = true ↔ (firstW a == firstW b) = true
    rw [beq_iff_eq, hi]
    unfold turnsTo Turned
    simp only [List.any_eq_true, List.mem_range, beq_iff_eq]
  · simp at hs

/-! ### locked words -/
theorem locked_at {n st : Int} {i : Nat} (hi : i < (lockR2 n st).1.length) : (((lockR2 n st).1.getD i []).length ≤ 8) ∧ drawnR ((lockR2 n st).1.getD i []) st = (1, 0) := by
  unfold lockR2 at hi ⊢
  split at hi
  · next h =>
    rw [if_pos h]
    rw [Bool.and_eq_true] at h
    have h2 := inB_iff.1 h.1
    have h3 := inB_iff.1 h.2
    simp only at hi ⊢
    have hm : (lockTo (listTo n.toNat (2 ^ n.toNat)) st.toNat (listTo n.toNat (2 ^ n.toNat)).length).getD i [] ∈ lockTo (listTo n.toNat (2 ^ n.toNat)) st.toNat (listTo n.toNat (2 ^ n.toNat)).length := by simp [hi]
    generalize (lockTo (listTo n.toNat (2 ^ n.toNat)) st.toNat (listTo n.toNat (2 ^ n.toNat)).length).getD i [] = x at *
    unfold lockTo at hm
    obtain ⟨h4, h5⟩ := List.mem_filter.1 hm
    obtain ⟨set, h6, h7, h8⟩ := listTo_mem (List.mem_of_mem_take h4)
    have hxl : x.length = n.toNat := by rw [h7, wordTo_len]
    have hv : vB x = true := vB_iff.2 ⟨by omega, by omega, by rw [h7]; exact wordTo_two _ _ _⟩
    refine ⟨by omega, ?_⟩
    unfold drawnR
    rw [if_pos (by unfold codeS; rw [if_pos hv, if_pos (inB_iff.2 (by omega))])]
    have h9 : (outW x st.toNat).length = 1 := by simpa using h5
    rw [h9]; rfl
  · simp at hi
theorem rod_ok {l : List UInt8} {ar st : Int} (h : (rodR l ar st).2 = 0) : (0 ≤ (rodR l ar st).1 ∧ (rodR l ar st).1 ≤ 500000) ∧ (100 ≤ ar ∧ ar ≤ 5000) ∧ (3 ≤ st ∧ st ≤ 40) ∧ l.length ≤ 8 ∧ ar * ((l.length : Int) + 1) ≤ (rodR l ar st).1 * st := by
  unfold rodR at h ⊢
  split at h
  · next hc =>
    obtain ⟨hv, hst⟩ := codeS_ok hc
    have h8 := vB_iff.1 hv
    split at h
    · next ha =>
      have ha2 := inB_iff.1 ha
      rw [if_pos hc, if_pos ha]
      have hp := rodP_bd h8.2.1
      have hq := prod_bd ha2 hp
      have d1 := Int.mul_ediv_add_emod (ar * rodP l + 10 * st - 1) (10 * st)
      have d2 := Int.emod_nonneg (ar * rodP l + 10 * st - 1) (show 10 * st ≠ 0 by omega)
      have d3 := Int.emod_lt_of_pos (ar * rodP l + 10 * st - 1) (show 0 < 10 * st by omega)
      have hpar : ar * rodP l = 10 * (ar * ((l.length : Int) + 1)) + ar * behindW l := by
        unfold rodP
        rw [Int.mul_add, Int.mul_left_comm]
      have hbn : 0 ≤ ar * behindW l := Int.mul_nonneg (by omega) (by omega)
      have hq1 : 0 ≤ (ar * rodP l + 10 * st - 1) / (10 * st) := Int.ediv_nonneg (by omega) (by omega)
      have hq2 : (ar * rodP l + 10 * st - 1) / (10 * st) ≤ ar * rodP l + 10 * st - 1 := Int.ediv_le_self _ (by omega)
      simp only
      generalize (ar * rodP l + 10 * st - 1) / (10 * st) = q at *
      refine ⟨by omega, ha2, by omega, h8.2.1, ?_⟩
      have e : 10 * st * q = 10 * (q * st) := by rw [Int.mul_assoc, Int.mul_comm st q]
      rw [e] at d1
      omega
    · simp at h
  · exact absurd h (by assumption)

/-! ### draws -/
theorem DrawFirstWord_any (p : Option Addr) (n c : Nat) (xs : List Int) (w : World) (hr : RV w p n c (xs.map (.int .u8))) (hb : ∀ x ∈ xs, 0 ≤ x ∧ x ≤ 255) :
    Calls Tryd.prog 33 #[.slice p n c] w fun e w' => ∃ S : ByteArray, e = .returned (.string S) ∧ S.size ≤ 9 ∧ Below w.heap.size w w' := by
  go_enter Tryd.func33, Tryd.ntmps33
  go_wp2_with fail
  refine (l00From_any _ _ _ _ _ hr hb).mono ?_
  rintro e w1 ⟨rfl, hs, hB⟩
  go_wp2_with fail
  refine (l11Bent_any _ _ _ hs (by omega)).mono ?_
  rintro e w2 ⟨S, rfl, hS, hs2, hg⟩
  replace hB := hB.grown hg hB.size (by intro k hk; simp at hk; omega)
  go_wp2
  go_ret
  exact ⟨_, rfl, hS, hB⟩
set_option maxHeartbeats 1000000 in
theorem DrawRodForBorder_any (p : Option Addr) (n c : Nat) (xs : List Int) (w : World) (hr : RV w p n c (xs.map (.int .u8))) (hb : ∀ x ∈ xs, 0 ≤ x ∧ x ≤ 255) :
    Calls Tryd.prog 30 #[.slice p n c] w fun e w' => ∃ (S : ByteArray) (x y : Int), e = .returned (.tuple #[.string S, .int .i64 x, .int .i64 y]) ∧ S.size ≤ 9 ∧ Below w.heap.size w w' := by
  go_enter Tryd.func30, Tryd.ntmps30
  go_wp2_with fail
  refine (l00From_any _ _ _ _ _ hr hb).mono ?_
  rintro e w1 ⟨rfl, hs, hB⟩
  go_wp2_with fail
  refine (l11Bent_any _ _ _ hs (by omega)).mono ?_
  rintro e w2 ⟨S, rfl, hS, hs2, hg⟩
  replace hB := hB.grown hg hB.size (by intro k hk; simp at hk; omega)
  go_wp2_with fail
  refine (pick_any _ _ _ _ hs2 (by omega) (by omega)).mono ?_
  rintro e w3 ⟨x, rfl, hx0, hx1, _, hs3, hg⟩
  have hx2 := hx1 (by omega)
  replace hB := hB.grown hg hB.size (by intro k hk; simp at hk; omega)
  go_wp2_with fail
  refine (one_any _ _ _ _ hs3 (by omega) (by omega)).mono ?_
  rintro e w4 ⟨z, rfl, hs4, hg⟩
  replace hB := hB.grown hg hB.size (by intro k hk; simp at hk; omega)
  have hsl := hs4.lt
  clear hs hs2 hs3 hg hx1
  cases z
  · go_wp2_with fail
    refine (l11DrawStakes_any _ _ _ _ hs4 (by omega) hS).mono ?_
    rintro e w5 ⟨y, rfl, hy, hs5, hg⟩
    replace hB := hB.grown hg hB.size (by intro k hk; simp at hk; omega)
    go_wp2
    refine bodyPost_ret (v := .tuple #[.string S, .int .i64 (300 + 10 * x), .int .i64 y]) (by simp [results, Tryd.results30, go_sem]) rfl ⟨_, _, _, rfl, hS, hB⟩
  · obtain ⟨L, hL⟩ : ∃ L : Obj, L = .cells #[.int .i64 (-1), .int .i64 99, .int .i64 100, .int .i64 5000, .int .i64 5001] 2 := ⟨_, rfl⟩
    have hrv : RV (w4.alloc L) (some ⟨w4.heap.size, 0, none⟩) 5 5 (ints [-1, 99, 100, 5000, 5001]) := by subst hL; exact rv_lit _ _ _ rfl (by simp) (by simp [maxLen])
    have hs := hs4.alloc L
    replace hB := hB.alloc hB.size L
    subst hL
    go_wp2_with fail
    refine (among_any _ _ _ _ _ _ _ hs (by omega) (by omega) (by omega) hrv (by intro b o hb; simp at hb; omega)).mono ?_
    rintro e w5 ⟨y, rfl, hy, hs5, hg⟩
    replace hB := hB.grown hg hB.size (by intro k hk; simp at hk; omega)
    clear hy hg
    go_wp2_with fail
    refine (l11DrawStakes_any _ _ _ _ hs5 (by omega) hS).mono ?_
    rintro e w6 ⟨q, rfl, hq, hs6, hg⟩
    replace hB := hB.grown hg hB.size (by intro k hk; simp at hk; omega)
    go_wp2
    refine bodyPost_ret (v := .tuple #[.string S, .int .i64 y, .int .i64 q]) (by simp [results, Tryd.results30, go_sem]) rfl ⟨_, _, _, rfl, hS, hB⟩
end Go.Proofs.YtcpacfedmppaeaaDoor
