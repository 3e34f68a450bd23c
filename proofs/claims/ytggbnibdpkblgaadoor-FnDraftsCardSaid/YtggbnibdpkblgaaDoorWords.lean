/-
  Words of two letters, plainly: trimmed texts, turned words, the first of them, words by number. No program in sight.
-/
import Derived.Lib.SlTrimSet
import Derived.Test.YtggbnibdpkblgaaDoorKit
namespace Go.Proofs.YtggbnibdpkblgaaDoor
open Go.RowKit
set_option linter.unusedVariables false

/-- all bytes are a or b -/
def two (a b : UInt8) (l : List UInt8) : Bool := l.all fun c => c == a || c == b
theorem two_iff {a b : UInt8} {l : List UInt8} : two a b l = true ↔ ∀ c ∈ l, c = a ∨ c = b := by simp [two]
theorem contains_two (a b c : UInt8) : [a, b].contains c = (c == a || c == b) := by
  simp only [List.contains, List.elem]
  cases (c == a) <;> cases (c == b) <;> rfl
theorem all_dropWhile {α : Type} {p : α → Bool} {m : List α} (h : ∀ x ∈ m.dropWhile p, p x = true) : ∀ x ∈ m, p x = true := by
  induction m with
  | nil => intro x hx; simp at hx
  | cons y ys ih =>
    by_cases hy : p y = true
    · rw [List.dropWhile_cons_of_pos hy] at h
      intro x hx
      rcases List.mem_cons.1 hx with rfl | hx
      · exact hy
      · exact ih h x hx
    · rw [List.dropWhile_cons_of_neg hy] at h
      exact absurd (h y (by simp)) hy
theorem dropWhile_none {α : Type} {p : α → Bool} {m : List α} (h : ∀ x ∈ m, p x = true) : m.dropWhile p = [] := by
  induction m with
  | nil => rfl
  | cons y ys ih => rw [List.dropWhile_cons_of_pos (h y (by simp))]; exact ih fun x hx => h x (by simp [hx])
theorem dropWhile_nil {α : Type} {p : α → Bool} {m : List α} (h : m.dropWhile p = []) : ∀ x ∈ m, p x = true :=
  all_dropWhile (by rw [h]; intro x hx; simp at hx)
theorem trim_two {a b : UInt8} {l : List UInt8} (h : two a b l = true) : Lib.trimS l [a, b] = [] := by
  have h1 : ∀ x ∈ l.reverse, [a, b].contains x = true := by
    intro x hx
    rw [contains_two]
    have := two_iff.1 h x (by simpa using hx)
    simpa using this
  unfold Lib.trimS Lib.trimRightS Lib.trimLeftS
  rw [dropWhile_none h1]
  rfl
theorem trim_two' {a b : UInt8} {l : List UInt8} (h : two a b l = false) : Lib.trimS l [a, b] ≠ [] := by
  intro e
  unfold Lib.trimS Lib.trimRightS Lib.trimLeftS at e
  have h1 := dropWhile_nil e
  have h2 : ∀ x ∈ l.reverse, [a, b].contains x = true := all_dropWhile fun x hx => h1 x (List.mem_reverse.2 hx)
  have h3 : two a b l = true := two_iff.2 fun c hc => by
    have := h2 c (by simpa using hc)
    rw [contains_two] at this
    simpa using this
  rw [h3] at h; exact absurd h (by simp)

/-- byte k, as a number -/
def bat (l : List UInt8) (k : Nat) : Nat := (l.getD k 0).toNat
theorem bat_get {s : ByteArray} {k : Nat} (h : k < s.size) : (s[k]'h).toNat = bat s.data.toList k := by
  have h2 : k < s.data.toList.length := by simpa using h
  simp only [bat, List.getD_eq_getElem?_getD, List.getElem?_eq_getElem h2, Option.getD_some, Array.getElem_toList]
  rfl
theorem bat_lt (l : List UInt8) (k : Nat) : bat l k < 256 := (l.getD k 0).toNat_lt
theorem two_at {a b : UInt8} {l : List UInt8} (h : two a b l = true) {k : Nat} (hk : k < l.length) : bat l k = a.toNat ∨ bat l k = b.toNat := by
  have := two_iff.1 h (l.getD k 0) (by simp [hk])
  unfold bat
  rcases this with e | e <;> rw [e]
  · exact .inl rfl
  · exact .inr rfl
theorem bat_mem {l : List UInt8} {k : Nat} (h : k < l.length) : l.getD k 0 ∈ l := by simp [h]

/-! ### turned words and the first of them -/
def turnW (l : List UInt8) (i : Nat) : List UInt8 := l.drop i ++ l.take i
theorem turnW_len (l : List UInt8) (i : Nat) : (turnW l i).length = l.length := by simp [turnW]; omega
theorem turnW_zero (l : List UInt8) : turnW l 0 = l := by simp [turnW]
theorem turnW_mem (l : List UInt8) (i : Nat) {c : UInt8} : c ∈ turnW l i ↔ c ∈ l := by
  have := List.take_append_drop i l
  constructor
  · intro h
    rw [← this]
    simp only [turnW, List.mem_append] at *
    exact h.symm
  · intro h
    rw [← this] at h
    simp only [turnW, List.mem_append] at *
    exact h.symm
/-- the first of the words turned by less than k -/
def firstTo (l : List UInt8) : Nat → List UInt8
  | 0 => l
  | k + 1 => if Op.bytesLess (turnW l k) (firstTo l k) then turnW l k else firstTo l k
def firstW (l : List UInt8) : List UInt8 := firstTo l l.length
theorem less_irrefl (x : List UInt8) : Op.bytesLess x x = false := by
  induction x with
  | nil => rfl
  | cons a x ih => simp [Op.bytesLess, ih]
theorem less_total (x y : List UInt8) : (Op.bytesLess x y || x == y) = !Op.bytesLess y x := by
  induction x generalizing y with
  | nil => cases y <;> simp [Op.bytesLess]
  | cons a x ih =>
    cases y with
    | nil => simp [Op.bytesLess]
    | cons b y =>
      simp only [Op.bytesLess]
      have h := ih y
      rcases Nat.lt_trichotomy a.toNat b.toNat with h1 | h1 | h1
      · have e1 : a < b := h1
        have e2 : ¬ b < a := by intro h2; have h2' : b.toNat < a.toNat := h2; omega
        have e3 : ¬ b = a := by intro h2; rw [h2] at h1; omega
        simp [e1, e2, e3]
      · have e0 : a = b := UInt8.toNat_inj.1 h1
        subst e0
        have e2 : ¬ a < a := by intro h2; have h2' : a.toNat < a.toNat := h2; omega
        simp only [e2, decide_false, Bool.false_or, beq_self_eq_true, Bool.true_and]
        rw [← h]
        congr 1
        simp
      · have e1 : b < a := h1
        have e2 : ¬ a < b := by intro h2; have h2' : a.toNat < b.toNat := h2; omega
        have e3 : ¬ a = b := by intro h2; rw [h2] at h1; omega
        have e4 : ¬ (a :: x) = (b :: y) := by intro h2; exact e3 (List.cons.inj h2).1
        simp [e1, e2, e3]
theorem firstTo_len (l : List UInt8) (k : Nat) : (firstTo l k).length = l.length := by
  induction k with
  | zero => rfl
  | succ k ih => unfold firstTo; split <;> simp [turnW_len, ih]
theorem firstTo_mem (l : List UInt8) (k : Nat) {c : UInt8} : c ∈ firstTo l k ↔ c ∈ l := by
  induction k with
  | zero => rfl
  | succ k ih => unfold firstTo; split
                 · exact turnW_mem l k
                 · exact ih
theorem firstTo_one (l : List UInt8) : firstTo l 1 = l := by
  show (if Op.bytesLess (turnW l 0) (firstTo l 0) then turnW l 0 else firstTo l 0) = l
  rw [turnW_zero]; split <;> rfl

/-! ### words by number: the first letter is the highest digit -/
def wordTo (n set k : Nat) : List UInt8 := (List.range k).map fun i => if set / 2 ^ (n - 1 - i) % 2 = 1 then 102 else 98
theorem wordTo_len (n set k : Nat) : (wordTo n set k).length = k := by simp [wordTo]
theorem wordTo_step (n set k : Nat) : wordTo n set (k + 1) = wordTo n set k ++ [if set / 2 ^ (n - 1 - k) % 2 = 1 then 102 else 98] := by simp [wordTo, List.range_succ]
def listTo (n k : Nat) : List (List UInt8) := ((List.range k).map fun set => wordTo n set n).filter fun l => firstW l == l
theorem listTo_step (n k : Nat) : listTo n (k + 1) = listTo n k ++ (if firstW (wordTo n k n) == wordTo n k n then [wordTo n k n] else []) := by
  simp only [listTo, List.range_succ, List.map_append, List.filter_append]
  congr 1
  by_cases h : (firstW (wordTo n k n) == wordTo n k n) = true <;> simp [h]
theorem listTo_len (n k : Nat) : (listTo n k).length ≤ k := by
  have := List.length_filter_le (fun l => firstW l == l) ((List.range k).map fun set => wordTo n set n)
  simpa [listTo] using this
theorem listTo_mem {n k : Nat} {l : List UInt8} (h : l ∈ listTo n k) : ∃ set, set < k ∧ l = wordTo n set n ∧ firstW l = l := by
  simp only [listTo, List.mem_filter, List.mem_map, List.mem_range] at h
  obtain ⟨⟨set, hs, rfl⟩, h2⟩ := h
  exact ⟨set, hs, rfl, by simpa using h2⟩
theorem wordTo_two (n set k : Nat) : two 98 102 (wordTo n set k) = true := by
  refine two_iff.2 fun c hc => ?_
  simp only [wordTo, List.mem_map, List.mem_range] at hc
  obtain ⟨i, _, rfl⟩ := hc
  split
  · exact .inr rfl
  · exact .inl rfl

/-! ### covers, and what can be drawn out -/
def coversTo (l : List UInt8) (st k : Int) (j : Nat) : List Int := ((List.range j).filter fun i => bat l i == 98).map fun (i : Nat) => (k + i + 1) % st
theorem coversTo_step (l : List UInt8) (st k : Int) (j : Nat) : coversTo l st k (j + 1) = coversTo l st k j ++ (if bat l j == 98 then [(k + j + 1) % st] else []) := by
  simp only [coversTo, List.range_succ, List.filter_append, List.map_append]
  congr 1
  by_cases h : (bat l j == 98) = true <;> simp [h]
theorem coversTo_len (l : List UInt8) (st k : Int) (j : Nat) : (coversTo l st k j).length ≤ j := by
  have := List.length_filter_le (fun i => bat l i == 98) (List.range j)
  simpa [coversTo] using this
def coversW (l : List UInt8) (st k : Int) : List Int := coversTo l st k l.length
theorem coversW_bd {l : List UInt8} {st k : Int} (hst : 0 < st) : ∀ x ∈ coversW l st k, 0 ≤ x ∧ x < st := by
  intro x hx
  simp only [coversW, coversTo, List.mem_map] at hx
  obtain ⟨i, _, rfl⟩ := hx
  exact ⟨Int.emod_nonneg _ (by omega), Int.emod_lt_of_pos _ hst⟩
/-- how many letters are behind -/
def behindTo (l : List UInt8) : Nat → Nat
  | 0 => 0
  | k + 1 => behindTo l k + (if bat l k == 98 then 1 else 0)
theorem behindTo_le (l : List UInt8) (k : Nat) : behindTo l k ≤ k := by
  induction k with
  | zero => simp [behindTo]
  | succ k ih => unfold behindTo; split <;> omega

/-- rod k is free if all that lie over it are out -/
def freeTo (l : List UInt8) (st k : Int) (out : List Int) (j : Nat) : Bool := ((coversW l st k).take j).all fun x => decide (x ∈ out)
def freeW (l : List UInt8) (st k : Int) (out : List Int) : Bool := (coversW l st k).all fun x => decide (x ∈ out)
def outStep (l : List UInt8) (st : Int) (out : List Int) (k : Nat) : List Int := if decide ((k : Int) ∈ out) then out else if freeW l st k out then out ++ [(k : Int)] else out
def passTo (l : List UInt8) (st : Int) (out : List Int) : Nat → List Int
  | 0 => out
  | k + 1 => outStep l st (passTo l st out k) k
def outF (l : List UInt8) (st : Int) : Nat → List Int → List Int
  | 0, out => out
  | f + 1, out => if (passTo l st out st.toNat).length = out.length then out else outF l st f (passTo l st out st.toNat)
/-- some rods, each once -/
def Some (n : Nat) (out : List Int) : Prop := out.Nodup ∧ ∀ x ∈ out, 0 ≤ x ∧ x < n
theorem nodup_len (n : Nat) : ∀ l : List Int, l.Nodup → (∀ x ∈ l, 0 ≤ x ∧ x < n) → l.length ≤ n := by
  induction n with
  | zero =>
    intro l _ h
    cases l with
    | nil => simp
    | cons a l => have := h a (by simp); omega
  | succ n ih =>
    intro l hl h
    have h1 := ih (l.erase (n : Int)) (hl.erase _) (fun x hx => by
      have h2 := (hl.mem_erase_iff).1 hx
      have h3 := h x h2.2
      have h4 : x ≠ n := h2.1
      omega)
    have h5 := List.length_erase (a := (n : Int)) (l := l)
    rw [h5] at h1
    split at h1
    · omega
    · omega
theorem some_len {n : Nat} {out : List Int} (h : Some n out) : out.length ≤ n := nodup_len n out h.1 h.2
theorem outStep_cases (l : List UInt8) (st : Int) (out : List Int) (k : Nat) : outStep l st out k = out ∨ ((k : Int) ∉ out ∧ outStep l st out k = out ++ [(k : Int)]) := by
  unfold outStep
  by_cases h : (k : Int) ∈ out
  · simp [h]
  · simp only [h, decide_false, Bool.false_eq_true, if_false]
    split
    · exact .inr ⟨not_false, rfl⟩
    · exact .inl rfl
theorem outStep_some {l : List UInt8} {st : Int} {out : List Int} {n k : Nat} (h : Some n out) (hk : k < n) : Some n (outStep l st out k) := by
  rcases outStep_cases l st out k with e | ⟨h1, e⟩
  · rw [e]; exact h
  · rw [e]
    refine ⟨List.nodup_append.2 ⟨h.1, by simp, ?_⟩, ?_⟩
    · intro a ha b hb e2
      simp at hb
      subst hb; subst e2
      exact h1 ha
    · intro x hx
      rcases List.mem_append.1 hx with hx | hx
      · exact h.2 x hx
      · simp at hx; omega
theorem passTo_some {l : List UInt8} {st : Int} {out : List Int} {n : Nat} (h : Some n out) : ∀ k, k ≤ n → Some n (passTo l st out k) := by
  intro k
  induction k with
  | zero => intro _; exact h
  | succ k ih => intro hk; exact outStep_some (ih (by omega)) (by omega)
theorem passTo_grows (l : List UInt8) (st : Int) (out : List Int) (k : Nat) : ∃ r, passTo l st out k = out ++ r := by
  induction k with
  | zero => exact ⟨[], by simp [passTo]⟩
  | succ k ih =>
    obtain ⟨r, hr⟩ := ih
    show ∃ r, outStep l st (passTo l st out k) k = out ++ r
    rcases outStep_cases l st (passTo l st out k) k with e | ⟨h1, e⟩
    · exact ⟨r, by rw [e, hr]⟩
    · exact ⟨r ++ [(k : Int)], by rw [e, hr, List.append_assoc]⟩
end Go.Proofs.YtggbnibdpkblgaaDoor
