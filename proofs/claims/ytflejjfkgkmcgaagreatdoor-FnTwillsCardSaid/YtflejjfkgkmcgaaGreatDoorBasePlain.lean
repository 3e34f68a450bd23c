/-
  Bases, plainly: validity, rings, lengths, first open round, as functions on integers.
-/
import Derived.Test.YtflejjfkgkmcgaaGreatDoorCore
namespace Go.Proofs.YtflejjfkgkmcgaaGreatDoor
open Go.RowKit
set_option linter.unusedVariables false

def vBase (t s r k : Int) : Bool := inB t 1 12 && inB s 1 12 && inB r 10 1000 && inB k 1 50
theorem vBase_iff {t s r k : Int} : vBase t s r k = true ↔ (1 ≤ t ∧ t ≤ 12) ∧ (1 ≤ s ∧ s ≤ 12) ∧ (10 ≤ r ∧ r ≤ 1000) ∧ (1 ≤ k ∧ k ≤ 50) := by
  simp [vBase, inB_iff, and_assoc]

/-- all rounds from a place on, at most f -/
def ringsF (r k : Int) : Nat → Int → List Int
  | 0, _ => []
  | f + 1, i => if i + k ≤ r then (i + k / 2) :: ringsF r k f (i + k) else []
def rings (t s r k : Int) : List Int := ringsF r k 60 (k * max t s)
theorem ringsF_len (r k : Int) : ∀ f i, (ringsF r k f i).length ≤ f := by
  intro f
  induction f with
  | zero => intro i; simp [ringsF]
  | succ f ih => intro i; simp only [ringsF]; split
                 · simp; exact ih _
                 · simp
theorem rings_len (t s r k : Int) : (rings t s r k).length ≤ 60 := ringsF_len _ _ _ _
theorem ringsF_bd {r k : Int} (hk : 1 ≤ k) (hk' : k ≤ 50) : ∀ f i, 1 ≤ i → ∀ x ∈ ringsF r k f i, 1 ≤ x ∧ x ≤ r := by
  intro f
  induction f with
  | zero => intro i _ x hx; simp [ringsF] at hx
  | succ f ih =>
    intro i hi x hx
    simp only [ringsF] at hx
    split at hx
    · simp only [List.mem_cons] at hx
      rcases hx with rfl | hx
      · omega
      · exact ih _ (by omega) x hx
    · simp at hx
theorem rings_bd {t s r k : Int} (h : vBase t s r k = true) : ∀ x ∈ rings t s r k, 1 ≤ x ∧ x ≤ 1000 := by
  obtain ⟨⟨h1, h2⟩, ⟨h3, h4⟩, ⟨h5, h6⟩, ⟨h7, h8⟩⟩ := vBase_iff.1 h
  intro x hx
  have hb : 1 * 1 ≤ k * max t s := Int.mul_le_mul h7 (by omega) (by omega) (by omega)
  have := ringsF_bd h7 h8 60 _ (by omega) x hx
  omega
theorem rings_get {t s r k : Int} (h : vBase t s r k = true) {i : Nat} (hi : i < (rings t s r k).length) : 1 ≤ (rings t s r k).getD i 0 ∧ (rings t s r k).getD i 0 ≤ 1000 := by
  refine rings_bd h _ ?_
  simp [hi]

def RingRel (r k : Int) (goal : List Int) (f : Nat) (pre : List Int) (i : Int) : Prop := goal = pre ++ ringsF r k f i
theorem ringRel_step {r k : Int} {goal : List Int} {f : Nat} {pre : List Int} {i : Int} (h : RingRel r k goal (f + 1) pre i) (hi : i + k ≤ r) : RingRel r k goal f (pre ++ [i + k / 2]) (i + k) := by
  unfold RingRel at *; rw [h]; simp [ringsF, hi]
theorem ringRel_end {r k : Int} {goal : List Int} {f : Nat} {pre : List Int} {i : Int} (h : RingRel r k goal f pre i) (hi : f = 0 ∨ ¬ i + k ≤ r) : goal = pre := by
  unfold RingRel at *; rw [h]
  cases f with
  | zero => simp [ringsF]
  | succ f => simp [ringsF] at *; omega

/-- the length of a round, rounded up -/
def ringLen (x : Int) : Int := (44 * x + 6) / 7
theorem ringLen_over (x : Int) (h : 0 ≤ x) : (if (44 * x) % 7 > 0 then (44 * x) / 7 + 1 else (44 * x) / 7) = ringLen x := by
  unfold ringLen; split <;> omega
theorem ringLen_bd {x : Int} (h : 1 ≤ x) (h' : x ≤ 1000) : 1 ≤ ringLen x ∧ ringLen x ≤ 10000 := by unfold ringLen; omega

/-- the length of all rounds -/
def sumLen (l : List Int) : Int := (l.map ringLen).sum
theorem sumLen_snoc (l : List Int) (x : Int) : sumLen (l ++ [x]) = sumLen l + ringLen x := by simp [sumLen]
theorem sumLen_bd {l : List Int} (h : ∀ x ∈ l, 1 ≤ x ∧ x ≤ 1000) : 0 ≤ sumLen l ∧ sumLen l ≤ 10000 * l.length := by
  induction l with
  | nil => simp [sumLen]
  | cons a l ih =>
    have h1 := h a (by simp)
    have h2 := ih (fun x hx => h x (by simp [hx]))
    have h3 := ringLen_bd h1.1 h1.2
    simp only [sumLen, List.map_cons, List.sum_cons, List.length_cons] at *
    omega
theorem take_snoc {l : List Int} {k : Nat} (h : k < l.length) : l.take (k + 1) = l.take k ++ [l.getD k 0] := by
  rw [List.take_succ_eq_append_getElem h]; simp [h]
theorem sumLen_take {l : List Int} {k : Nat} (h : k < l.length) : sumLen (l.take (k + 1)) = sumLen (l.take k) + ringLen (l.getD k 0) := by
  rw [take_snoc h, sumLen_snoc]
theorem sumLen_take_bd {l : List Int} (h : ∀ x ∈ l, 1 ≤ x ∧ x ≤ 1000) (hl : l.length ≤ 60) (k : Nat) : 0 ≤ sumLen (l.take k) ∧ sumLen (l.take k) ≤ 600000 := by
  have h1 := sumLen_bd (l := l.take k) (fun x hx => h x (List.mem_of_mem_take hx))
  have h2 : (l.take k).length ≤ 60 := by simp; omega
  omega

/-- the number of ends of sticks -/
def ends (t s : Int) : Int := 2 * (t + s)

/-- the first round that is open, from index i on; -1 if there is none -/
def openAt (l : List Int) (d : Int) (i : Nat) : Int := match l with
  | [] => -1
  | x :: l => if d ≤ 44 * x then i else openAt l d (i + 1)
/-- up to k no round is open -/
def noOpen (l : List Int) (d : Int) (k : Nat) : Prop := openAt l d 0 = openAt (l.drop k) d k
theorem noOpen_zero (l : List Int) (d : Int) : noOpen l d 0 := rfl
theorem noOpen_step {l : List Int} {d : Int} {k : Nat} (h : noOpen l d k) (hk : k < l.length) (hd : ¬ d ≤ 44 * l.getD k 0) : noOpen l d (k + 1) := by
  unfold noOpen at *
  rw [h, List.drop_eq_getElem_cons hk]
  simp only [openAt]
  rw [if_neg (by simpa [hk] using hd)]
theorem noOpen_hit {l : List Int} {d : Int} {k : Nat} (h : noOpen l d k) (hk : k < l.length) (hd : d ≤ 44 * l.getD k 0) : openAt l d 0 = k := by
  unfold noOpen at *
  rw [h, List.drop_eq_getElem_cons hk]
  simp only [openAt]
  rw [if_pos (by simpa [hk] using hd)]
theorem noOpen_end {l : List Int} {d : Int} {k : Nat} (h : noOpen l d k) (hk : l.length ≤ k) : openAt l d 0 = -1 := by
  unfold noOpen at *
  rw [h, List.drop_of_length_le hk]; rfl
theorem openAt_cases (l : List Int) (d : Int) : ∀ i, openAt l d i = -1 ∨ (i ≤ openAt l d i ∧ openAt l d i < i + l.length) := by
  induction l with
  | nil => intro i; exact .inl rfl
  | cons x l ih =>
    intro i
    simp only [openAt]
    split
    · right; simp; omega
    · rcases ih (i + 1) with h | h
      · exact .inl h
      · right; simp at *; omega

/-- the sticks for so many stakes: from x sticks on, f tries -/
def sticksF (st : Int) : Nat → Int → Int
  | 0, _ => 0
  | f + 1, x => if inB (4 * x - st) 0 4 then x else sticksF st f (x + 1)

/-! ### results of the listed functions -/
def endsOfR (t s r k : Int) : Int × Int := if vBase t s r k then (ends t s, 0) else (0, 1)
def stakesFromR (t s r k e f : Int) : Int × Int :=
  if vBase t s r k then
    if inB e 1 2 && inB f 0 4 then
      if e * ends t s - f < 3 then (0, 6) else (e * ends t s - f, 0)
    else (0, 2)
  else (0, 1)
def ringsR (t s r k : Int) : List Int × Int := if vBase t s r k then (rings t s r k, 0) else ([], 1)
theorem ringsR_len (t s r k : Int) : (ringsR t s r k).1.length ≤ 1000000 := by
  unfold ringsR; split
  · have := rings_len t s r k; simp only; omega
  · simp
def weaverR (t s r k : Int) : Int × Int := if vBase t s r k then (sumLen (rings t s r k), 0) else (0, 1)
def firstOpenR (t s r k l : Int) : Int × Int :=
  if vBase t s r k then
    if inB l 1 1000 then
      let i := openAt (rings t s r k) (l * 7 * ends t s) 0
      if i < 0 then (0, 3) else (i, 0)
    else (0, 2)
  else (0, 1)
def lengthR (t s r k i : Int) : Int × Int :=
  if vBase t s r k then
    if inB i 0 ((rings t s r k).length - 1) then (ringLen ((rings t s r k).getD i.toNat 0), 0) else (0, 2)
  else (0, 1)
def baseForR (st : Int) : Int × Int × Int × Int :=
  if inB st 3 100 then
    let x := sticksF st 23 2
    if x = 0 then (0, 0, 0, 3) else ((x + 1) / 2, x / 2, 4 * x - st, 0)
  else (0, 0, 0, 2)
end Go.Proofs.YtflejjfkgkmcgaaGreatDoor
