/-
  The program's search from the start; its orders and fewest joins.
-/
import Derived.Test.YtdbgicfbigjmmaaLaidI2
import Derived.Test.YtdbgicfbigjmmaaLaidW2
import Derived.Laws.EntriesVeiled
namespace Go.Proofs.Ytdbgicfbigjmmaa
open Go.RowKit
set_option linter.unusedVariables false

/-! ### a region that makes blocks in whatever order -/
theorem ready_all {md : Region.Mode} {l : List Oper} (hb : ((List.range l.length).all fun i => ((l[i]?).map (·.after.all fun e => decide (e.on < i))).getD true) = true) {listed : Array Bool} (hs : listed.size = l.length) (hr : Region.ready md l.toArray listed = []) : ∀ i, i < l.length → listed.getD i false = true := by
  intro i
  induction i using Nat.strongRecOn with
  | _ i ih =>
    intro hi
    cases hl : listed.getD i false with
    | true => rfl
    | false =>
      exfalso
      have hun : listed.getD i true = false := getD_in (by omega) hl
      have hm : i ∈ Region.ready md l.toArray listed := by
        refine mem_ready.2 ⟨hun, l[i], by simp [hi], fun e he _ => ?_⟩
        have h1 := List.all_eq_true.1 hb i (List.mem_range.2 hi)
        rw [List.getElem?_eq_getElem hi] at h1
        simp only [Option.map_some, Option.getD_some] at h1
        have h2 := Array.all_eq_true'.1 h1 e he
        have h3 : e.on < i := by simpa using h2
        exact ih e.on h3 (by omega)
      rw [hr] at hm
      cases hm
def upd {α : Type} (f : Nat → α) (i : Nat) (v : α) : Nat → α := fun j => if j = i then v else f j
theorem upd_same {α : Type} (f : Nat → α) (i : Nat) (v : α) : upd f i v i = v := by simp [upd]
theorem upd_ne {α : Type} (f : Nat → α) {i j : Nat} (v : α) (h : j ≠ i) : upd f i v j = f j := by simp [upd, h]
theorem upd_true {L : Nat → Bool} {i j : Nat} (h : L j = true) : upd L i true j = true := by
  unfold upd
  split
  · rfl
  · exact h
theorem getD_upd {listed : Array Bool} {i : Nat} (hi : i < listed.size) : (fun j => (listed.setIfInBounds i true).getD j false) = upd (fun j => listed.getD j false) i true := by
  funext j
  by_cases h : j = i
  · subst h; rw [upd_same]; simp [hi]
  · rw [upd_ne _ _ h, getD_set_ne false (Ne.symm h)]
theorem put_upd {a : Act} {d : Nat} {v : Value} (hd : d < a.tmps.size) : (fun t => (a.put (some d) v).tmps.getD t undef) = upd (fun t => a.tmps.getD t undef) d v := by
  funext t
  by_cases h : t = d
  · subst h; rw [upd_same]; simp [Act.put, hd]
  · rw [upd_ne _ _ h]
    simp [Act.put, Ne.symm h]
theorem act_eq {a b : Act} (hd : a.defers = b.defers) (hs : a.tmps.size = b.tmps.size) (h : ∀ t, t < b.tmps.size → a.tmps.getD t undef = b.tmps.getD t undef) : a = b := by
  obtain ⟨at_, ad⟩ := a
  obtain ⟨bt, bd⟩ := b
  simp only at hd hs h
  subst hd
  congr 1
  refine Array.ext hs (fun i h1 h2 => ?_)
  have := h i h2
  simpa [h1, h2] using this

def Ms : List Nat := [0, 1, 4, 5, 6, 7]
def slz (g : Nat) : Value := .slice (some ⟨g, 0, none⟩) 0 0
def nilS : Value := .slice none 0 0
def cont (n : Nat) (L : Nat → Bool) (g : Nat → Nat) : Nat → List Value
  | 4 => List.replicate n (.bool false)
  | 5 => [if L 8 then slz (g 0) else nilS]
  | 6 => [if L 9 then slz (g 1) else nilS]
  | 7 => [if L 10 then .slice (some ⟨g 4, 0, none⟩) n n else nilS]
  | _ => []
def cty : Nat → TypeId
  | 4 => 4
  | 5 => 22
  | 6 => 22
  | 7 => 51
  | _ => 2
def slotF : Nat → Nat
  | 0 => 15
  | 1 => 16
  | 4 => 19
  | 5 => 10
  | 6 => 11
  | _ => 12
def svalF (n : Nat) (g : Nat → Nat) : Nat → Value
  | 0 => slz (g 0)
  | 1 => slz (g 1)
  | 4 => .slice (some ⟨g 4, 0, none⟩) n n
  | i => .pointer (some ⟨g i, 0, none⟩)
structure JF (W6 : World) (a : Option Addr) (n c : Nat) (L : Nat → Bool) (V : Nat → Value) (w : World) (g : Nat → Nat) : Prop where
  below : Below W6.heap.size W6 w
  bd : ∀ i ∈ Ms, L i = true → W6.heap.size ≤ g i ∧ g i < w.heap.size
  inj : ∀ i ∈ Ms, ∀ j ∈ Ms, L i = true → L j = true → g i = g j → i = j
  blk : ∀ i ∈ Ms, L i = true → Blk w (g i) (cont n L g i) (cty i)
  val : ∀ i ∈ Ms, L i = true → V (slotF i) = svalF n g i
  v2 : L 2 = true → V 17 = .slice a n c
  v3 : L 3 = true → V 18 = .int .i64 n
  c8 : L 8 = true → L 0 = true ∧ L 5 = true
  c9 : L 9 = true → L 1 = true ∧ L 6 = true
  c10 : L 10 = true → L 4 = true ∧ L 7 = true
theorem slotF_inj : ∀ i ∈ Ms, ∀ j ∈ Ms, slotF i = slotF j → i = j := by decide
theorem slotF_ne : ∀ i ∈ Ms, slotF i ≠ 17 ∧ slotF i ≠ 18 := by decide
theorem Ms_ne : ∀ i ∈ Ms, i ≠ 2 ∧ i ≠ 3 ∧ i ≠ 8 ∧ i ≠ 9 ∧ i ≠ 10 := by decide

section
variable {W6 w : World} {a : Option Addr} {n c : Nat} {L : Nat → Bool} {V : Nat → Value} {g : Nat → Nat}
theorem JF.cont_upd (h : JF W6 a n c L V w g) {i x : Nat} (hi : i ∈ Ms) (hL : L i = false) {j : Nat} (hj : j ∈ Ms) (hLj : L j = true) : cont n (upd L i true) (upd g i x) j = cont n L g j := by
  obtain ⟨m2, m3, m8, m9, m10⟩ := Ms_ne i hi
  have k : ∀ y, L y = true → upd g i x y = g y := fun y hy => upd_ne _ _ (by rintro rfl; rw [hL] at hy; cases hy)
  simp only [Ms, List.mem_cons, List.not_mem_nil, or_false] at hj
  rcases hj with rfl | rfl | rfl | rfl | rfl | rfl
  · rfl
  · rfl
  · rfl
  · simp only [cont, upd_ne L true (Ne.symm m8)]
    cases h8 : L 8 with
    | false => rfl
    | true => rw [k 0 (h.c8 h8).1]
  · simp only [cont, upd_ne L true (Ne.symm m9)]
    cases h8 : L 9 with
    | false => rfl
    | true => rw [k 1 (h.c9 h8).1]
  · simp only [cont, upd_ne L true (Ne.symm m10)]
    cases h8 : L 10 with
    | false => rfl
    | true => rw [k 4 (h.c10 h8).1]
theorem sval_upd {i x j : Nat} (hj : j ∈ Ms) (hne : j ≠ i) : svalF n (upd g i x) j = svalF n g j := by
  simp only [Ms, List.mem_cons, List.not_mem_nil, or_false] at hj
  rcases hj with rfl | rfl | rfl | rfl | rfl | rfl <;> simp [svalF, upd_ne g x hne]
theorem JF.new (h : JF W6 a n c L V w g) {i : Nat} (hi : i ∈ Ms) (hL : L i = false) {cs : Array Value} {e : TypeId} {v : Value}
    (hcs : cs = (cont n (upd L i true) (upd g i w.heap.size) i).toArray) (he : e = cty i) (hv : v = svalF n (upd g i w.heap.size) i) :
    JF W6 a n c (upd L i true) (upd V (slotF i) v) (w.alloc (.cells cs e)) (upd g i w.heap.size) := by
  obtain ⟨m2, m3, m8, m9, m10⟩ := Ms_ne i hi
  obtain ⟨s17, s18⟩ := slotF_ne i hi
  have hz := h.below.size
  subst hcs he hv
  have hb := fun o => (Below.refl w.heap.size w).alloc (Nat.le_refl _) o
  refine ⟨h.below.alloc hz _, ?_, ?_, ?_, ?_, ?_, ?_, ?_, ?_, ?_⟩
  · intro j hj hLj
    by_cases e : j = i
    · subst e; rw [upd_same]; simp; omega
    · rw [upd_ne _ _ e] at hLj ⊢
      have := h.bd j hj hLj
      simp; omega
  · intro j hj k hk hLj hLk hg
    by_cases e1 : j = i
    · by_cases e2 : k = i
      · rw [e1, e2]
      · subst e1
        rw [upd_ne _ _ e2] at hLk
        rw [upd_same, upd_ne _ _ e2] at hg
        have := (h.bd k hk hLk).2
        omega
    · rw [upd_ne _ _ e1] at hLj
      by_cases e2 : k = i
      · subst e2
        rw [upd_same, upd_ne _ _ e1] at hg
        have := (h.bd j hj hLj).2
        omega
      · rw [upd_ne _ _ e2] at hLk
        rw [upd_ne _ _ e1, upd_ne _ _ e2] at hg
        exact h.inj j hj k hk hLj hLk hg
  · intro j hj hLj
    by_cases e : j = i
    · subst e; rw [upd_same]; exact Blk.box _ _ _ rfl
    · rw [upd_ne _ _ e] at hLj ⊢
      rw [h.cont_upd hi hL hj hLj]
      exact (h.blk j hj hLj).below (hb _)
  · intro j hj hLj
    by_cases e : j = i
    · subst e; rw [upd_same]
    · rw [upd_ne _ _ e] at hLj
      rw [upd_ne _ _ (fun e' => e (slotF_inj j hj i hi e')), sval_upd hj e]
      exact h.val j hj hLj
  · rw [upd_ne _ _ (Ne.symm m2), upd_ne _ _ (Ne.symm s17)]; exact h.v2
  · rw [upd_ne _ _ (Ne.symm m3), upd_ne _ _ (Ne.symm s18)]; exact h.v3
  · intro h8
    rw [upd_ne _ _ (Ne.symm m8)] at h8
    have := h.c8 h8
    exact ⟨upd_true this.1, upd_true this.2⟩
  · intro h8
    rw [upd_ne _ _ (Ne.symm m9)] at h8
    have := h.c9 h8
    exact ⟨upd_true this.1, upd_true this.2⟩
  · intro h8
    rw [upd_ne _ _ (Ne.symm m10)] at h8
    have := h.c10 h8
    exact ⟨upd_true this.1, upd_true this.2⟩
theorem JF.read (h : JF W6 a n c L V w g) {i d : Nat} {v : Value} (hi : (i = 2 ∧ d = 17 ∧ v = .slice a n c) ∨ (i = 3 ∧ d = 18 ∧ v = .int .i64 n)) : JF W6 a n c (upd L i true) (upd V d v) w g := by
  have hne : ∀ j ∈ Ms, j ≠ i := fun j hj => by obtain ⟨m2, m3, _⟩ := Ms_ne j hj; rcases hi with ⟨rfl, _⟩ | ⟨rfl, _⟩ <;> assumption
  have hsd : ∀ j ∈ Ms, slotF j ≠ d := fun j hj => by obtain ⟨m2, m3⟩ := slotF_ne j hj; rcases hi with ⟨_, rfl, _⟩ | ⟨_, rfl, _⟩ <;> assumption
  have h8 : upd L i true 8 = L 8 ∧ upd L i true 9 = L 9 ∧ upd L i true 10 = L 10 ∧ upd L i true 0 = L 0 ∧ upd L i true 1 = L 1 ∧ upd L i true 4 = L 4 ∧ upd L i true 5 = L 5 ∧ upd L i true 6 = L 6 ∧ upd L i true 7 = L 7 := by
    rcases hi with ⟨rfl, _⟩ | ⟨rfl, _⟩ <;> simp [upd]
  obtain ⟨e8, e9, e10, e0, e1, e4, e5, e6, e7⟩ := h8
  have hc : ∀ j, cont n (upd L i true) g j = cont n L g j := fun j => by unfold cont; split <;> simp only [e8, e9, e10]
  refine ⟨h.below, ?_, ?_, ?_, ?_, ?_, ?_, ?_, ?_, ?_⟩
  · intro j hj hLj; rw [upd_ne _ _ (hne j hj)] at hLj; exact h.bd j hj hLj
  · intro j hj k hk hLj hLk; rw [upd_ne _ _ (hne j hj)] at hLj; rw [upd_ne _ _ (hne k hk)] at hLk; exact h.inj j hj k hk hLj hLk
  · intro j hj hLj; rw [upd_ne _ _ (hne j hj)] at hLj; rw [hc]; exact h.blk j hj hLj
  · intro j hj hLj; rw [upd_ne _ _ (hne j hj)] at hLj; rw [upd_ne _ _ (hsd j hj)]; exact h.val j hj hLj
  · rcases hi with ⟨rfl, rfl, rfl⟩ | ⟨rfl, rfl, rfl⟩
    · intro _; rw [upd_same]
    · simp only [upd_ne L true (show (2 : Nat) ≠ 3 by decide), upd_ne V _ (show (17 : Nat) ≠ 18 by decide)]; exact h.v2
  · rcases hi with ⟨rfl, rfl, rfl⟩ | ⟨rfl, rfl, rfl⟩
    · simp only [upd_ne L true (show (3 : Nat) ≠ 2 by decide), upd_ne V _ (show (18 : Nat) ≠ 17 by decide)]; exact h.v3
    · intro _; rw [upd_same]
  · rw [e8, e0, e5]; exact h.c8
  · rw [e9, e1, e6]; exact h.c9
  · rw [e10, e4, e7]; exact h.c10
/-- a store into one of the three variables -/
theorem JF.store (h : JF W6 a n c L V w g) {i x y : Nat} {v : Value} (hi : (i = 8 ∧ x = 5 ∧ y = 0) ∨ (i = 9 ∧ x = 6 ∧ y = 1) ∨ (i = 10 ∧ x = 7 ∧ y = 4)) (hx : L x = true) (hy : L y = true) (hv : v = svalF n g y) : JF W6 a n c (upd L i true) V (w.setCell ⟨g x, 0, none⟩ v) g := by
  have hne : ∀ j ∈ Ms, j ≠ i := fun j hj => by obtain ⟨m2, m3, m8, m9, m10⟩ := Ms_ne j hj; rcases hi with ⟨rfl, _⟩ | ⟨rfl, _⟩ | ⟨rfl, _⟩ <;> assumption
  have hxM : x ∈ Ms := by rcases hi with ⟨_, rfl, _⟩ | ⟨_, rfl, _⟩ | ⟨_, rfl, _⟩ <;> decide
  subst hv
  have hbx := h.blk x hxM hx
  have hb := h.bd x hxM hx
  refine ⟨h.below.setCell hb.1 _, ?_, ?_, ?_, ?_, ?_, ?_, ?_, ?_, ?_⟩
  · intro j hj hLj; rw [upd_ne _ _ (hne j hj)] at hLj; simpa [World.setCell] using h.bd j hj hLj
  · intro j hj k hk hLj hLk; rw [upd_ne _ _ (hne j hj)] at hLj; rw [upd_ne _ _ (hne k hk)] at hLk; exact h.inj j hj k hk hLj hLk
  · intro j hj hLj
    rw [upd_ne _ _ (hne j hj)] at hLj
    by_cases e : j = x
    · subst e
      have := hbx.set 0 (svalF n g y)
      rcases hi with ⟨rfl, rfl, rfl⟩ | ⟨rfl, rfl, rfl⟩ | ⟨rfl, rfl, rfl⟩ <;> simpa [cont, upd, svalF] using this
    · have h2 := (h.blk j hj hLj).other (g := g x) (i := 0) (fun e' => e (h.inj j hj x hxM hLj hx e')) (svalF n g y)
      have hc : cont n (upd L i true) g j = cont n L g j := by
        simp only [Ms, List.mem_cons, List.not_mem_nil, or_false] at hj
        rcases hi with ⟨rfl, rfl, rfl⟩ | ⟨rfl, rfl, rfl⟩ | ⟨rfl, rfl, rfl⟩ <;> rcases hj with rfl | rfl | rfl | rfl | rfl | rfl <;> first | rfl | exact (e rfl).elim
      rw [hc]; exact h2
  · intro j hj hLj; rw [upd_ne _ _ (hne j hj)] at hLj; exact h.val j hj hLj
  · rcases hi with ⟨rfl, _⟩ | ⟨rfl, _⟩ | ⟨rfl, _⟩ <;> exact h.v2
  · rcases hi with ⟨rfl, _⟩ | ⟨rfl, _⟩ | ⟨rfl, _⟩ <;> exact h.v3
  · rcases hi with ⟨rfl, rfl, rfl⟩ | ⟨rfl, rfl, rfl⟩ | ⟨rfl, rfl, rfl⟩
    · intro _; exact ⟨hy, hx⟩
    · exact h.c8
    · exact h.c8
  · rcases hi with ⟨rfl, rfl, rfl⟩ | ⟨rfl, rfl, rfl⟩ | ⟨rfl, rfl, rfl⟩
    · exact h.c9
    · intro _; exact ⟨hy, hx⟩
    · exact h.c9
  · rcases hi with ⟨rfl, rfl, rfl⟩ | ⟨rfl, rfl, rfl⟩ | ⟨rfl, rfl, rfl⟩
    · exact h.c10
    · exact h.c10
    · intro _; exact ⟨hy, hx⟩
end

/-- what every order keeps -/
structure IF (W6 : World) (a : Option Addr) (n c : Nat) (A0 : Array Value) (listed : Array Bool) (x : Act) (w : World) : Prop where
  ls : listed.size = 11
  ds : x.defers = []
  ts : x.tmps.size = 25
  fr : ∀ t, t < 25 → t ≠ 10 → t ≠ 11 → t ≠ 12 → t ≠ 15 → t ≠ 16 → t ≠ 17 → t ≠ 18 → t ≠ 19 → x.tmps.getD t undef = A0.getD t undef
  j : ∃ g, JF W6 a n c (fun i => listed.getD i false) (fun t => x.tmps.getD t undef) w g
theorem put_size (x : Act) (d : Option Tmp) (v : Value) : (x.put d v).tmps.size = x.tmps.size := by cases d <;> simp [Act.put]
theorem put_defers (x : Act) (d : Option Tmp) (v : Value) : (x.put d v).defers = x.defers := by cases d <;> rfl
theorem put_none (x : Act) (v : Value) : x.put none v = x := rfl
theorem put_other {x : Act} {d t : Nat} {v : Value} (h : t ≠ d) : (x.put (some d) v).tmps.getD t undef = x.tmps.getD t undef := by simp [Act.put, Ne.symm h]
section
variable {W6 w w' : World} {a : Option Addr} {n c : Nat} {A0 : Array Value} {listed : Array Bool} {x : Act}
theorem IF.step (h : IF W6 a n c A0 listed x w) {i d : Nat} {v : Value} (hi : i < 11) (hd : d = 10 ∨ d = 11 ∨ d = 12 ∨ d = 15 ∨ d = 16 ∨ d = 17 ∨ d = 18 ∨ d = 19)
    (hj : ∀ g, JF W6 a n c (fun i => listed.getD i false) (fun t => x.tmps.getD t undef) w g → ∃ g', JF W6 a n c (upd (fun i => listed.getD i false) i true) (upd (fun t => x.tmps.getD t undef) d v) w' g') : IF W6 a n c A0 (listed.setIfInBounds i true) (x.put (some d) v) w' := by
  obtain ⟨h1, h2, h3, h4, g, h5⟩ := h
  refine ⟨by simp [h1], by rw [put_defers]; exact h2, by rw [put_size]; exact h3, fun t ht a1 a2 a3 a4 a5 a6 a7 a8 => ?_, ?_⟩
  · rw [put_other (by omega)]; exact h4 t ht a1 a2 a3 a4 a5 a6 a7 a8
  · rw [getD_upd (by omega), put_upd (by omega)]; exact hj g h5
theorem IF.step0 (h : IF W6 a n c A0 listed x w) {i : Nat} (hi : i < 11)
    (hj : ∀ g, JF W6 a n c (fun i => listed.getD i false) (fun t => x.tmps.getD t undef) w g → ∃ g', JF W6 a n c (upd (fun i => listed.getD i false) i true) (fun t => x.tmps.getD t undef) w' g') : IF W6 a n c A0 (listed.setIfInBounds i true) x w' := by
  obtain ⟨h1, h2, h3, h4, g, h5⟩ := h
  exact ⟨by simp [h1], h2, h3, h4, by rw [getD_upd (by omega)]; exact hj g h5⟩
theorem IF.act (h : IF W6 a n c A0 listed x w) (hA : A0.size = 25) : x = { tmps := (((((((A0.setIfInBounds 10 (x.tmps.getD 10 undef)).setIfInBounds 11 (x.tmps.getD 11 undef)).setIfInBounds 12 (x.tmps.getD 12 undef)).setIfInBounds 15 (x.tmps.getD 15 undef)).setIfInBounds 16 (x.tmps.getD 16 undef)).setIfInBounds 17 (x.tmps.getD 17 undef)).setIfInBounds 18 (x.tmps.getD 18 undef)).setIfInBounds 19 (x.tmps.getD 19 undef), defers := [] } := by
  refine act_eq h.ds (by simp [h.ts, hA]) (fun t ht => ?_)
  have ht : t < 25 := by simpa [hA] using ht
  simp only [Array.getD_eq_getD_getElem?, Array.getElem?_setIfInBounds, Array.size_setIfInBounds, hA]
  by_cases e19 : 19 = t
  · subst e19; simp
  by_cases e18 : 18 = t
  · subst e18; simp
  by_cases e17 : 17 = t
  · subst e17; simp
  by_cases e16 : 16 = t
  · subst e16; simp
  by_cases e15 : 15 = t
  · subst e15; simp
  by_cases e12 : 12 = t
  · subst e12; simp
  by_cases e11 : 11 = t
  · subst e11; simp
  by_cases e10 : 10 = t
  · subst e10; simp
  rw [if_neg e19, if_neg e18, if_neg e17, if_neg e16, if_neg e15, if_neg e12, if_neg e11, if_neg e10]
  have := h.fr t ht (Ne.symm e10) (Ne.symm e11) (Ne.symm e12) (Ne.symm e15) (Ne.symm e16) (Ne.symm e17) (Ne.symm e18) (Ne.symm e19)
  simpa [Array.getD_eq_getD_getElem?] using this
end

set_option maxHeartbeats 4000000 in
theorem fewestAboveI_any (st be : Int) (a : Option Addr) (n c : Nat) (xs : List Int) (w : World) (hst : 3 ≤ st ∧ st ≤ 60) (hok : okRods xs = true) (hr : RV w a n c (ints xs)) :
    Calls Try.prog 26 #[.int .i64 st, .slice a n c, .int .i64 be] w fun e w' => ∃ v, e = .returned (.tuple #[v, .int .i64 (srchAll st xs be).2]) ∧ Own w' w.heap.size w'.heap.size 2 v (ints (nats (srchAll st xs be).1)) ∧ Below w.heap.size w w' := by
  have h7 : n ≤ 7 := by have := (okRods_iff.1 hok).2; rw [hr.lenI] at this; exact this
  have hmf : ∀ (fn : Fn) (first cap : Array Value) (w : World), (Instr.makeFunc fn first cap).run Try.prog w = .ok (.func fn first cap) w := fun _ _ _ _ => rfl
  have Hr := Lib.hid hr
  have Hok := Lib.hid hok
  clear hr hok
  go_enter Try.func26, Try.ntmps26
  go_wp2_with fail
  obtain ⟨W6, hW6⟩ : ∃ W6, W6 = ((((((w.alloc (.cells #[.int .i64 st] 2)).alloc (.cells #[.slice a n c] 22)).alloc (.cells #[.int .i64 be] 2)).alloc (.cells #[] 2)).alloc (.cells #[.slice (some ⟨w.heap.size + 1 + 1 + 1, 0, none⟩) 0 0] 22)).alloc (.cells #[.int .i64 (-1)] 2)) := ⟨_, rfl⟩
  rw [← hW6]
  have hBW : Below w.heap.size w W6 := by subst hW6; exact ((((((Below.refl _ _).alloc (Nat.le_refl _) _).alloc (by simp) _).alloc (by simp; omega) _).alloc (by simp; omega) _).alloc (by simp; omega) _).alloc (by simp; omega) _
  have hNW : W6.heap.size = w.heap.size + 6 := by subst hW6; simp
  have hR6 : W6.cell? ⟨w.heap.size + 1, 0, none⟩ = some (.slice a n c) := by
    subst hW6
    have h1 : ((w.alloc (.cells #[.int .i64 st] 2)).alloc (.cells #[.slice a n c] 22)).cell? ⟨w.heap.size + 1, 0, none⟩ = some (.slice a n c) := cell_boxed (by simp)
    exact cell_al (cell_al (cell_al (cell_al h1)))
  have Hk := Lib.hid hW6
  clear hW6
  refine wp_region_inv (fun x0 => IF W6 a n c x0.tmps) (by kernel_rfl) ?h0 ?hend ?hstep
  case h0 =>
    have hF : ∀ m i, (Array.replicate m false).getD i false = true → False := fun m i h => by rw [getD_replicate_false] at h; cases h
    exact ⟨by simp, rfl, rfl, fun t _ _ _ _ _ _ _ _ _ => rfl, fun _ => 0, ⟨bdrewN (Below.refl _ _) 1, fun i _ h => (hF _ i h).elim, fun i _ j _ h => (hF _ i h).elim, fun i _ h => (hF _ i h).elim, fun i _ h => (hF _ i h).elim, fun h => (hF _ 2 h).elim, fun h => (hF _ 3 h).elim, fun h => (hF _ 8 h).elim, fun h => (hF _ 9 h).elim, fun h => (hF _ 10 h).elim⟩⟩
  case hstep =>
    intro i o ho listed x w' hI hun hall K hK
    have hi : i < 11 := (List.getElem?_eq_some_iff.1 ho).1
    have hL : listed.getD i false = false := getD_both hun
    have v4 : x.tmps.getD 4 undef = .pointer (some ⟨w.heap.size + 1, 0, none⟩) := hI.fr 4 (by omega) (by omega) (by omega) (by omega) (by omega) (by omega) (by omega) (by omega) (by omega)
    rcases (show i = 0 ∨ i = 1 ∨ i = 2 ∨ i = 3 ∨ i = 4 ∨ i = 5 ∨ i = 6 ∨ i = 7 ∨ i = 8 ∨ i = 9 ∨ i = 10 by omega) with rfl | rfl | rfl | rfl | rfl | rfl | rfl | rfl | rfl | rfl | rfl
    · obtain rfl := Option.some.inj ho
      go_simp
      refine hK.out _ _ (hI.step (by omega) (by omega) fun g hj => ⟨_, hj.new (i := 0) (by decide) hL rfl rfl ?_⟩)
      rfl
    · obtain rfl := Option.some.inj ho
      go_simp
      refine hK.out _ _ (hI.step (by omega) (by omega) fun g hj => ⟨_, hj.new (i := 1) (by decide) hL rfl rfl ?_⟩)
      rfl
    · obtain rfl := Option.some.inj ho
      have cR : w'.cell? ⟨w.heap.size + 1, 0, none⟩ = some (.slice a n c) := by
        obtain ⟨g, hj⟩ := hI.j
        exact (hj.below.cell (p := ⟨w.heap.size + 1, 0, none⟩) (by show w.heap.size + 1 < W6.heap.size; omega)).trans hR6
      go_simp
      exact hK.out _ _ (hI.step (by omega) (by omega) fun g hj => ⟨g, hj.read (.inl ⟨rfl, rfl, rfl⟩)⟩)
    · obtain rfl := Option.some.inj ho
      have v17 : x.tmps.getD 17 undef = .slice a n c := by
        obtain ⟨g, hj⟩ := hI.j
        exact hj.v2 (hall { on := 2, ground := .data } (by simp) rfl)
      go_simp
      exact hK.out _ _ (hI.step (by omega) (by omega) fun g hj => ⟨g, hj.read (.inr ⟨rfl, rfl, rfl⟩)⟩)
    · obtain rfl := Option.some.inj ho
      have v18 : x.tmps.getD 18 undef = .int .i64 n := by
        obtain ⟨g, hj⟩ := hI.j
        exact hj.v3 (hall { on := 3, ground := .data } (by simp) rfl)
      have hmk := fun W => run_make_row' (P := Try.prog) 51 4 (.bool false) 1 Try.underlying51 (by kernel_rfl) rfl .i64 .i64 n (by omega) (by omega) W
      go_simp
      refine hK.out _ _ (hI.step (by omega) (by omega) fun g hj => ⟨_, hj.new (i := 4) (by decide) hL ?_ rfl ?_⟩)
      · have hmc : madeCells #[Value.bool false] n = Array.replicate n (Value.bool false) := by
          apply Array.ext
          · simp [size_madeCells]
          · intro i h1 h2; simp [madeCells, Nat.mod_one]
        simp [cont, hmc]
      · simp [svalF, upd]
    · obtain rfl := Option.some.inj ho
      go_simp
      refine hK.out _ _ (hI.step (by omega) (by omega) fun g hj => ⟨_, hj.new (i := 5) (by decide) hL ?_ rfl ?_⟩)
      · have hq : listed.getD 8 false = false := by
          cases h : listed.getD 8 false with
          | false => rfl
          | true => have := (hj.c8 h).2; rw [hL] at this; cases this
        simp only [cont, upd_ne _ _ (show (8 : Nat) ≠ 5 by decide), hq]
        rfl
      · simp [svalF, upd]
    · obtain rfl := Option.some.inj ho
      go_simp
      refine hK.out _ _ (hI.step (by omega) (by omega) fun g hj => ⟨_, hj.new (i := 6) (by decide) hL ?_ rfl ?_⟩)
      · have hq : listed.getD 9 false = false := by
          cases h : listed.getD 9 false with
          | false => rfl
          | true => have := (hj.c9 h).2; rw [hL] at this; cases this
        simp only [cont, upd_ne _ _ (show (9 : Nat) ≠ 6 by decide), hq]
        rfl
      · simp [svalF, upd]
    · obtain rfl := Option.some.inj ho
      go_simp
      refine hK.out _ _ (hI.step (by omega) (by omega) fun g hj => ⟨_, hj.new (i := 7) (by decide) hL ?_ rfl ?_⟩)
      · have hq : listed.getD 10 false = false := by
          cases h : listed.getD 10 false with
          | false => rfl
          | true => have := (hj.c10 h).2; rw [hL] at this; cases this
        simp only [cont, upd_ne _ _ (show (10 : Nat) ≠ 7 by decide), hq]
        rfl
      · simp [svalF, upd]
    · obtain rfl := Option.some.inj ho
      obtain ⟨g, hj⟩ := hI.j
      have hx := hall { on := 5, ground := .data } (by simp) rfl
      have hy := hall { on := 0, ground := .data } (by simp) rfl
      have v1 : x.tmps.getD 10 undef = .pointer (some ⟨g 5, 0, none⟩) := hj.val 5 (by decide) hx
      have v2 : x.tmps.getD 15 undef = svalF n g 0 := hj.val 0 (by decide) hy
      have hb := hj.blk 5 (by decide) hx
      have d1 := hb.cell 0 _ rfl
      have f1 := hb.frozen 0
      unfold svalF at v2
      (try unfold slz at v2)
      have Hj := Lib.hid hj
      clear hb hj
      go_simp
      refine hK.out _ _ (hI.step0 (i := 8) (by omega) fun g' hj' => ⟨g, ?_⟩)
      exact Hj.out.store (.inl ⟨rfl, rfl, rfl⟩) hx hy rfl
    · obtain rfl := Option.some.inj ho
      obtain ⟨g, hj⟩ := hI.j
      have hx := hall { on := 6, ground := .data } (by simp) rfl
      have hy := hall { on := 1, ground := .data } (by simp) rfl
      have v1 : x.tmps.getD 11 undef = .pointer (some ⟨g 6, 0, none⟩) := hj.val 6 (by decide) hx
      have v2 : x.tmps.getD 16 undef = svalF n g 1 := hj.val 1 (by decide) hy
      have hb := hj.blk 6 (by decide) hx
      have d1 := hb.cell 0 _ rfl
      have f1 := hb.frozen 0
      unfold svalF at v2
      (try unfold slz at v2)
      have Hj := Lib.hid hj
      clear hb hj
      go_simp
      refine hK.out _ _ (hI.step0 (i := 9) (by omega) fun g' hj' => ⟨g, ?_⟩)
      exact Hj.out.store (.inr (.inl ⟨rfl, rfl, rfl⟩)) hx hy rfl
    · obtain rfl := Option.some.inj ho
      obtain ⟨g, hj⟩ := hI.j
      have hx := hall { on := 7, ground := .data } (by simp) rfl
      have hy := hall { on := 4, ground := .data } (by simp) rfl
      have v1 : x.tmps.getD 12 undef = .pointer (some ⟨g 7, 0, none⟩) := hj.val 7 (by decide) hx
      have v2 : x.tmps.getD 19 undef = svalF n g 4 := hj.val 4 (by decide) hy
      have hb := hj.blk 7 (by decide) hx
      have d1 := hb.cell 0 _ rfl
      have f1 := hb.frozen 0
      unfold svalF at v2
      (try unfold slz at v2)
      have Hj := Lib.hid hj
      clear hb hj
      go_simp
      refine hK.out _ _ (hI.step0 (i := 10) (by omega) fun g' hj' => ⟨g, ?_⟩)
      exact Hj.out.store (.inr (.inr ⟨rfl, rfl, rfl⟩)) hx hy rfl
  case hend =>
    intro listed x w' hI hrd
    have hall := ready_all (by kernel_rfl) hI.ls hrd
    have hx := hI.act rfl
    obtain ⟨g, hj⟩ := hI.j
    have v10 : x.tmps.getD 10 undef = .pointer (some ⟨g 5, 0, none⟩) := hj.val 5 (by decide) (hall 5 (by decide))
    have v11 : x.tmps.getD 11 undef = .pointer (some ⟨g 6, 0, none⟩) := hj.val 6 (by decide) (hall 6 (by decide))
    have v12 : x.tmps.getD 12 undef = .pointer (some ⟨g 7, 0, none⟩) := hj.val 7 (by decide) (hall 7 (by decide))
    rw [v10, v11, v12] at hx
    generalize x.tmps.getD 15 undef = u15 at hx
    generalize x.tmps.getD 16 undef = u16 at hx
    generalize x.tmps.getD 17 undef = u17 at hx
    generalize x.tmps.getD 18 undef = u18 at hx
    generalize x.tmps.getD 19 undef = u19 at hx
    simp only [List.setIfInBounds_toArray, List.set_cons_succ, List.set_cons_zero] at hx
    have b0 := hj.blk 0 (by decide) (hall 0 (by decide))
    have b1 := hj.blk 1 (by decide) (hall 1 (by decide))
    have b4 := hj.blk 4 (by decide) (hall 4 (by decide))
    have b5 := hj.blk 5 (by decide) (hall 5 (by decide))
    have b6 := hj.blk 6 (by decide) (hall 6 (by decide))
    have b7 := hj.blk 7 (by decide) (hall 7 (by decide))
    simp only [cont, cty, hall 8 (by decide), hall 9 (by decide), hall 10 (by decide), if_true] at b0 b1 b4 b5 b6 b7
    have d0 := hj.bd 0 (by decide) (hall 0 (by decide))
    have d1 := hj.bd 1 (by decide) (hall 1 (by decide))
    have d4 := hj.bd 4 (by decide) (hall 4 (by decide))
    have d5 := hj.bd 5 (by decide) (hall 5 (by decide))
    have d6 := hj.bd 6 (by decide) (hall 6 (by decide))
    have d7 := hj.bd 7 (by decide) (hall 7 (by decide))
    have hne : ∀ i ∈ Ms, ∀ j ∈ Ms, i ≠ j → i < 11 → j < 11 → g i ≠ g j := fun i hi j hj' hij h1 h2 e => hij (hj.inj i hi j hj' (hall i h1) (hall j h2) e)
    have hB1 := hj.below
    clear hI hrd hj hall v10 v11 v12
    obtain ⟨q, hq⟩ : ∃ q : PS, q = ⟨w.heap.size + 1 + 1 + 1 + 1 + 1, w.heap.size, g 6, w.heap.size + 1 + 1, g 5, w.heap.size + 1, w.heap.size + 1 + 1 + 1 + 1, g 7, w'.heap.size, g 4, w.heap.size⟩ := ⟨_, rfl⟩
    have hok := Hok.out
    have hrv := Hr.out
    have hS : Blk W6 w.heap.size [.int .i64 st] 2 := by
      rw [Hk.out]
      exact (((((Blk.box w [.int .i64 st] 2 rfl).alloc _).alloc _).alloc _).alloc _).alloc _
    have hRb : Blk W6 (w.heap.size + 1) [.slice a n c] 22 := by
      rw [Hk.out]
      exact ((((Blk.box (w.alloc (.cells #[.int .i64 st] 2)) [.slice a n c] 22 (by simp)).alloc _).alloc _).alloc _).alloc _
    have hBb : Blk W6 (w.heap.size + 1 + 1) [.int .i64 be] 2 := by
      rw [Hk.out]
      exact (((Blk.box ((w.alloc (.cells #[.int .i64 st] 2)).alloc (.cells #[.slice a n c] 22)) [.int .i64 be] 2 (by simp)).alloc _).alloc _).alloc _
    have hEb : Blk W6 (w.heap.size + 1 + 1 + 1 + 1) [.slice (some ⟨w.heap.size + 1 + 1 + 1, 0, none⟩) 0 0] 22 := by
      rw [Hk.out]
      exact (Blk.box ((((w.alloc (.cells #[.int .i64 st] 2)).alloc (.cells #[.slice a n c] 22)).alloc (.cells #[.int .i64 be] 2)).alloc (.cells #[] 2)) [.slice (some ⟨w.heap.size + 1 + 1 + 1, 0, none⟩) 0 0] 22 (by simp)).alloc _
    have hLb : Blk W6 (w.heap.size + 1 + 1 + 1 + 1 + 1) [.int .i64 (-1)] 2 := by
      rw [Hk.out]
      exact Blk.box (((((w.alloc (.cells #[.int .i64 st] 2)).alloc (.cells #[.slice a n c] 22)).alloc (.cells #[.int .i64 be] 2)).alloc (.cells #[] 2)).alloc (.cells #[.slice (some ⟨w.heap.size + 1 + 1 + 1, 0, none⟩) 0 0] 22)) [.int .i64 (-1)] 2 (by simp)
    have hrow : W6.ownsRow w.heap.size 2 1 (.slice (some ⟨w.heap.size + 1 + 1 + 1, 0, none⟩) 0 0) 0 (ints (nats [])) := by
      rw [Hk.out]
      exact ((owns_empty (w := ((w.alloc (.cells #[.int .i64 st] 2)).alloc (.cells #[.slice a n c] 22)).alloc (.cells #[.int .i64 be] 2)) (base := w.heap.size) (g := w.heap.size + 1 + 1 + 1) (by simp) (by omega)).alloc _).alloc _
    have hle := hB1.size
    have n45 := hne 4 (by decide) 5 (by decide) (by decide) (by decide) (by decide)
    have n46 := hne 4 (by decide) 6 (by decide) (by decide) (by decide) (by decide)
    have n47 := hne 4 (by decide) 7 (by decide) (by decide) (by decide) (by decide)
    have n56 := hne 5 (by decide) 6 (by decide) (by decide) (by decide) (by decide)
    have n57 := hne 5 (by decide) 7 (by decide) (by decide) (by decide) (by decide)
    have n67 := hne 6 (by decide) 7 (by decide) (by decide) (by decide) (by decide)
    have n01 := hne 0 (by decide) 1 (by decide) (by decide) (by decide) (by decide)
    have n04 := hne 0 (by decide) 4 (by decide) (by decide) (by decide) (by decide)
    have n05 := hne 0 (by decide) 5 (by decide) (by decide) (by decide) (by decide)
    have n06 := hne 0 (by decide) 6 (by decide) (by decide) (by decide) (by decide)
    have n07 := hne 0 (by decide) 7 (by decide) (by decide) (by decide) (by decide)
    have n14 := hne 1 (by decide) 4 (by decide) (by decide) (by decide) (by decide)
    have n15 := hne 1 (by decide) 5 (by decide) (by decide) (by decide) (by decide)
    have n16 := hne 1 (by decide) 6 (by decide) (by decide) (by decide) (by decide)
    have n17 := hne 1 (by decide) 7 (by decide) (by decide) (by decide) (by decide)
    have hqk : PSok q := by subst hq; constructor <;> (simp only; omega)
    have hnx : ∀ x, w.heap.size ≤ x → x ≠ w.heap.size → x ≠ w.heap.size + 1 → x ≠ w.heap.size + 2 → x ≠ w.heap.size + 4 → x ≠ w.heap.size + 5 → x ≠ g 4 → x ≠ g 5 → x ≠ g 6 → x ≠ g 7 → x < w'.heap.size → NXg q x := by
      intro x a1 a2 a3 a4 a5 a6 a7 a8 a9 a10 a11
      subst hq; constructor <;> (simp only; omega)
    have hal := fun (o : Obj) => (Below.refl w'.heap.size w').alloc (Nat.le_refl _) o
    have hb6 : ∀ {b cs e}, Blk W6 b cs e → Blk (w'.alloc (.cells #[FV q] 1)) b cs e := fun h => (h.below hB1).alloc _
    have hCI : CI w q st be a n c xs [] ([], -1) (slz (g 0)) (slz (g 1)) (.slice (some ⟨w.heap.size + 1 + 1 + 1, 0, none⟩) 0 0) (w'.alloc (.cells #[FV q] 1)) := by
      have hu : usedV n [] = List.replicate n (.bool false) := by
        apply List.ext_getElem?
        intro i
        by_cases hi : i < n
        · rw [usedV_get hi]; simp [hi]
        · rw [List.getElem?_eq_none (by simp [usedV]; omega), List.getElem?_eq_none (by simp; omega)]
      refine ⟨⟨((hBW.trans (hB1.mono (by omega))).alloc (by omega) _).mono ?_, ?_, ?_, ?_, ?_, ?_, ?_, ?_, ?_, ?_, ?_, ?_, ?_, ?_, by decide, by decide⟩, ?_, ?_, ?_, ?_, ?_, ?_, ?_⟩
      · subst hq; exact Nat.le_refl _
      · subst hq; rfl
      · have := hb6 hS; subst hq; exact this
      · have := hb6 hRb; subst hq; exact this
      · have := hb6 hBb; subst hq; exact this
      · have : Blk (w'.alloc (.cells #[FV q] 1)) w'.heap.size [FV q] 1 := Blk.box _ _ _ rfl
        have e : q.P = w'.heap.size := by subst hq; rfl
        rw [e]; exact this
      · have := b7.alloc (.cells #[FV q] 1); subst hq; exact this
      · rw [hu]; have := b4.alloc (.cells #[FV q] 1); subst hq; exact this
      · have := hb6 hLb; subst hq; exact this
      · have := hb6 hEb; subst hq; exact this
      · have := b5.alloc (.cells #[FV q] 1); subst hq; exact this
      · have := b6.alloc (.cells #[FV q] 1); subst hq; exact this
      · have := (owns_below hrow hB1).alloc (.cells #[FV q] 1); subst hq; exact this
      · intro x e
        have hx : x = w.heap.size + 3 := (Option.some.inj e).symm
        subst hx
        exact hnx _ (by omega) (by omega) (by omega) (by omega) (by omega) (by omega) (by omega) (by omega) (by omega) (by omega) (by omega)
      · have : (w'.alloc (.cells #[FV q] 1)).ownsRow w.heap.size 2 1 (slz (g 0)) 0 (ints (nats [])) := ⟨by simp [nats], .inr ⟨g 0, 0, #[], rfl, by omega, b0.alloc _, Nat.le_refl _, Nat.zero_le _, by simp, by simp [nats]⟩⟩
        subst hq; exact this
      · have : (w'.alloc (.cells #[FV q] 1)).ownsRow w.heap.size 2 1 (slz (g 1)) 0 (ints (laidIn xs [])) := ⟨by simp [laidIn], .inr ⟨g 1, 0, #[], rfl, by omega, b1.alloc _, Nat.le_refl _, Nat.zero_le _, by simp, by simp [laidIn]⟩⟩
        subst hq; exact this
      · intro x e
        have hx : x = g 0 := (Option.some.inj e).symm
        subst hx
        exact hnx _ (by omega) (by omega) (by omega) (by omega) (by omega) (by omega) n04 n05 n06 n07 (by omega)
      · intro x e
        have hx : x = g 1 := (Option.some.inj e).symm
        subst hx
        exact hnx _ (by omega) (by omega) (by omega) (by omega) (by omega) (by omega) n14 n15 n16 n17 (by omega)
      · intro x e e'
        have hx : x = g 0 := (Option.some.inj e).symm
        have hy : x = g 1 := (Option.some.inj e').symm
        omega
      · intro x e e'
        have hx : x = g 0 := (Option.some.inj e).symm
        have hy : x = w.heap.size + 3 := (Option.some.inj e').symm
        omega
      · intro x e e'
        have hx : x = g 1 := (Option.some.inj e).symm
        have hy : x = w.heap.size + 3 := (Option.some.inj e').symm
        omega
    have hlen := hrv.lenI
    have hsr := srchI_any w st be a n c xs hst hok hrv q hqk n [] ([], -1) _ _ _ _ (by simp) (by simp) hCI
    have hres : srch (meas st xs be) n n [] ([], -1) = srchAll st xs be := by unfold srchAll; rw [hlen]
    rw [hres] at hsr
    have eF : FV q = FV ⟨w.heap.size + 1 + 1 + 1 + 1 + 1, w.heap.size, g 6, w.heap.size + 1 + 1, g 5, w.heap.size + 1, w.heap.size + 1 + 1 + 1 + 1, g 7, w'.heap.size, g 4, w.heap.size⟩ := by rw [hq]
    rw [eF] at hsr
    unfold FV at hsr
    have Hsr := Lib.hid hsr
    obtain ⟨q2, Hq2⟩ : ∃ q2 : PS, Hid (q2 = q ∧ q.L = w.heap.size + 1 + 1 + 1 + 1 + 1 ∧ q.S = w.heap.size ∧ q.A = g 6 ∧ q.B = w.heap.size + 1 + 1 ∧ q.O = g 5 ∧ q.R = w.heap.size + 1 ∧ q.E = w.heap.size + 1 + 1 + 1 + 1 ∧ q.U = g 7 ∧ q.P = w'.heap.size ∧ q.Z = w.heap.size) := ⟨q, by subst hq; exact ⟨rfl, rfl, rfl, rfl, rfl, rfl, rfl, rfl, rfl, rfl, rfl⟩⟩
    have HD := Lib.hid hx
    subst hx
    clear HD hsr hCI hnx hb6 hal hqk n45 n46 n47 n56 n57 n67 n01 n04 n05 n06 n07 n14 n15 n16 n17 hrow hLb hEb hBb hRb hS hne d0 d1 d4 d5 d6 d7 b0 b1 b4 b5 b6 b7 hok hrv hres hlen eF hR6
    obtain ⟨_, qL, qS, qA, qB, qO, qR, qE, qU, qP, qZ⟩ := Hq2.out
    rw [qL, qS, qA, qB, qO, qR, qE, qU, qP] at Hsr
    clear qL qS qA qB qO qR qE qU qP qZ hq hle hNW
    go_wp2_with (go_at_call 39; (with_reducible refine Hsr.out.mono ?_); rintro e w5 ⟨rfl, vo5, vl5, bv5, hC5⟩; have HC5 := Lib.hid hC5; have cE := hC5.e.cell 0 _ rfl; have cL := hC5.l.cell 0 _ rfl; rw [Hq2.out.2.2.2.2.2.2.2.1] at cE; rw [Hq2.out.2.1] at cL; clear hC5)
    go_quiet (fail)
    go_wp2
    go_ret2
    have hZ := Hq2.out.2.2.2.2.2.2.2.2.2.2
    have h1 := HC5.out.re
    have h2 := HC5.out.below
    rw [hZ] at h1 h2
    exact ⟨_, rfl, (own_of_row h1 rfl (Nat.le_refl _)).drewN _, bdrewN h2 _⟩

theorem fewest_any (st be : Int) (a : Option Addr) (n c : Nat) (xs : List Int) (w : World) (ha : RV w a n c (ints xs)) :
    Calls Try.prog 8 #[.int .i64 st, .slice a n c, .int .i64 be] w fun e w' => e = rt2 (fewR st xs be) ∧ Below w.heap.size w w' := by
  by_cases hc : laidC st xs be = 0
  · obtain ⟨hst, hok⟩ := laidC_ok hc
    rw [show fewR st xs be = ((srchAll st xs be).2, 0) by simp [fewR, hc]]
    have hcode := fun W h => laidCode_any st be a n c xs W h
    rw [hc] at hcode
    have Hall := Lib.hid (fewestAboveI_any st be a n c xs w hst hok ha)
    generalize srchAll st xs be = S at *
    go_enter Try.func8, Try.ntmps8
    go_wp2_with (first | (go_at_call 25; refine (hcode _ ha).mono ?_; rintro e w' ⟨rfl, rfl⟩) | (go_at_call 26; refine Hall.out.mono ?_; rintro e w1 ⟨v, rfl, ho, hb⟩; have HB := Lib.hid hb; clear ho hb))
    go_ret2
    exact ⟨rfl, HB.out⟩
  · rw [show fewR st xs be = (0, laidC st xs be) by simp [fewR, hc]]
    go_enter Try.func8, Try.ntmps8
    go_wp2_with (go_at_call 25; refine (laidCode_any _ _ _ _ _ _ _ ha).mono ?_; rintro e w' ⟨rfl, rfl⟩)
    go_ret2
    exact ⟨rfl, Below.refl _ _⟩

theorem order_any (st be : Int) (a : Option Addr) (n c : Nat) (xs : List Int) (w : World) (ha : RV w a n c (ints xs)) :
    Calls Try.prog 11 #[.int .i64 st, .slice a n c, .int .i64 be] w (RetL w 2 (orderR st xs be)) := by
  by_cases hc : laidC st xs be = 0
  · obtain ⟨hst, hok⟩ := laidC_ok hc
    have hcode := fun W h => laidCode_any st be a n c xs W h
    rw [hc] at hcode
    have Hall := Lib.hid (fewestAboveI_any st be a n c xs w hst hok ha)
    have h00 := (srchAll_ok st xs be).1
    by_cases h0 : (srchAll st xs be).2 = 0
    · rw [show orderR st xs be = (nats (srchAll st xs be).1, 0) by simp [orderR, hc, h0]]
      generalize srchAll st xs be = S at *
      have t0 : ¬ 0 < S.2 := by omega
      clear h0 h00
      go_enter Try.func11, Try.ntmps11
      go_wp2_with (first | (go_at_call 25; refine (hcode _ ha).mono ?_; rintro e w' ⟨rfl, rfl⟩) | (go_at_call 26; refine Hall.out.mono ?_; rintro e w1 ⟨v, rfl, ho, hb⟩; have HB := Lib.hid hb; have Ho := Lib.hid ho; clear ho hb))
      go_ret2
      exact ⟨_, rfl, Ho.out, HB.out⟩
    · rw [show orderR st xs be = ([], 3) by simp [orderR, hc, h0]]
      generalize srchAll st xs be = S at *
      have t0 : 0 < S.2 := by omega
      clear h0 h00
      go_enter Try.func11, Try.ntmps11
      go_wp2_with (first | (go_at_call 25; refine (hcode _ ha).mono ?_; rintro e w' ⟨rfl, rfl⟩) | (go_at_call 26; refine Hall.out.mono ?_; rintro e w1 ⟨v, rfl, ho, hb⟩; have HB := Lib.hid hb; have Ho := Lib.hid ho; clear ho hb))
      go_ret2
      exact ⟨_, rfl, Own.nil _ _ _ _, HB.out⟩
  · rw [show orderR st xs be = ([], laidC st xs be) by simp [orderR, hc]]
    have hne : (laidC st xs be != 0) = true := by simp [hc]
    go_enter Try.func11, Try.ntmps11
    go_wp2_with (go_at_call 25; refine (laidCode_any _ _ _ _ _ _ _ ha).mono ?_; rintro e w' ⟨rfl, rfl⟩)
    go_ret2
    exact ⟨_, rfl, Own.nil _ _ _ _, Below.refl _ _⟩
theorem orderR_len (st : Int) (l : List Int) (be : Int) : (orderR st l be).1.length ≤ 1000000 := by
  unfold orderR
  by_cases hc : laidC st l be = 0
  · rw [if_pos hc]
    have h1 := (srchAll_ok st l be).2.1
    have h2 := (okRods_iff.1 (laidC_ok hc).2).2
    split
    · simp [nats]; omega
    · simp
  · rw [if_neg hc]; simp
end Go.Proofs.Ytdbgicfbigjmmaa
