/-
  The table of a plan of stakes in memory: a row of rows of the call's own; slices.Min, slices.Repeat of one element.
-/
import Derived.Test.YtkglcfeopicakaaShapePlan
import Derived.Test.YtkglcfeopicakaaRegTail
import Derived.Laws.CopyOwn
import Derived.StillTailTactics
namespace Go.Proofs.Ytkglcfeopicakaa
open Go Go.RowKit
set_option linter.unusedVariables false

/-! ### a row of rows -/
def updF {α : Type} (f : Nat → α) (i : Nat) (v : α) : Nat → α := fun j => if j = i then v else f j
theorem updF_same {α : Type} (f : Nat → α) (i : Nat) (v : α) : updF f i v i = v := by simp [updF]
theorem updF_ne {α : Type} (f : Nat → α) {i j : Nat} (v : α) (h : j ≠ i) : updF f i v j = f j := by simp [updF, h]
def rowS (b : Nat) : Value := .slice (some ⟨b, 0, none⟩) 61 61
def tabV (n k : Nat) (g : Nat → Nat) : List Value := (List.range n).map fun i => if k ≤ i then rowS (g i) else .slice none 0 0
theorem tabV_get {n k i : Nat} {g : Nat → Nat} (hi : i < n) (hk : k ≤ i) : (tabV n k g)[i]? = some (rowS (g i)) := by simp [tabV, hi, hk]
theorem tabV_new {n k b : Nat} {g : Nat → Nat} (hk : k < n) : (tabV n (k + 1) g).set k (rowS b) = tabV n k (updF g k b) := by
  apply List.ext_getElem?
  intro i
  simp only [tabV, List.getElem?_set, List.length_map, List.length_range, List.getElem?_map]
  by_cases h1 : k = i
  · subst h1; simp [hk, updF]
  · by_cases hi : i < n
    · simp only [if_neg h1, List.getElem?_range hi, Option.map_some]
      rw [updF_ne _ _ (Ne.symm h1)]
      by_cases h2 : k + 1 ≤ i
      · rw [if_pos h2, if_pos (by omega)]
      · rw [if_neg h2, if_neg (by omega)]
    · simp [h1, hi]
structure Tab (W w : World) (G n k : Nat) (g : Nat → Nat) (R : Nat → List Int) : Prop where
  below : Below W.heap.size W w
  hG : W.heap.size ≤ G
  blk : Blk w G (tabV n k g) 24
  row : ∀ i, k ≤ i → i < n → W.heap.size ≤ g i ∧ g i ≠ G ∧ Blk w (g i) (ints (R i)) 2 ∧ (R i).length = 61
  inj : ∀ i j, k ≤ i → i < n → k ≤ j → j < n → g i = g j → i = j
section
variable {W w w' : World} {G n k : Nat} {g : Nat → Nat} {R : Nat → List Int}
theorem Tab.drewN (h : Tab W w G n k g R) (m : Nat) : Tab W (w.drewN m) G n k g R := ⟨bdrewN h.below m, h.hG, h.blk, h.row, h.inj⟩
theorem Tab.drew (h : Tab W w G n k g R) : Tab W w.drew G n k g R := ⟨h.below.drew, h.hG, h.blk, h.row, h.inj⟩
theorem Tab.start {w0 : World} (h0 : Below W.heap.size W w0) (hn : n ≤ maxLen) {cs : Array Value} (hcs : cs = madeCells #[Value.slice none 0 0] n) (g : Nat → Nat) (R : Nat → List Int) : Tab W (w0.alloc (.cells cs 24)) w0.heap.size n n g R := by
  subst hcs
  have e : (tabV n n g).toArray = madeCells #[Value.slice none 0 0] n := by
    apply Array.ext_getElem?
    intro i
    by_cases hi : i < n
    · simp [tabV, madeCells, hi, Nat.mod_one, show ¬ n ≤ i by omega]
    · simp [tabV, madeCells, hi]
  refine ⟨h0.alloc h0.size _, h0.size, ?_, fun i h1 h2 => absurd h1 (by omega), fun i j h1 h2 => absurd h1 (by omega)⟩
  rw [← e]
  exact Blk.box _ _ _ rfl
theorem Tab.top (h : Tab W w G n k g R) {i : Nat} (hk : k ≤ i) (hi : i < n) : w.cell? ⟨G, i, none⟩ = some (.slice (some ⟨g i, 0, none⟩) 61 61) := h.blk.cell i _ (tabV_get hi hk)
theorem Tab.topAny (h : Tab W w G n k g R) {i : Nat} (hi : i < n) : ∃ u, w.cell? ⟨G, i, none⟩ = some u := by
  have : i < (tabV n k g).length := by simp [tabV]; exact hi
  exact ⟨_, h.blk.cell i _ (List.getElem?_eq_getElem this)⟩
theorem Tab.topF (h : Tab W w G n k g R) (i : Nat) : w.frozen? ⟨G, i, none⟩ = false := h.blk.frozen i
theorem Tab.at (h : Tab W w G n k g R) {i j : Nat} (hk : k ≤ i) (hi : i < n) (hj : j < 61) : w.cell? ⟨g i, j, none⟩ = some (.int .i64 ((R i).getD j 0)) := by
  obtain ⟨_, _, h3, h4⟩ := h.row i hk hi
  refine h3.cell j _ ?_
  simp [List.getElem?_eq_getElem (h4 ▸ hj : j < (R i).length)]
theorem Tab.atF (h : Tab W w G n k g R) {i : Nat} (hk : k ≤ i) (hi : i < n) (j : Nat) : w.frozen? ⟨g i, j, none⟩ = false := (h.row i hk hi).2.2.1.frozen j
theorem Tab.rv (h : Tab W w G n k g R) {i : Nat} (hk : k ≤ i) (hi : i < n) : RV w (some ⟨g i, 0, none⟩) 61 61 (ints (R i)) := by
  obtain ⟨_, _, h3, h4⟩ := h.row i hk hi
  refine ⟨by simp [h4], by omega, by unfold maxLen; omega, .inr ⟨g i, 0, rfl, h3.lt, fun j u hu => ?_⟩⟩
  rw [Nat.zero_add]
  exact h3.cell j u hu
theorem Tab.put (h : Tab W w G n k g R) {i : Nat} (hk : k ≤ i) (hi : i < n) (j : Nat) (x : Int) : Tab W (w.setCell ⟨g i, j, none⟩ (.int .i64 x)) G n k g (updF R i ((R i).set j x)) := by
  obtain ⟨a1, a2, a3, a4⟩ := h.row i hk hi
  refine ⟨h.below.setCell a1 _, h.hG, h.blk.other (Ne.symm a2) _, fun i' h1 h2 => ?_, h.inj⟩
  obtain ⟨b1, b2, b3, b4⟩ := h.row i' h1 h2
  by_cases e : i' = i
  · subst e
    rw [updF_same]
    refine ⟨b1, b2, ?_, by simp [b4]⟩
    have := b3.set j (.int .i64 x)
    rwa [show ints ((R i').set j x) = (ints (R i')).set j (.int .i64 x) by simp [List.map_set]]
  · rw [updF_ne _ _ e]
    exact ⟨b1, b2, b3.other (fun e' => e (h.inj i' i h1 h2 hk hi e')) _, b4⟩
theorem Tab.below' (h : Tab W w G n k g R) (hb : Below w.heap.size w w') : Tab W w' G n k g R :=
  ⟨h.below.trans (hb.mono h.below.size), h.hG, h.blk.below hb, fun i h1 h2 => by obtain ⟨b1, b2, b3, b4⟩ := h.row i h1 h2; exact ⟨b1, b2, b3.below hb, b4⟩, h.inj⟩
theorem Tab.grown (h : Tab W w G n k g R) {row : Option Nat} (hg : w.grownBy w' row) (hr : ∀ b, row = some b → W.heap.size ≤ b ∧ b ≠ G ∧ ∀ i, k ≤ i → i < n → b ≠ g i) : Tab W w' G n k g R := by
  refine ⟨h.below.grown hg h.below.size (fun b hb => (hr b hb).1), h.hG, h.blk.grown hg (fun e => (hr G e.symm).2.1 rfl), fun i h1 h2 => ?_, h.inj⟩
  obtain ⟨b1, b2, b3, b4⟩ := h.row i h1 h2
  exact ⟨b1, b2, b3.grown hg (fun e => (hr _ e.symm).2.2 i h1 h2 rfl), b4⟩
theorem Tab.new (h : Tab W w G n (k + 1) g R) (hk : k < n) {b : Nat} {r : List Int} (hbw : Below w.heap.size w w') (hb : w.heap.size ≤ b) (hr : Blk w' b (ints r) 2) (hl : r.length = 61) :
    Tab W (w'.setCell ⟨G, k, none⟩ (.slice (some ⟨b, 0, none⟩) 61 61)) G n k (updF g k b) (updF R k r) := by
  have h' := h.below' hbw
  have hGw : G < w.heap.size := h.blk.lt
  have hgw : ∀ i, k + 1 ≤ i → i < n → g i < w.heap.size := fun i h1 h2 => (h.row i h1 h2).2.2.1.lt
  have hz := h.below.size
  refine ⟨h'.below.setCell h.hG _, h.hG, ?_, fun i h1 h2 => ?_, fun i j h1 h2 h3 h4 e => ?_⟩
  · have := h'.blk.set k (rowS b)
    rw [tabV_new hk] at this
    exact this
  · by_cases e : i = k
    · subst e
      rw [updF_same, updF_same]
      exact ⟨by omega, by omega, hr.other (by omega) _, hl⟩
    · rw [updF_ne _ _ e, updF_ne _ _ e]
      obtain ⟨b1, b2, b3, b4⟩ := h'.row i (by omega) h2
      exact ⟨b1, b2, b3.other b2 _, b4⟩
  · by_cases e1 : i = k
    · by_cases e2 : j = k
      · omega
      · subst e1
        rw [updF_same, updF_ne _ _ e2] at e
        have := hgw j (by omega) h4
        omega
    · by_cases e2 : j = k
      · subst e2
        rw [updF_same, updF_ne _ _ e1] at e
        have := hgw i (by omega) h2
        omega
      · rw [updF_ne _ _ e1, updF_ne _ _ e2] at e
        exact h.inj i j (by omega) h2 (by omega) h4 e
end

/-- all rows from level k on are as told -/
def TabD (W w : World) (G n k : Nat) (g : Nat → Nat) (T : Nat → List Int) : Prop := ∃ R, Tab W w G n k g R ∧ ∀ i, k ≤ i → i < n → R i = T i
/-- all rows behind level k are as told, and this one is r -/
def TabL (W w : World) (G n k : Nat) (g : Nat → Nat) (T : Nat → List Int) (r : List Int) : Prop := ∃ R, Tab W w G n k g R ∧ (∀ i, k < i → i < n → R i = T i) ∧ R k = r
section
variable {W w w' : World} {G n k : Nat} {g : Nat → Nat} {T : Nat → List Int} {r : List Int}
theorem TabD.drewN (h : TabD W w G n k g T) (m : Nat) : TabD W (w.drewN m) G n k g T := by obtain ⟨R, h1, h2⟩ := h; exact ⟨R, h1.drewN m, h2⟩
theorem TabD.drew (h : TabD W w G n k g T) : TabD W w.drew G n k g T := by obtain ⟨R, h1, h2⟩ := h; exact ⟨R, h1.drew, h2⟩
theorem TabD.below (h : TabD W w G n k g T) : Below W.heap.size W w := by obtain ⟨R, h1, h2⟩ := h; exact h1.below
theorem TabD.below' (h : TabD W w G n k g T) (hb : Below w.heap.size w w') : TabD W w' G n k g T := by obtain ⟨R, h1, h2⟩ := h; exact ⟨R, h1.below' hb, h2⟩
theorem TabD.top (h : TabD W w G n k g T) {i : Nat} (hk : k ≤ i) (hi : i < n) : w.cell? ⟨G, i, none⟩ = some (.slice (some ⟨g i, 0, none⟩) 61 61) := by obtain ⟨R, h1, h2⟩ := h; exact h1.top hk hi
theorem TabD.topAny (h : TabD W w G n k g T) {i : Nat} (hi : i < n) : ∃ u, w.cell? ⟨G, i, none⟩ = some u := by obtain ⟨R, h1, h2⟩ := h; exact h1.topAny hi
theorem TabD.topF (h : TabD W w G n k g T) (i : Nat) : w.frozen? ⟨G, i, none⟩ = false := by obtain ⟨R, h1, h2⟩ := h; exact h1.topF i
theorem TabD.at (h : TabD W w G n k g T) {i j : Nat} (hk : k ≤ i) (hi : i < n) (hj : j < 61) : w.cell? ⟨g i, j, none⟩ = some (.int .i64 ((T i).getD j 0)) := by obtain ⟨R, h1, h2⟩ := h; rw [← h2 i hk hi]; exact h1.at hk hi hj
theorem TabD.rv (h : TabD W w G n k g T) {i : Nat} (hk : k ≤ i) (hi : i < n) : RV w (some ⟨g i, 0, none⟩) 61 61 (ints (T i)) := by obtain ⟨R, h1, h2⟩ := h; rw [← h2 i hk hi]; exact h1.rv hk hi
theorem TabD.lt (h : TabD W w G n k g T) : G < w.heap.size ∧ ∀ i, k ≤ i → i < n → g i < w.heap.size := by obtain ⟨R, h1, h2⟩ := h; exact ⟨h1.blk.lt, fun i a b => (h1.row i a b).2.2.1.lt⟩
theorem TabD.grown (h : TabD W w G n k g T) {row : Option Nat} (hg : w.grownBy w' row) (hr : ∀ b, row = some b → W.heap.size ≤ b ∧ b ≠ G ∧ ∀ i, k ≤ i → i < n → b ≠ g i) : TabD W w' G n k g T := by obtain ⟨R, h1, h2⟩ := h; exact ⟨R, h1.grown hg hr, h2⟩
theorem TabD.new (h : TabD W w G n (k + 1) g T) (hk : k < n) {b : Nat} {r : List Int} (hbw : Below w.heap.size w w') (hb : w.heap.size ≤ b) (hr : Blk w' b (ints r) 2) (hl : r.length = 61) :
    TabL W (w'.setCell ⟨G, k, none⟩ (.slice (some ⟨b, 0, none⟩) 61 61)) G n k (updF g k b) T r := by
  obtain ⟨R, h1, h2⟩ := h
  exact ⟨_, h1.new hk hbw hb hr hl, fun i a b => by rw [updF_ne _ _ (by omega)]; exact h2 i (by omega) b, updF_same _ _ _⟩
theorem TabL.done (h : TabL W w G n k g T r) (hr : r = T k) : TabD W w G n k g T := by
  obtain ⟨R, h1, h2, h3⟩ := h
  refine ⟨R, h1, fun i a b => ?_⟩
  by_cases e : i = k
  · subst e; rw [h3, hr]
  · exact h2 i (by omega) b
theorem TabL.as (h : TabL W w G n k g T r) {r' : List Int} (hr : r = r') : TabL W w G n k g T r' := hr ▸ h
theorem TabL.drewN (h : TabL W w G n k g T r) (m : Nat) : TabL W (w.drewN m) G n k g T r := by obtain ⟨R, h1, h2⟩ := h; exact ⟨R, h1.drewN m, h2⟩
theorem TabL.drew (h : TabL W w G n k g T r) : TabL W w.drew G n k g T r := by obtain ⟨R, h1, h2⟩ := h; exact ⟨R, h1.drew, h2⟩
theorem TabL.below (h : TabL W w G n k g T r) : Below W.heap.size W w := by obtain ⟨R, h1, h2⟩ := h; exact h1.below
theorem TabL.top (h : TabL W w G n k g T r) {i : Nat} (hk : k ≤ i) (hi : i < n) : w.cell? ⟨G, i, none⟩ = some (.slice (some ⟨g i, 0, none⟩) 61 61) := by obtain ⟨R, h1, h2⟩ := h; exact h1.top hk hi
theorem TabL.cur (h : TabL W w G n k g T r) {j : Nat} (hk : k < n) (hj : j < 61) : w.cell? ⟨g k, j, none⟩ = some (.int .i64 (r.getD j 0)) := by obtain ⟨R, h1, h2, h3⟩ := h; rw [← h3]; exact h1.at (Nat.le_refl _) hk hj
theorem TabL.curF (h : TabL W w G n k g T r) (hk : k < n) (j : Nat) : w.frozen? ⟨g k, j, none⟩ = false := by obtain ⟨R, h1, h2, h3⟩ := h; exact h1.atF (Nat.le_refl _) hk j
theorem TabL.nxt (h : TabL W w G n k g T r) {i j : Nat} (hk : k < i) (hi : i < n) (hj : j < 61) : w.cell? ⟨g i, j, none⟩ = some (.int .i64 ((T i).getD j 0)) := by obtain ⟨R, h1, h2, h3⟩ := h; rw [← h2 i hk hi]; exact h1.at (by omega) hi hj
theorem TabL.put (h : TabL W w G n k g T r) (hk : k < n) (j : Nat) (x : Int) : TabL W (w.setCell ⟨g k, j, none⟩ (.int .i64 x)) G n k g T (r.set j x) := by
  obtain ⟨R, h1, h2, h3⟩ := h
  subst h3
  exact ⟨_, h1.put (Nat.le_refl _) hk j x, fun i a b => by rw [updF_ne _ _ (by omega)]; exact h2 i a b, updF_same _ _ _⟩
end

/-! ### rows in the making -/
/-- the numbers below c are done, all others are as at the start -/
def partR (v low high : Int) (nxt : Option (List Int)) (f : Int → Int) (z : Int) (c : Nat) : List Int := (List.range 61).map fun m => if m < c then f (costV v low high nxt m) else z
theorem partR_len (v low high : Int) (nxt : Option (List Int)) (f : Int → Int) (z : Int) (c : Nat) : (partR v low high nxt f z c).length = 61 := by simp [partR]
theorem partR_get {v low high : Int} {nxt : Option (List Int)} {f : Int → Int} {z : Int} {c : Nat} (h : c < 61) : (partR v low high nxt f z c).getD c 0 = z := by simp [partR, h]
theorem partR_zero (v low high : Int) (nxt : Option (List Int)) (f : Int → Int) (z : Int) : partR v low high nxt f z 0 = List.replicate 61 z := by
  unfold partR
  rw [List.eq_replicate_iff]
  refine ⟨by rw [List.length_map, List.length_range], fun b hb => ?_⟩
  obtain ⟨m, _, rfl⟩ := List.mem_map.1 hb
  rw [if_neg (by omega)]
theorem partR_step {v low high : Int} {nxt : Option (List Int)} {f : Int → Int} {z : Int} {c : Nat} (h : c < 61) : (partR v low high nxt f z c).set c (f (costV v low high nxt c)) = partR v low high nxt f z (c + 1) := by
  apply List.ext_getElem?
  intro i
  simp only [partR, List.getElem?_set, List.length_map, List.length_range, List.getElem?_map]
  by_cases h1 : c = i
  · subst h1; simp [h]
  · by_cases hi : i < 61
    · simp only [if_neg h1, List.getElem?_range hi, Option.map_some]
      by_cases h2 : i < c
      · rw [if_pos h2, if_pos (by omega)]
      · rw [if_neg h2, if_neg (by omega)]
    · simp [h1, hi]
/-- numbers that are not good need no work -/
theorem partR_skip {v low high : Int} {nxt : Option (List Int)} {f : Int → Int} {z : Int} {c d : Nat} (hz : f bigC = z) (hcd : c ≤ d) (h : ∀ m, c ≤ m → m < d → goodN v low high m = false) : partR v low high nxt f z c = partR v low high nxt f z d := by
  unfold partR
  apply List.map_congr_left
  intro m hm
  by_cases h1 : m < c
  · rw [if_pos h1, if_pos (by omega)]
  · rw [if_neg h1]
    split
    · unfold costV
      rw [h m (by omega) (by assumption)]
      simp [hz]
    · rfl
theorem partR_all {v low high : Int} {nxt : Option (List Int)} {f : Int → Int} {z : Int} : partR v low high nxt f z 61 = (rowL v low high nxt).map f := by
  unfold partR rowL
  rw [List.map_map]
  apply List.map_congr_left
  intro m hm
  rw [if_pos (List.mem_range.1 hm)]
  rfl
theorem set_set (l : List Int) (c : Nat) (x y : Int) : (l.set c x).set c y = l.set c y := by simp
theorem set_self {l : List Int} {c : Nat} {x : Int} (h : l.getD c 0 = x) (hc : c < l.length) : l.set c x = l := by
  subst h
  simp [hc]

/-! ### slices.Min -/
theorem slMin_any (a : Option Addr) (n c : Nat) (xs : List Int) (w : World) (hn : 1 ≤ n) (ha : RV w a n c (ints xs)) :
    Calls Try.prog 30 #[.slice a n c] w fun e w' => e = .returned (.int .i64 (minTo xs (n - 1))) ∧ w = w' := by
  have hm := ha.small
  obtain ⟨b, o, rfl, hb, hc⟩ := ha.cell (by omega)
  have e0 : w.cell? ⟨b, o, none⟩ = some (.int .i64 (xs.getD 0 0)) := hc 0 (by omega)
  have Hc := Lib.hid hc
  clear hc ha
  have hn' : decide ((n : Int) < 1) = false := by simp; omega
  go_enter Try.func30, Try.ntmps30
  go_wp2
  go_loop [3, 4] (fun q i => ∃ k j : Nat, Hid (k = j + 1) ∧ k ≤ n ∧ i = .int .i64 k ∧ q = .int .i64 (minTo xs j)) (fun _ i => n - (intOf i).toNat)
  case atStart => exact ⟨1, 0, rfl, by omega, rfl, rfl⟩
  case round =>
    obtain ⟨k, j, Hkj, hk, rfl, rfl⟩ := hrel
    by_cases hlt : k < n
    · have e1 := Hc.out k hlt
      have Hs := Lib.hid (show minTo xs (j + 1) = min (minTo xs j) (xs.getD (j + 1) 0) from rfl)
      go_wp2
      go_round
      case rel => exact ⟨k + 1, j + 1, by have := Hkj.out; exact Lib.hid (by omega), by omega, by go_num, by rw [Hs.out, ← Hkj.out, List.getD_eq_getElem?_getD]⟩
      case measure => simp [intOf]; omega
    · go_wp2
      go_ret
      exact ⟨ret_int (by rw [show n - 1 = j by have := Hkj.out; omega]), rfl⟩

/-! ### slices.Repeat of one element, 61 times -/
theorem mul64_1 (w : World) : Calls Try.prog 56 #[.int .u64 1, .int .u64 61] w fun e w' => e = .returned (.tuple #[.int .u64 0, .int .u64 61]) ∧ w = w' := by
  have b1 : bits .and .u64 1 4294967295 = 1 := by decide +kernel
  have b2 : bits .and .u64 61 4294967295 = 61 := by decide +kernel
  have b3 : bits .and .u64 0 4294967295 = 0 := by decide +kernel
  go_enter Try.func56, Try.ntmps56
  go_wp2
  go_ret2
  exact ⟨rfl, rfl⟩
theorem mul_1 (w : World) : Calls Try.prog 48 #[.int .u64 1, .int .u64 61] w fun e w' => e = .returned (.tuple #[.int .u64 0, .int .u64 61]) ∧ w = w' := by
  go_enter Try.func48, Try.ntmps48
  go_wp2_with (go_at_call 56; refine (mul64_1 _).mono ?_; rintro e w' ⟨rfl, rfl⟩)
  go_ret2
  exact ⟨rfl, rfl⟩

/-- the first k are x, the rest zeros -/
def repd (x : Int) (k : Nat) : List Value := ints (List.replicate k x) ++ ints (List.replicate (61 - k) 0)
theorem repd_len {x : Int} {k : Nat} (h : k ≤ 61) : (repd x k).length = 61 := by simp [repd]; omega
theorem repd_splice {x : Int} {k m : Nat} (h : k + m ≤ 61) : splice (repd x k) k (ints (List.replicate m x)) = repd x (k + m) := by
  apply List.ext_getElem?
  intro i
  simp only [splice, repd, ints, List.map_replicate, List.length_replicate]
  have e1 : (List.replicate k (Value.int .i64 x) ++ List.replicate (61 - k) (Value.int .i64 0)).take k = List.replicate k (.int .i64 x) := by
    rw [List.take_left' (by simp)]
  have e2 : (List.replicate k (Value.int .i64 x) ++ List.replicate (61 - k) (Value.int .i64 0)).drop (k + m) = List.replicate (61 - (k + m)) (Value.int .i64 0) := by
    rw [← List.drop_drop, List.drop_left' (by simp), List.drop_replicate]
    congr 1; omega
  rw [e1, e2, ← List.append_assoc, List.replicate_append_replicate]
theorem repd_zero (x : Int) : (repd x 0).toArray = madeCells #[Value.int .i64 0] 61 := by
  generalize hN : 61 = N
  have e : repd x 0 = List.replicate N (Value.int .i64 0) := by
    subst hN
    simp only [repd, ints, List.map_replicate, List.replicate_zero, List.map_nil, List.nil_append, Nat.sub_zero]
  rw [e]
  apply Array.ext_getElem?
  intro i
  by_cases hi : i < N
  · simp [madeCells, hi, Nat.mod_one]
  · simp [madeCells, hi]
theorem repd_all (x : Int) : repd x 61 = ints (List.replicate 61 x) := by
  simp only [repd, Nat.sub_self, List.replicate_zero, ints, List.map_nil, List.append_nil]
theorem repd_at {x : Int} {k j : Nat} (h : j < k) (hk : k ≤ 61) : (repd x k)[j]? = some (.int .i64 x) := by
  simp only [repd, ints, List.map_replicate]
  rw [List.getElem?_append_left (by simpa using h)]
  simp [h]
theorem copy1_pos {w : World} {b : Nat} {x : Int} {r0 : List Value} (hb : b < w.heap.size) (hx : w.cell? ⟨b, 0, none⟩ = some (.int .i64 x)) : 0 < [Value.int .i64 x].length → some (⟨w.heap.size, 0, none⟩ : Addr) = some ⟨w.heap.size, 0, none⟩ ∧ ∃ ad, some (⟨b, 0, none⟩ : Addr) = some ad ∧ ∀ j v, [Value.int .i64 x][j]? = some v → (w.alloc (.cells r0.toArray 2)).cell? (ad.add j) = some v := by
  refine fun _ => ⟨rfl, _, rfl, fun j v hv => ?_⟩
  have hj : j < 1 := by have := (List.getElem?_eq_some_iff.1 hv).1; simpa using this
  obtain rfl : j = 0 := by omega
  have hv : v = .int .i64 x := by simpa using hv.symm
  subst hv
  exact (((Below.refl w.heap.size w).alloc (Nat.le_refl _) (.cells r0.toArray 2)).cell (p := ⟨b, 0, none⟩) hb).trans hx
theorem copy1_fit {x : Int} {r0 : List Value} (h : r0.length = 61) : 0 + [Value.int .i64 x].length ≤ r0.length := by rw [h]; simp
theorem copy1_one {x : Int} : ∀ v ∈ [Value.int .i64 x], v.oneCell' = true := by intro v hv; simp at hv; subst hv; rfl
theorem copyk_pos {w : World} {g k m : Nat} {x : Int} (hr : Blk w g (repd x k) 2) (hm : m ≤ k) (hk : k ≤ 61) : 0 < (ints (List.replicate m x)).length → some (⟨g, k, none⟩ : Addr) = some ⟨g, k, none⟩ ∧ ∃ ad, some (⟨g, 0, none⟩ : Addr) = some ad ∧ ∀ j v, (ints (List.replicate m x))[j]? = some v → w.cell? (ad.add j) = some v := by
  refine fun _ => ⟨rfl, _, rfl, fun j v hv => ?_⟩
  have hj : j < m := by have := (List.getElem?_eq_some_iff.1 hv).1; simpa using this
  have hv : v = .int .i64 x := by simpa [hj] using hv.symm
  subst hv
  have := hr.cell j (.int .i64 x) (repd_at (by omega) hk)
  by_cases h0 : j = 0
  · subst h0; simpa [Addr.add] using this
  · simpa [Addr.add, h0] using this
theorem copyk_fit {x : Int} {k m : Nat} (hk : k ≤ 61) (hm : k + m ≤ 61) : k + (ints (List.replicate m x)).length ≤ (repd x k).length := by rw [repd_len hk]; simpa using hm
theorem copyk_one {x : Int} {m : Nat} : ∀ v ∈ ints (List.replicate m x), v.oneCell' = true := by intro v hv; simp at hv; obtain ⟨_, rfl⟩ := hv; rfl
theorem copyk_len {x : Int} {k m : Nat} (h : m = min k (61 - k)) : (ints (List.replicate m x)).length = Nat.min k (61 - k) := by subst h; simp
set_option maxHeartbeats 1000000 in
theorem slRepeat_any (b : Nat) (x : Int) (w : World) (hb : b < w.heap.size) (hx : w.cell? ⟨b, 0, none⟩ = some (.int .i64 x)) :
    Calls Try.prog 27 #[.slice (some ⟨b, 0, none⟩) 1 1, .int .i64 61] w fun e w' => e = .returned (.slice (some ⟨w.heap.size, 0, none⟩) 61 61) ∧ Blk w' w.heap.size (ints (List.replicate 61 x)) 2 ∧ Below w.heap.size w w' := by
  have hmk : ∀ W, (Instr.makeSlice 24 (.int .i64 61) (.int .i64 61)).run Try.prog W = .ok (.slice (some ⟨W.heap.size, 0, none⟩) 61 61) (W.alloc (.cells (repd x 0).toArray 2)) := fun W => by
    rw [repd_zero]
    exact run_make_row' (P := Try.prog) 24 2 (.int .i64 0) 8 Try.underlying24 info_i64 rfl .i64 .i64 61 (by omega) (by omega) W
  have Hrl := Lib.hid (repd_len (x := x) (k := 0) (by omega))
  generalize hr0 : repd x 0 = r0 at hmk Hrl
  have Hr0 := Lib.hid hr0
  clear hr0
  have hsz : (Try.prog.info? 2).map (·.size) = some 1 := by kernel_rfl
  go_enter Try.func27, Try.ntmps27
  go_wp2_with (first
    | (go_at_call 48; refine (mul_1 _).mono ?_; rintro e w' ⟨rfl, rfl⟩)
    | (go_loud (refine wpList_copy_splice rfl _ _ 24 24 rfl 2 Try.underlying24 hsz _ _ _ _ _ _ rfl rfl w.heap.size 0 r0 2 (heap_alloc_new w _) [Value.int .i64 x] rfl (copy1_pos hb hx) (copy1_fit Hrl.out) copy1_one w.heap.size w ((Below.refl _ _).alloc (Nat.le_refl _) _) (Nat.le_refl _) ?_)))
  intro w1 H1 B1
  have H1 : Blk w1 w.heap.size (repd x 1) 2 := by
    have := H1.out
    rw [← Hr0.out] at this
    have e := repd_splice (x := x) (k := 0) (m := 1) (by omega)
    rw [show ints (List.replicate 1 x) = [Value.int .i64 x] from rfl] at e
    rw [e] at this
    exact this
  have H1 := Lib.hid H1
  have B1 := Lib.hid B1
  clear hmk hx
  go_wp2
  go_loopw [8] (fun i wr => ∃ k : Nat, 1 ≤ k ∧ k ≤ 61 ∧ i = .int .i64 k ∧ Hid (Blk wr w.heap.size (repd x k) 2) ∧ Hid (Below w.heap.size w wr)) (fun i _ => 61 - (intOf i).toNat)
  case atStart => exact ⟨1, Nat.le_refl _, by omega, rfl, H1, B1⟩
  case round =>
    obtain ⟨k, hk1, hk, rfl, Hr, Hb⟩ := hrel
    by_cases hlt : k < 61
    · obtain ⟨m, hm⟩ : ∃ m, m = min k (61 - k) := ⟨_, rfl⟩
      have hm1 : 1 ≤ m := by omega
      have hw : IntKind.i64.wrap ((k : Int) + m) = (k + m : Nat) := by rw [IntWalk.i64_in _ (by omega)]; omega
      have Hm := Lib.hid hm
      clear hm
      go_wp2
      have hs1 : (k : Int) ≤ 61 := by omega
      have hs2 : (0 : Int) ≤ k := by omega
      have hs3 : ¬ 61 = k := by omega
      have Hbd := Lib.hid Hb.out.drew
      have Hrd : Hid (Blk wr.drew w.heap.size (repd x k) 2) := Hr
      refine wp_region_head (fun _ => True) 8 (by kernel_rfl) (by decide) ?_
      generalize wr.drew = wd at Hbd Hrd ⊢
      refine wpHead_take (i := 0) (v := ?_) rfl (by kernel_rfl) (fun _ _ _ h => h) (Or.inl ⟨by rfl, ?_⟩) trivial ?_
      rotate_left
      · intro w hSw; (try dsimp only at hSw); go_simp; (try with_reducible rfl)
      (try simp only [Act.put, List.setIfInBounds_toArray, List.set_cons_zero, List.set_cons_succ])
      refine wpHead_take (i := 1) (v := ?_) rfl (by kernel_rfl) (fun _ _ _ h => h) (Or.inl ⟨by rfl, ?_⟩) trivial ?_
      rotate_left
      · intro w hSw; (try dsimp only at hSw); go_simp; (try with_reducible rfl)
      (try simp only [Act.put, List.setIfInBounds_toArray, List.set_cons_zero, List.set_cons_succ])
      refine wpHead_take (i := 2) (v := ?_) rfl (by kernel_rfl) (fun _ _ _ h => h) (Or.inl ⟨by rfl, ?_⟩) trivial ?_
      rotate_left
      · intro w hSw; (try dsimp only at hSw); go_simp; (try with_reducible rfl)
      (try simp only [Act.put, List.setIfInBounds_toArray, List.set_cons_zero, List.set_cons_succ])
      refine wpHead_take (i := 3) (v := ?_) rfl (by kernel_rfl) (fun _ _ _ h => h) (Or.inl ⟨by rfl, ?_⟩) trivial ?_
      rotate_left
      · intro w hSw; (try dsimp only at hSw); go_simp; (try with_reducible rfl)
      (try simp only [Act.put, List.setIfInBounds_toArray, List.set_cons_zero, List.set_cons_succ])
      refine wpHead_take (i := 4) (v := ?_) rfl (by kernel_rfl) (fun _ _ _ h => h) (Or.inl ⟨by rfl, ?_⟩) trivial ?_
      rotate_left
      · intro w hSw; (try dsimp only at hSw); go_simp; (try with_reducible rfl)
      (try simp only [Act.put, List.setIfInBounds_toArray, List.set_cons_zero, List.set_cons_succ])
      refine wpHead_take (i := 5) (v := ?_) rfl (by kernel_rfl) (fun _ _ _ h => h) (Or.inl ⟨by rfl, ?_⟩) trivial ?_
      rotate_left
      · intro w hSw; (try dsimp only at hSw); go_simp; (try with_reducible rfl)
      (try simp only [Act.put, List.setIfInBounds_toArray, List.set_cons_zero, List.set_cons_succ])
      refine wpHead_take (i := 6) (v := ?_) rfl (by kernel_rfl) (fun _ _ _ h => h) (Or.inl ⟨by rfl, ?_⟩) trivial ?_
      rotate_left
      · intro w hSw; (try dsimp only at hSw); go_simp; (try with_reducible rfl)
      (try simp only [Act.put, List.setIfInBounds_toArray, List.set_cons_zero, List.set_cons_succ])
      refine wpHead_one (i := 7) (by kernel_rfl) (by decide) rfl (fun K hK => ?_)
      refine step_copy_splice rfl _ _ 24 24 rfl 2 Try.underlying24 hsz _ _ _ _ _ _ rfl rfl w.heap.size k (repd x k) 2 Hrd.out (ints (List.replicate m x)) (copyk_len Hm.out) (copyk_pos Hrd.out (by have := Hm.out; omega) hk) (copyk_fit hk (by have := Hm.out; omega)) copyk_one w.heap.size w Hbd.out (Nat.le_refl _) ?_
      intro w1 H1 B1
      rw [show goInt (ints (List.replicate m x)).length = .int .i64 m by simp [goInt]]
      have H1 := Lib.hid (show Blk w1 w.heap.size (repd x (k + m)) 2 from (by have := H1.out; rw [repd_splice (by have := Hm.out; omega)] at this; exact this))
      have HB1 := Lib.hid B1
      clear B1
      refine hK.out _ _ trivial ?_
      clear hK K
      (try simp only [Act.put, List.setIfInBounds_toArray, List.set_cons_zero, List.set_cons_succ])
      refine wpHead_done (by kernel_rfl) ?_
      simp only [List.drop_succ_cons, List.drop_zero]
      go_wp2
      go_roundw
      case rel => exact ⟨k + m, by omega, by have := Hm.out; omega, by first | rfl | go_num, H1, HB1⟩
      case measure => simp [intOf]; omega
    · have hk61 : k = 61 := by omega
      subst hk61
      go_wp2
      go_ret
      have := Hr.out
      rw [repd_all] at this
      exact ⟨rfl, this, Hb.out⟩
theorem slRepeat_new (b : Nat) (x : Int) (w : World) (hb : b < w.heap.size) (hx : w.cell? ⟨b, 0, none⟩ = some (.int .i64 x)) :
    Calls Try.prog 27 #[.slice (some ⟨b, 0, none⟩) 1 1, .int .i64 61] w fun e w' => ∃ g, w.heap.size ≤ g ∧ e = .returned (.slice (some ⟨g, 0, none⟩) 61 61) ∧ Blk w' g (ints (List.replicate 61 x)) 2 ∧ Below w.heap.size w w' :=
  (slRepeat_any b x w hb hx).mono fun e w' ⟨h1, h2, h3⟩ => ⟨_, Nat.le_refl _, h1, h2, h3⟩

/-! ### the plan, plainly -/
theorem minTo_le (l : List Int) : ∀ k j, j ≤ k → minTo l k ≤ l.getD j 0 := by
  intro k
  induction k with
  | zero => intro j h; obtain rfl : j = 0 := by omega
            exact Int.le_refl _
  | succ k ih =>
    intro j h
    simp only [minTo]
    by_cases e : j = k + 1
    · subst e; omega
    · have := ih j (by omega); omega
theorem minTo_some (l : List Int) : ∀ k, ∃ j, j ≤ k ∧ minTo l k = l.getD j 0 := by
  intro k
  induction k with
  | zero => exact ⟨0, Nat.le_refl _, rfl⟩
  | succ k ih =>
    obtain ⟨j, hj, h⟩ := ih
    simp only [minTo]
    by_cases h2 : minTo l k ≤ l.getD (k + 1) 0
    · exact ⟨j, by omega, by omega⟩
    · exact ⟨k + 1, Nat.le_refl _, by omega⟩
theorem indexF_first {x : Int} : ∀ (l : List Int) (i : Nat), x ∈ l → ∃ j, j < l.length ∧ indexF l x i = (i + j : Nat) ∧ l.getD j 0 = x ∧ ∀ q, q < j → l.getD q 0 ≠ x := by
  intro l
  induction l with
  | nil => intro i h; cases h
  | cons y l ih =>
    intro i h
    by_cases e : x = y
    · subst e
      exact ⟨0, by simp, by simp [indexF], by simp, fun q hq => by omega⟩
    · have hm : x ∈ l := by simpa [e] using h
      obtain ⟨j, h1, h2, h3, h4⟩ := ih (i + 1) hm
      refine ⟨j + 1, by simp; omega, ?_, by simpa using h3, fun q hq => ?_⟩
      · simp only [indexF, if_neg e, h2]; congr 1; omega
      · cases q with
        | zero => simpa using Ne.symm e
        | succ q => simpa using h4 q (by omega)
/-- the first least number of a row of 61 -/
theorem first_min {r : List Int} (h : r.length = 61) : ∃ j, j < 61 ∧ indexF r (minTo r 60) 0 = (j : Nat) ∧ r.getD j 0 = minTo r 60 ∧ ∀ q, q < j → r.getD q 0 ≠ minTo r 60 := by
  obtain ⟨j, hj, hm⟩ := minTo_some r 60
  have hmem : minTo r 60 ∈ r := by
    rw [hm]
    have : j < r.length := by omega
    simp [this]
  obtain ⟨i, h1, h2, h3, h4⟩ := indexF_first r 0 hmem
  exact ⟨i, by omega, by rw [h2]; simp, h3, h4⟩
def planN0 (l : List Int) (low high : Int) : Nat := (indexF (rowD l low high (l.length - 1)) (minTo (rowD l low high (l.length - 1)) 60) 0).toNat
def planR (l : List Int) (low high : Int) : List Int × Int :=
  if shCode l low high = 0 then
    if bigC ≤ minTo (rowD l low high (l.length - 1)) 60 then ([], 3)
    else ((planTo l low high (planN0 l low high) (l.length - 1)).map (fun k : Nat => (k : Int)), 0)
  else ([], shCode l low high)
theorem planN0_ok (l : List Int) (low high : Int) : planN0 l low high < 61 ∧ indexF (rowD l low high (l.length - 1)) (minTo (rowD l low high (l.length - 1)) 60) 0 = (planN0 l low high : Nat) ∧ (rowD l low high (l.length - 1)).getD (planN0 l low high) 0 = minTo (rowD l low high (l.length - 1)) 60 ∧ ∀ q, q < planN0 l low high → (rowD l low high (l.length - 1)).getD q 0 ≠ minTo (rowD l low high (l.length - 1)) 60 := by
  obtain ⟨j, h1, h2, h3, h4⟩ := first_min (rowD_len l low high (l.length - 1))
  have e : planN0 l low high = j := by unfold planN0; rw [h2]; simp
  rw [e]
  exact ⟨h1, h2, h3, h4⟩
theorem planR_len (l : List Int) (low high : Int) : (planR l low high).1.length ≤ 1000000 := by
  unfold planR
  by_cases hc : shCode l low high = 0
  · rw [if_pos hc]
    have h2 := (vShape_iff.1 (shCode_ok hc).1).2
    split
    · simp
    · simp [planTo_len]; omega
  · rw [if_neg hc]; simp
/-- all numbers of a plan in the making -/
theorem planTo_at {l : List Int} {low high : Int} (hl : 1 ≤ l.length) (hb : minTo (rowD l low high (l.length - 1)) 60 < bigC) {i : Nat} (hi : i < l.length) : PlanTo l low high (planTo l low high (planN0 l low high) i) i := by
  obtain ⟨h1, _, h3, _⟩ := planN0_ok l low high
  exact planTo_ok hl h1 (by rw [h3]; exact hb) i hi
theorem partR_end {v low high : Int} {nxt : Option (List Int)} {f : Int → Int} {z : Int} {c : Nat} (hz : f bigC = z) (h : ∀ m, c ≤ m → m < 61 → goodN v low high m = false) : partR v low high nxt f z c = (rowL v low high nxt).map f := by
  unfold partR rowL
  rw [List.map_map]
  apply List.map_congr_left
  intro m hm
  have hm := List.mem_range.1 hm
  show _ = f (costV v low high nxt m)
  split
  · rfl
  · unfold costV
    rw [h m (by omega) hm]
    simp [hz]
end Go.Proofs.Ytkglcfeopicakaa
