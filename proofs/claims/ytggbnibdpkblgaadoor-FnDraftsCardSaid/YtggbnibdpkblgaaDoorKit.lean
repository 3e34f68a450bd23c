/-
  Small general lemmas for the walks of this seat: slices that read as lists, slices that a call owns, appends of one element, sums of draws. No program in sight.
-/
import Derived.WalkKit
import Derived.WalkLawsBesides
import Derived.WalkSpells
import Derived.Handy
import Derived.Lib.Hide
import Derived.Deep.QuietTactic
import Derived.BigQuiet
import Derived.Deep.LoopGhost
import Derived.Deep.OwnRows
import Derived.Deep.RegionWith
import Derived.Deep.DeepCutAuto
namespace Go.Proofs.YtggbnibdpkblgaaDoor
open Go.RowKit
set_option linter.unusedVariables false

/-! ### Endings -/
theorem ret_bool {a b : Bool} (h : a = b) : Ending.returned (.bool a) = .returned (.bool b) := by rw [h]
theorem ret_int {k : IntKind} {a b : Int} (h : a = b) : Ending.returned (.int k a) = .returned (.int k b) := by rw [h]
theorem ret_int2 {k l : IntKind} {a b c d : Int} (h : a = b) (h' : c = d) : Ending.returned (.tuple #[.int k a, .int l c]) = .returned (.tuple #[.int k b, .int l d]) := by rw [h, h']
theorem results_tmp4 {fn : Func} {t u v x : Tmp} (h : fn.results = #[.tmp t, .tmp u, .tmp v, .tmp x]) (tmps : Array Value) (P : Program) (w : World) :
    (results fn tmps).run P w = .ok (.tuple #[tmps.getD t undef, tmps.getD u undef, tmps.getD v undef, tmps.getD x undef]) w := by simp [results, h]

/-! ### Worlds -/
@[simp, go_sem] theorem alloc_drewN (w : World) (n : Nat) (o : Obj) : (w.drewN n).alloc o = (w.alloc o).drewN n := rfl
@[simp, go_sem] theorem setCell_drewN (w : World) (n : Nat) (a : Addr) (v : Value) : (w.drewN n).setCell a v = (w.setCell a v).drewN n := rfl
theorem bcell {W w1 : World} (hb : Below W.heap.size W w1) : (∀ b o, b < W.heap.size → w1.cell? ⟨b, o, none⟩ = W.cell? ⟨b, o, none⟩) ∧ (∀ b o, b < W.heap.size → w1.frozen? ⟨b, o, none⟩ = W.frozen? ⟨b, o, none⟩) :=
  ⟨fun b o h => hb.cell (p := ⟨b, o, none⟩) h, fun b o h => hb.frozen (p := ⟨b, o, none⟩) h⟩
theorem bdrewN {B : Nat} {a w : World} (h : Below B a w) (n : Nat) : Below B a (w.drewN n) := ⟨h.os, h.tape, h.output, h.size, h.block⟩
theorem bdrewN' {B : Nat} {a w : World} (h : Below B a w) (n : Nat) : Below B (a.drewN n) w := ⟨h.os, h.tape, h.output, h.size, h.block⟩
theorem bundrew {B : Nat} {a w : World} (h : Below B a.drew w) : Below B a w := ⟨h.os, h.tape, h.output, h.size, h.block⟩
theorem bundrewN {B : Nat} {a w : World} {n : Nat} (h : Below B (a.drewN n) w) : Below B a w := ⟨h.os, h.tape, h.output, h.size, h.block⟩
/-- two calls, the one behind the other -/
theorem btrans {B : Nat} {a b c : World} (h : Below B a b) (k : Below b.heap.size b c) (hB : B ≤ b.heap.size) : Below B a c := h.trans (k.mono hB)
theorem bstep {B : Nat} {a b c : World} (h : Below B a b) (k : Below b.heap.size b c) (hB : B ≤ a.heap.size) : Below B a c := h.trans (k.mono (Nat.le_trans hB h.size))

theorem box2 {w : World} {u v x y : Value} {e : TypeId} {m : Nat} : ((((w.alloc (.cells #[u, v] e)).drewN m).setCell ⟨w.heap.size, 0, none⟩ x).setCell ⟨w.heap.size, 1, none⟩ y) = (w.alloc (.cells #[x, y] e)).drewN m := by
  show (((w.alloc (.cells #[u, v] e)).setCell ⟨w.heap.size, 0, none⟩ x).setCell ⟨w.heap.size, 1, none⟩ y).drewN m = _
  rw [World.setCell_alloc_at _ _ _ _ _ rfl, World.setCell_alloc_at _ _ _ _ _ rfl]
  rfl

/-! ### Slices that read as lists -/
/-- The slice value '.slice a n c' reads in w as the values vs. -/
def RV (w : World) (a : Option Addr) (n c : Nat) (vs : List Value) : Prop :=
  vs.length = n ∧ n ≤ c ∧ c ≤ maxLen ∧ (n = 0 ∨ ∃ b o, a = some ⟨b, o, none⟩ ∧ b < w.heap.size ∧ ∀ i u, vs[i]? = some u → w.cell? ⟨b, o + i, none⟩ = some u)

abbrev ints (xs : List Int) : List Value := xs.map (.int .i64)

theorem RV.len {w : World} {a : Option Addr} {n c : Nat} {vs : List Value} (h : RV w a n c vs) : vs.length = n := h.1
theorem RV.small {w : World} {a : Option Addr} {n c : Nat} {vs : List Value} (h : RV w a n c vs) : n ≤ 9223372036854775807 := by
  have := h.2.1; have := h.2.2.1; unfold maxLen at this; omega
theorem RV.cellv {w : World} {a : Option Addr} {n c : Nat} {vs : List Value} (h : RV w a n c vs) (hn : n ≠ 0) :
    ∃ b o, a = some ⟨b, o, none⟩ ∧ b < w.heap.size ∧ ∀ i u, vs[i]? = some u → w.cell? ⟨b, o + i, none⟩ = some u := by
  rcases h.2.2.2 with h4 | h4
  · exact (hn h4).elim
  · exact h4
theorem RV.cellk {w : World} {a : Option Addr} {n c : Nat} {k : IntKind} {xs : List Int} (h : RV w a n c (xs.map (.int k))) (hn : n ≠ 0) :
    ∃ b o, a = some ⟨b, o, none⟩ ∧ b < w.heap.size ∧ ∀ i, i < n → w.cell? ⟨b, o + i, none⟩ = some (.int k (xs.getD i 0)) := by
  obtain ⟨b, o, ha, hb, hc⟩ := h.cellv hn
  refine ⟨b, o, ha, hb, fun i hi => hc i _ ?_⟩
  have h1 := h.1
  simp at h1
  simp [List.getElem?_eq_getElem (h1 ▸ hi : i < xs.length)]
theorem RV.cell {w : World} {a : Option Addr} {n c : Nat} {xs : List Int} (h : RV w a n c (ints xs)) (hn : n ≠ 0) :
    ∃ b o, a = some ⟨b, o, none⟩ ∧ b < w.heap.size ∧ ∀ i, i < n → w.cell? ⟨b, o + i, none⟩ = some (.int .i64 (xs.getD i 0)) := h.cellk hn
/-- cell k, the number under a name of its own -/
theorem RV.at {w : World} {a : Option Addr} {n c : Nat} {xs : List Int} (h : RV w a n c (ints xs)) {k : Nat} (hk : k < n) :
    ∃ b o x, a = some ⟨b, o, none⟩ ∧ b < w.heap.size ∧ w.cell? ⟨b, o + k, none⟩ = some (.int .i64 x) ∧ Hid (x = xs.getD k 0) := by
  obtain ⟨b, o, ha, hb, hc⟩ := h.cell (by omega)
  exact ⟨b, o, _, ha, hb, hc k hk, rfl⟩
theorem RV.lenI {w : World} {a : Option Addr} {n c : Nat} {k : IntKind} {xs : List Int} (h : RV w a n c (xs.map (.int k))) : xs.length = n := by simpa using h.1
theorem RV.below {w w' : World} {a : Option Addr} {n c : Nat} {vs : List Value} (h : RV w a n c vs) (hb : Below w.heap.size w w') : RV w' a n c vs := by
  obtain ⟨h1, h2, h3, h4⟩ := h
  refine ⟨h1, h2, h3, ?_⟩
  rcases h4 with h4 | ⟨b, o, ha, hlt, hc⟩
  · exact .inl h4
  · exact .inr ⟨b, o, ha, Nat.lt_of_lt_of_le hlt hb.size, fun i u hu => (hb.cell (p := ⟨b, o + i, none⟩) hlt).trans (hc i u hu)⟩
theorem RV.drewN {w : World} {a : Option Addr} {n c : Nat} {vs : List Value} (h : RV w a n c vs) (m : Nat) : RV (w.drewN m) a n c vs := h
theorem RV.nil (w : World) : RV w none 0 0 [] := ⟨rfl, Nat.le_refl _, Nat.zero_le _, .inl rfl⟩

/-! ### Slices that a call owns -/
/-- The value v is a slice over a row of its own, in a block from lo on and below hi; it reads as vs. -/
def Own (w : World) (lo hi : Nat) (e : TypeId) (v : Value) (vs : List Value) : Prop := w.ownsRow lo e 1 v vs.length vs ∧ ∀ k, v.ownBlock = some k → k < hi

theorem owns_slice {w : World} {base : Nat} {e : TypeId} {size : Nat} {v : Value} {n : Nat} {xs : List Value} (h : w.ownsRow base e size v n xs) : ∃ a c, v = .slice a n c := by
  rcases h.2 with ⟨rfl, rfl⟩ | ⟨g, cap, cur, rfl, _⟩
  · exact ⟨_, _, rfl⟩
  · exact ⟨_, _, rfl⟩
theorem owns_mono {w : World} {base b' : Nat} {e : TypeId} {size : Nat} {v : Value} {n : Nat} {xs : List Value} (h : w.ownsRow base e size v n xs) (hb : b' ≤ base) : w.ownsRow b' e size v n xs := by
  obtain ⟨h1, h2⟩ := h
  refine ⟨h1, ?_⟩
  rcases h2 with h2 | ⟨g, cap, cur, hv, hg, r⟩
  · exact .inl h2
  · exact .inr ⟨g, cap, cur, hv, Nat.le_trans hb hg, r⟩
theorem owns_empty {w : World} {base g : Nat} {e : TypeId} {size : Nat} (hg : g = w.heap.size) (hb : base ≤ g) : (w.alloc (.cells #[] e)).ownsRow base e size (.slice (some ⟨g, 0, none⟩) 0 0) 0 [] := by
  subst hg
  exact ⟨by simp, .inr ⟨w.heap.size, 0, #[], rfl, hb, heap_alloc_new w _, Nat.le_refl _, Nat.zero_le _, by simp, by simp⟩⟩
theorem owns_read {w : World} {base : Nat} {e : TypeId} {a : Option Addr} {n m c : Nat} {xs : List Value} (h : w.ownsRow base e 1 (.slice a n c) m xs) : RV w a n c xs ∧ n = m := by
  have hl := h.1
  rcases h.2 with ⟨h1, h2⟩ | ⟨g, cap, cur, h1, h2, hg, h3, h4, h5, h6⟩
  · simp only [Value.slice.injEq] at h1
    obtain ⟨rfl, rfl, rfl⟩ := h1
    subst h2
    have : xs = [] := List.eq_nil_of_length_eq_zero (by simpa using hl)
    subst this
    exact ⟨RV.nil w, rfl⟩
  · simp only [Value.slice.injEq] at h1
    obtain ⟨rfl, rfl, rfl⟩ := h1
    have hlc : xs.length = n := by simpa using hl
    have hrow := h
    refine ⟨⟨hlc, h3, h4, .inr ⟨g, 0, rfl, (Array.getElem?_eq_some_iff.1 hg).1, fun i u hu => ?_⟩⟩, rfl⟩
    have hi : i < xs.length := (List.getElem?_eq_some_iff.1 hu).1
    have := h.cellAt i (by omega)
    rw [Nat.zero_add, this, hu]
theorem Own.slice {w : World} {lo hi : Nat} {e : TypeId} {v : Value} {vs : List Value} (h : Own w lo hi e v vs) : ∃ a c, v = .slice a vs.length c ∧ RV w a vs.length c vs := by
  obtain ⟨a, c, rfl⟩ := owns_slice h.1
  exact ⟨a, c, rfl, (owns_read h.1).1⟩
theorem Own.sliceI {w : World} {lo hi : Nat} {e : TypeId} {v : Value} {xs : List Int} (h : Own w lo hi e v (ints xs)) : ∃ a c, v = .slice a xs.length c ∧ RV w a xs.length c (ints xs) := by
  obtain ⟨a, c, h1, h2⟩ := h.slice
  simp only [List.length_map] at h1 h2
  exact ⟨a, c, h1, h2⟩
theorem Own.rv {w : World} {lo hi : Nat} {e : TypeId} {a : Option Addr} {n c : Nat} {vs : List Value} (h : Own w lo hi e (.slice a n c) vs) : RV w a n c vs := by
  have h1 := owns_read h.1
  rw [← h1.2] at h1
  exact h1.1
theorem Own.kept {w w' : World} {lo hi : Nat} {e : TypeId} {v : Value} {vs : List Value} (h : Own w lo hi e v vs) {row : Option Nat} (hg : w.grownBy w' row) (hr : ∀ k, row = some k → k < lo ∨ hi ≤ k) : Own w' lo hi e v vs := by
  refine ⟨h.1.kept hg ?_, h.2⟩
  cases hv : v.ownBlock with
  | none => exact .inl rfl
  | some k =>
    refine .inr fun e' => ?_
    have h1 := h.2 k hv
    have h2 := (h.1.lt k hv).1
    have := hr k e'.symm
    omega
theorem grownBy_below {w w' : World} (hb : Below w.heap.size w w') : w.grownBy w' none := ⟨hb.os, hb.tape, hb.output, hb.size, fun k hk _ => hb.block k hk⟩
theorem owns_below {w w' : World} {lo : Nat} {e : TypeId} {size : Nat} {v : Value} {n : Nat} {vs : List Value} (h : w.ownsRow lo e size v n vs) (hb : Below w.heap.size w w') : w'.ownsRow lo e size v n vs := by
  refine h.kept (grownBy_below hb) ?_
  cases hv : v.ownBlock with
  | none => exact .inl rfl
  | some k => exact .inr fun e' => by cases e'
theorem Own.below {w w' : World} {lo hi : Nat} {e : TypeId} {v : Value} {vs : List Value} (h : Own w lo hi e v vs) (hb : Below w.heap.size w w') : Own w' lo hi e v vs :=
  h.kept (grownBy_below hb) (fun _ hk => by cases hk)
theorem gsetK (w : World) (g i : Nat) (v : Value) : w.grownBy (w.setCell ⟨g, i, none⟩ v) (some g) :=
  ⟨rfl, rfl, rfl, by simp [World.setCell], fun k hk hne => Below.heap_setCell w _ v k (fun e => hne (by simpa using e))⟩
theorem Own.set {w : World} {lo hi : Nat} {e : TypeId} {v : Value} {vs : List Value} (h : Own w lo hi e v vs) {b : Nat} (hb : b < lo) (i : Nat) (u : Value) : Own (w.setCell ⟨b, i, none⟩ u) lo hi e v vs :=
  h.kept (gsetK w b i u) fun k hk => by cases hk; exact .inl hb
theorem Own.drewN {w : World} {lo hi : Nat} {e : TypeId} {v : Value} {vs : List Value} (h : Own w lo hi e v vs) (m : Nat) : Own (w.drewN m) lo hi e v vs := h
theorem Own.mono {w : World} {lo lo' hi hi' : Nat} {e : TypeId} {v : Value} {vs : List Value} (h : Own w lo hi e v vs) (h1 : lo' ≤ lo) (h2 : hi ≤ hi') : Own w lo' hi' e v vs :=
  ⟨owns_mono h.1 h1, fun k hk => Nat.lt_of_lt_of_le (h.2 k hk) h2⟩
theorem Own.nil (w : World) (lo hi : Nat) (e : TypeId) : Own w lo hi e (.slice none 0 0) [] := ⟨World.ownsRow_nil w lo e 1, fun k hk => by simp [Value.ownBlock] at hk⟩
theorem Own.of {w : World} {lo : Nat} {e : TypeId} {v : Value} {n : Nat} {vs : List Value} (h : w.ownsRow lo e 1 v n vs) : Own w lo w.heap.size e v vs := by
  have hn : vs.length = n := by simpa using h.1
  subst hn
  exact ⟨h, fun k hk => (h.lt k hk).2⟩
/-- what was written lies in a row of the call's own: all below is as it was -/
theorem below_grown {B : Nat} {a w w' : World} {lo hi : Nat} {e : TypeId} {v : Value} {vs : List Value} (h : Below B a w) (ho : Own w lo hi e v vs) (hg : w.grownBy w' v.ownBlock) (hB : B ≤ lo) (hs : B ≤ w.heap.size) : Below B a w' :=
  h.grown hg hs fun k hk => Nat.le_trans hB (ho.1.lt k hk).1

theorem cell_boxed {w : World} {g : Nat} {u : Value} {e : TypeId} (hg : g = w.heap.size) : (w.alloc (.cells #[u] e)).cell? ⟨g, 0, none⟩ = some u := by subst hg; simp [go_sem]

/-- what lies below lo is as it was behind a mark -/
theorem below_marked {B : Nat} {a w w' : World} {lo hi : Nat} {e : TypeId} {v : Value} {vs : List Value} (h : Below B a w) (ho : Own w lo hi e v vs) (hg : w.grownBy w' v.ownBlock) (hB : B ≤ lo) (hs : B ≤ w.heap.size) : Below B a w' := below_grown h ho hg hB hs
/-- another slice is as it was behind a mark -/
theorem Own.apart {w w' : World} {lo hi lo' hi' : Nat} {e e' : TypeId} {v v' : Value} {vs vs' : List Value} (h : Own w lo hi e v vs) (h' : Own w lo' hi' e' v' vs') (hg : w.grownBy w' v'.ownBlock) (hd : hi ≤ lo' ∨ hi' ≤ lo) : Own w' lo hi e v vs :=
  h.kept hg fun k hk => by
    have h1 := (h'.1.lt k hk).1
    have h2 := h'.2 k hk
    omega

/-! ### A struct in a box -/
/-- block b begins with the values vs -/
def CellsAt (w : World) (b : Nat) (vs : List Value) : Prop := b < w.heap.size ∧ ∀ i u, vs[i]? = some u → w.cell? ⟨b, i, none⟩ = some u
theorem CellsAt.box (w : World) (cs : Array Value) (e : TypeId) : CellsAt (w.alloc (.cells cs e)) w.heap.size cs.toList := by
  refine ⟨by simp, fun i u hu => ?_⟩
  rw [cell_of_row _ w.heap.size i cs e (0, 0) (heap_alloc_new w _)]
  simpa using hu
theorem CellsAt.below {w w' : World} {b : Nat} {vs : List Value} (h : CellsAt w b vs) (hb : Below w.heap.size w w') : CellsAt w' b vs :=
  ⟨Nat.lt_of_lt_of_le h.1 hb.size, fun i u hu => (hb.cell (p := ⟨b, i, none⟩) h.1).trans (h.2 i u hu)⟩
theorem CellsAt.grown {w w' : World} {b : Nat} {vs : List Value} (h : CellsAt w b vs) {row : Option Nat} (hg : w.grownBy w' row) (hr : some b ≠ row) : CellsAt w' b vs := by
  refine ⟨Nat.lt_of_lt_of_le h.1 hg.size, fun i u hu => ?_⟩
  exact hg.cell (a := ⟨b, i, none⟩) (h.2 i u hu) hr
theorem CellsAt.drewN {w : World} {b : Nat} {vs : List Value} (h : CellsAt w b vs) (m : Nat) : CellsAt (w.drewN m) b vs := h

/-! ### A block of the call's own, known whole -/
def Blk (w : World) (b : Nat) (cs : List Value) (e : TypeId) : Prop := w.heap[b]? = some (.cells cs.toArray e (0, 0))
theorem Blk.box (w : World) (cs : List Value) (e : TypeId) {b : Nat} (hb : b = w.heap.size) : Blk (w.alloc (.cells cs.toArray e)) b cs e := by subst hb; exact heap_alloc_new w _
theorem Blk.lt {w : World} {b : Nat} {cs : List Value} {e : TypeId} (h : Blk w b cs e) : b < w.heap.size := (Array.getElem?_eq_some_iff.1 h).1
theorem Blk.cell {w : World} {b : Nat} {cs : List Value} {e : TypeId} (h : Blk w b cs e) (i : Nat) (v : Value) (hv : cs[i]? = some v) : w.cell? ⟨b, i, none⟩ = some v := by
  rw [cell_of_row w b i _ e (0, 0) h]; simpa using hv
theorem Blk.frozen {w : World} {b : Nat} {cs : List Value} {e : TypeId} (h : Blk w b cs e) (i : Nat) : w.frozen? ⟨b, i, none⟩ = false := frozen_of_row w b i _ e h
theorem Blk.set {w : World} {b : Nat} {cs : List Value} {e : TypeId} (h : Blk w b cs e) (i : Nat) (v : Value) : Blk (w.setCell ⟨b, i, none⟩ v) b (cs.set i v) e := by
  have := heap_setCell_same w b i _ e v h
  simpa [Blk] using this
theorem Blk.grown {w w' : World} {b : Nat} {cs : List Value} {e : TypeId} (h : Blk w b cs e) {row : Option Nat} (hg : w.grownBy w' row) (hr : some b ≠ row) : Blk w' b cs e :=
  (hg.block b h.lt hr).trans h
theorem Blk.below {w w' : World} {b : Nat} {cs : List Value} {e : TypeId} (h : Blk w b cs e) (hb : Below w.heap.size w w') : Blk w' b cs e := (hb.block b h.lt).trans h
theorem Blk.alloc {w : World} {b : Nat} {cs : List Value} {e : TypeId} (h : Blk w b cs e) (o : Obj) : Blk (w.alloc o) b cs e := h.below ((Below.refl _ _).alloc (Nat.le_refl _) o)
theorem Blk.drewN {w : World} {b : Nat} {cs : List Value} {e : TypeId} (h : Blk w b cs e) (m : Nat) : Blk (w.drewN m) b cs e := h
theorem Blk.other {w : World} {b : Nat} {cs : List Value} {e : TypeId} (h : Blk w b cs e) {g i : Nat} (hg : b ≠ g) (v : Value) : Blk (w.setCell ⟨g, i, none⟩ v) b cs e := by
  unfold Blk; rw [Below.heap_setCell _ _ _ _ hg]; exact h

/-- a literal list of numbers -/
theorem rv_lit (w : World) (xs : List Int) (e : TypeId) {n : Nat} {cs : Array Value} (hcs : cs = (ints xs).toArray) (hn : n = xs.length) (hm : n ≤ maxLen) : RV (w.alloc (.cells cs e)) (some ⟨w.heap.size, 0, none⟩) n n (ints xs) := by
  subst hcs hn
  refine ⟨by simp, Nat.le_refl _, hm, .inr ⟨w.heap.size, 0, rfl, by simp, fun i u hu => ?_⟩⟩
  rw [cell_of_row _ w.heap.size (0 + i) _ e (0, 0) (heap_alloc_new w _)]
  simpa using hu

/-! ### An append of one element -/
theorem wpList_app1 {P : Program} {W : World} {ops : Array Oper} {rest : List Oper} {o : Oper} {a : Act} {Q : Exit → Act → World → Prop} (hgd : o.guard = none) (s x : Operand) (t : TypeId)
    (ho : o.op = .call { callee := .builtin .append, args := #[s, x], argTypes := #[t, t] })
    (base : Nat) (e : TypeId) (z : Value) (bytes : Nat) (ht : P.underlying t = some (.slice e)) (hinfo : (P.info? e).map (fun i => (i.zero, i.size, i.bytes)) = some (some z, 1, bytes)) (hby : bytes ≤ 64) (hzs : z.cells.size = 1)
    (v : Value) (n : Nat) (xs : List Value) (hs : a.eval s = v) (hown : W.ownsRow base e 1 v n xs)
    (g : Nat) (u : Value) (hx : a.eval x = .slice (some ⟨g, 0, none⟩) 1 1) (hg : W.cell? ⟨g, 0, none⟩ = some u) (h1 : u.oneCell' = true) (hn : n < 2147483648) (hbase : base ≤ W.heap.size)
    (hK : ∀ v' w', w'.ownsRow base e 1 v' (n + 1) (xs ++ [u]) → W.grownBy w' v.ownBlock → wpList P ops Q rest (a.put o.dst v') w') : wpList P ops Q (o :: rest) a W := by
  obtain ⟨i, hi, hz, hsz, hb⟩ := info_parts hinfo
  refine wpList_append_own _ hgd s x t ho base e i z 1 bytes ht hi hz hsz hb hzs (by decide) v n xs hs hown ⟨g, 0, none⟩ 1 1 [u] hx rfl ?_ ?_ ?_ ?_ hbase ?_
  · intro j y hy
    match j, hy with
    | 0, hy => simp at hy; subst hy; simpa [Addr.add] using hg
  · intro y hy
    simp at hy; subst hy; exact h1
  · unfold maxLen; omega
  · have : (n + 1) * bytes ≤ 2147483648 * 64 := Nat.mul_le_mul (by omega) hby
    omega
  · intro v' w' h2 h3 _
    exact hK v' w' h2 h3
theorem below_app {B : Nat} {w W w' : World} {base : Nat} {e : TypeId} {v : Value} {n : Nat} {xs : List Value} (h : Below B w W) (hown : W.ownsRow base e 1 v n xs) (hg : W.grownBy w' v.ownBlock) (hB : B ≤ base) (hb : B ≤ W.heap.size) : Below B w w' :=
  h.grown hg hb fun k hk => Nat.le_trans hB (hown.lt k hk).1

/-- a list result: it is owned, its code beside it -/
def RetL (w : World) (e : TypeId) (R : List Int × Int) (en : Ending) (w' : World) : Prop :=
  ∃ v : Value, en = .returned (.tuple #[v, .int .i64 R.2]) ∧ Own w' w.heap.size w'.heap.size e v (ints R.1) ∧ Below w.heap.size w w'

/-! ### marks: k, k + 1, .. -/
def marks (k : Int) (n : Nat) : List Int := (List.range n).map fun (i : Nat) => k + i
theorem marks_length (k : Int) (n : Nat) : (marks k n).length = n := by simp [marks]
theorem marks_get {k : Int} {n i : Nat} (h : i < n) : (marks k n).getD i 0 = k + i := by simp [marks, h]
/-- the first j elements are marked -/
def marked (k : Int) (vs : List Value) (j : Nat) : List Value := ints (marks k j) ++ vs.drop j
theorem marked_zero (k : Int) (vs : List Value) : marked k vs 0 = vs := by simp [marked, marks]
theorem marked_length (k : Int) (vs : List Value) {j : Nat} (h : j ≤ vs.length) : (marked k vs j).length = vs.length := by simp [marked, marks_length]; omega
theorem marked_all (k : Int) (vs : List Value) {j : Nat} (h : j = vs.length) : marked k vs j = ints (marks k vs.length) := by subst h; simp [marked]
theorem marked_step (k : Int) (vs : List Value) {j : Nat} (h : j < vs.length) : (marked k vs j).set j (.int .i64 (k + j)) = marked k vs (j + 1) := by
  apply List.ext_getElem?
  intro i
  simp only [marked, List.getElem?_set, List.length_append, List.length_map, marks_length, List.length_drop, List.getElem?_append]
  by_cases h1 : j = i
  · subst h1
    simp [marks]; omega
  · by_cases h2 : i < j
    · simp [marks, h1, h2, show i < j + 1 by omega]
    · have h3 : ¬ i < j + 1 := by omega
      simp [h1, h2, h3, show j + (i - j) = i by omega, show j + 1 + (i - (j + 1)) = i by omega]

end Go.Proofs.YtggbnibdpkblgaaDoor
