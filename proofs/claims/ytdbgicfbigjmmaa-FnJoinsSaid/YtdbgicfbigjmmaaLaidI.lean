/-
  The program's search for an order of rods: what its captured variables hold, and what each step does to them. No walk.
-/
import Derived.Test.YtdbgicfbigjmmaaLaidW
namespace Go.Proofs.Ytdbgicfbigjmmaa
open Go.RowKit
set_option linter.unusedVariables false

/-- the blocks of the variables that the search captures -/
structure PS where
  (L S A B O R E U P G Z : Nat)
structure PSok (q : PS) : Prop where
  z : q.Z ≤ q.S
  s : q.S < q.R
  r : q.R < q.B
  b : q.B < q.E
  e : q.E < q.L
  o : q.L < q.O
  a : q.L < q.A
  u : q.L < q.U
  g : q.L < q.G
  op : q.O < q.P
  ap : q.A < q.P
  up : q.U < q.P
  gp : q.G < q.P
  oa : q.O ≠ q.A
  ou : q.O ≠ q.U
  og : q.O ≠ q.G
  au : q.A ≠ q.U
  ag : q.A ≠ q.G
  ug : q.U ≠ q.G
/-- a block that is none of these -/
structure NXg (q : PS) (g : Nat) : Prop where
  z : q.Z ≤ g
  l : g ≠ q.L
  s : g ≠ q.S
  a : g ≠ q.A
  b : g ≠ q.B
  o : g ≠ q.O
  r : g ≠ q.R
  e : g ≠ q.E
  u : g ≠ q.U
  p : g ≠ q.P
  g : g ≠ q.G
def NX (q : PS) (v : Value) : Prop := ∀ g, v.ownBlock = some g → NXg q g
def ptr (b : Nat) : Value := .pointer (some ⟨b, 0, none⟩)
/-- the search itself, as a value -/
def FV (q : PS) : Value := .func (.func 39) #[] #[.pointer (some ⟨q.L, 0, none⟩), .pointer (some ⟨q.S, 0, none⟩), .pointer (some ⟨q.A, 0, none⟩), .pointer (some ⟨q.B, 0, none⟩), .pointer (some ⟨q.O, 0, none⟩), .pointer (some ⟨q.R, 0, none⟩), .pointer (some ⟨q.E, 0, none⟩), .pointer (some ⟨q.U, 0, none⟩), .pointer (some ⟨q.P, 0, none⟩)]
def usedV (n : Nat) (o : List Nat) : List Value := (List.range n).map fun k => Value.bool (decide (k ∈ o))
theorem usedV_get {n k : Nat} {o : List Nat} (h : k < n) : (usedV n o)[k]? = some (.bool (decide (k ∈ o))) := by simp [usedV, h]
theorem usedV_push {n k : Nat} {o : List Nat} (h : k < n) : (usedV n o).set k (.bool true) = usedV n (o ++ [k]) := by
  apply List.ext_getElem?
  intro i
  simp only [usedV, List.getElem?_set, List.length_map, List.length_range, List.getElem?_map]
  by_cases hi : i < n
  · rw [List.getElem?_range hi]
    by_cases e : k = i
    · subst e; simp [h]
    · simp [e, Ne.symm e]
  · rw [if_neg (by omega), List.getElem?_eq_none (by simp; omega)]
    rfl
theorem usedV_pop {n k : Nat} {o : List Nat} (h : k < n) (hk : k ∉ o) : (usedV n (o ++ [k])).set k (.bool false) = usedV n o := by
  apply List.ext_getElem?
  intro i
  simp only [usedV, List.getElem?_set, List.length_map, List.length_range, List.getElem?_map]
  by_cases hi : i < n
  · rw [List.getElem?_range hi]
    by_cases e : k = i
    · subst e; simp [h, hk]
    · simp [e, Ne.symm e]
  · rw [if_neg (by omega), List.getElem?_eq_none (by simp; omega)]
    rfl

/-- what the captured variables hold, the rows of the order and of the laid rods aside -/
structure CB (W0 : World) (q : PS) (st be : Int) (a : Option Addr) (n c : Nat) (o : List Nat) (S : SS) (vo vl bv : Value) (w : World) : Prop where
  below : Below q.Z W0 w
  size : q.Z = W0.heap.size
  s : Blk w q.S [.int .i64 st] 2
  r : Blk w q.R [.slice a n c] 22
  b : Blk w q.B [.int .i64 be] 2
  p : Blk w q.P [FV q] 1
  u : Blk w q.U [.slice (some ⟨q.G, 0, none⟩) n n] 51
  g : Blk w q.G (usedV n o) 4
  l : Blk w q.L [.int .i64 S.2] 2
  e : Blk w q.E [bv] 22
  fo : Blk w q.O [vo] 22
  fa : Blk w q.A [vl] 22
  re : w.ownsRow q.Z 2 1 bv S.1.length (ints (nats S.1))
  ne : NX q bv
  b1 : -1 ≤ S.2 ∧ S.2 ≤ 7
  b2 : S.1.length ≤ 7
structure CI (W0 : World) (q : PS) (st be : Int) (a : Option Addr) (n c : Nat) (xs : List Int) (o : List Nat) (S : SS) (vo vl bv : Value) (w : World) : Prop extends CB W0 q st be a n c o S vo vl bv w where
  ro : w.ownsRow q.Z 2 1 vo o.length (ints (nats o))
  rl : w.ownsRow q.Z 2 1 vl o.length (ints (laidIn xs o))
  no : NX q vo
  nl : NX q vl
  dol : ∀ g, vo.ownBlock = some g → vl.ownBlock ≠ some g
  doe : ∀ g, vo.ownBlock = some g → bv.ownBlock ≠ some g
  dle : ∀ g, vl.ownBlock = some g → bv.ownBlock ≠ some g

section
variable {W0 w w' : World} {q : PS} {st be : Int} {a : Option Addr} {n c : Nat} {xs : List Int} {o : List Nat} {S : SS} {vo vl bv : Value}

theorem CB.grow (h : CB W0 q st be a n c o S vo vl bv w) {row : Option Nat} (hg : w.grownBy w' row) (hr : ∀ g, row = some g → NXg q g ∧ bv.ownBlock ≠ some g) : CB W0 q st be a n c o S vo vl bv w' := by
  have hZ : q.Z ≤ w.heap.size := by have := h.below.size; have := h.size; omega
  have k : ∀ x : Nat, (∀ g, NXg q g → g ≠ x) → some x ≠ row := by
    intro x hx e
    have := (hr x e.symm).1
    exact hx x this rfl
  refine ⟨h.below.grown hg hZ (fun g e => (hr g e).1.z), h.size, h.s.grown hg (k _ fun g h => h.s), h.r.grown hg (k _ fun g h => h.r), h.b.grown hg (k _ fun g h => h.b), h.p.grown hg (k _ fun g h => h.p), h.u.grown hg (k _ fun g h => h.u), h.g.grown hg (k _ fun g h => h.g), h.l.grown hg (k _ fun g h => h.l), h.e.grown hg (k _ fun g h => h.e), h.fo.grown hg (k _ fun g h => h.o), h.fa.grown hg (k _ fun g h => h.a), h.re.kept hg ?_, h.ne, h.b1, h.b2⟩
  cases hb : bv.ownBlock with
  | none => exact .inl rfl
  | some g => exact .inr fun e => (hr g e.symm).2 hb
theorem CB.below' (h : CB W0 q st be a n c o S vo vl bv w) (hb : Below w.heap.size w w') : CB W0 q st be a n c o S vo vl bv w' := h.grow (gbelowW hb none) (fun g e => by cases e)
theorem CB.alloc (h : CB W0 q st be a n c o S vo vl bv w) (x : Obj) : CB W0 q st be a n c o S vo vl bv (w.alloc x) := h.below' ((Below.refl _ _).alloc (Nat.le_refl _) x)
theorem CI.below' (h : CI W0 q st be a n c xs o S vo vl bv w) (hb : Below w.heap.size w w') : CI W0 q st be a n c xs o S vo vl bv w' :=
  ⟨h.toCB.below' hb, owns_below h.ro hb, owns_below h.rl hb, h.no, h.nl, h.dol, h.doe, h.dle⟩
theorem CI.drew (h : CI W0 q st be a n c xs o S vo vl bv w) : CI W0 q st be a n c xs o S vo vl bv w.drew := h.below' ⟨rfl, rfl, rfl, Nat.le_refl _, fun _ _ => rfl⟩

theorem blk_new (h : CB W0 q st be a n c o S vo vl bv w) {g : Nat} (hg : w.heap.size ≤ g) : NXg q g := by
  have := h.below.size; have := h.size
  have h1 := h.s.lt; have h2 := h.r.lt; have h3 := h.b.lt; have h4 := h.p.lt; have h5 := h.u.lt; have h6 := h.g.lt; have h7 := h.l.lt; have h8 := h.e.lt; have h9 := h.fo.lt; have h10 := h.fa.lt
  exact ⟨by omega, by omega, by omega, by omega, by omega, by omega, by omega, by omega, by omega, by omega, by omega⟩

/-- a row is as it was behind a store into one of the variables -/
theorem row_set {v : Value} {m : Nat} {vs : List Value} {base : Nat} (h : w.ownsRow base 2 1 v m vs) {x i : Nat} {u : Value} (hx : ∀ g, v.ownBlock = some g → g ≠ x) : (w.setCell ⟨x, i, none⟩ u).ownsRow base 2 1 v m vs := by
  refine h.kept (gsetK w x i u) ?_
  cases hb : v.ownBlock with
  | none => exact .inl rfl
  | some g => exact .inr fun e => hx g hb (by simpa using e)
theorem below_set {W : World} {B x i : Nat} {u : Value} (h : Below B W w) (hx : B ≤ x) : Below B W (w.setCell ⟨x, i, none⟩ u) := h.setCell hx u

/-- the best order is stored -/
theorem CI.best (hq : PSok q) (h : CI W0 q st be a n c xs o S vo vl bv w) {bv' : Value} {m : Int} {o' : List Nat} (hr : w.ownsRow q.Z 2 1 bv' o'.length (ints (nats o'))) (hn : NX q bv') (hm : -1 ≤ m ∧ m ≤ 7) (hl : o'.length ≤ 7)
    (d1 : ∀ g, vo.ownBlock = some g → bv'.ownBlock ≠ some g) (d2 : ∀ g, vl.ownBlock = some g → bv'.ownBlock ≠ some g) :
    CI W0 q st be a n c xs o (o', m) vo vl bv' ((w.setCell ⟨q.E, 0, none⟩ bv').setCell ⟨q.L, 0, none⟩ (.int .i64 m)) := by
  obtain ⟨⟨i1, i0, i2, i3, i4, i5, i6, i7, i8, i9, i10, i11, i12, i13, i14, i15⟩, j1, j2, j3, j4, j5, j6, j7⟩ := h
  obtain ⟨q1, q2, q3, q4, q5, q6, q7, q8, q9, q10, q11, q12, q13, q14, q15, q16, q17, q18, q19⟩ := hq
  have hE := fun (v : Value) (hv : NX q v) g e => (hv g e).e
  have hL := fun (v : Value) (hv : NX q v) g e => (hv g e).l
  have k1 := i9.set 0 bv'
  have k2 := i8.set 0 (.int .i64 m)
  refine ⟨⟨below_set (below_set i1 (by omega)) (by omega), i0, (i2.other (by omega) _).other (by omega) _, (i3.other (by omega) _).other (by omega) _, (i4.other (by omega) _).other (by omega) _, (i5.other (by omega) _).other (by omega) _, (i6.other (by omega) _).other (by omega) _, (i7.other (by omega) _).other (by omega) _, (i8.other (by omega) _).set 0 _, (i9.set 0 _).other (by omega) _, (i10.other (by omega) _).other (by omega) _, (i11.other (by omega) _).other (by omega) _, row_set (row_set hr (hE _ hn)) (hL _ hn), hn, hm, hl⟩, row_set (row_set j1 (hE _ j3)) (hL _ j3), row_set (row_set j2 (hE _ j4)) (hL _ j4), j3, j4, j5, d1, d2⟩

/-- one rod more -/
theorem CB.push (hq : PSok q) (h : CB W0 q st be a n c o S vo vl bv w) {k : Nat} (hk : k < n) {vo' vl' : Value} (ro : w.ownsRow q.Z 2 1 vo' (o.length + 1) (ints (nats o) ++ [.int .i64 k])) (rl : w.ownsRow q.Z 2 1 vl' (o.length + 1) (ints (laidIn xs o) ++ [.int .i64 (xs.getD k 0)]))
    (no : NX q vo') (nl : NX q vl') (d1 : ∀ g, vo'.ownBlock = some g → vl'.ownBlock ≠ some g) (d2 : ∀ g, vo'.ownBlock = some g → bv.ownBlock ≠ some g) (d3 : ∀ g, vl'.ownBlock = some g → bv.ownBlock ≠ some g) :
    CI W0 q st be a n c xs (o ++ [k]) S vo' vl' bv (((w.setCell ⟨q.G, k, none⟩ (.bool true)).setCell ⟨q.O, 0, none⟩ vo').setCell ⟨q.A, 0, none⟩ vl') := by
  obtain ⟨i1, i0, i2, i3, i4, i5, i6, i7, i8, i9, i10, i11, i12, i13, i14, i15⟩ := h
  obtain ⟨q1, q2, q3, q4, q5, q6, q7, q8, q9, q10, q11, q12, q13, q14, q15, q16, q17, q18, q19⟩ := hq
  have hG := fun (v : Value) (hv : NX q v) g e => (hv g e).g
  have hO := fun (v : Value) (hv : NX q v) g e => (hv g e).o
  have hA := fun (v : Value) (hv : NX q v) g e => (hv g e).a
  have e1 : ints (nats o) ++ [Value.int .i64 k] = ints (nats (o ++ [k])) := by simp [nats]
  have e2 : ints (laidIn xs o) ++ [Value.int .i64 (xs.getD k 0)] = ints (laidIn xs (o ++ [k])) := by simp [laidIn]
  have e3 : o.length + 1 = (o ++ [k]).length := by simp
  rw [e1, e3] at ro
  rw [e2, e3] at rl
  have k1 := i7.set k (.bool true)
  rw [usedV_push hk] at k1
  refine ⟨⟨below_set (below_set (below_set i1 (by omega)) (by omega)) (by omega), i0, ((i2.other (by omega) _).other (by omega) _).other (by omega) _, ((i3.other (by omega) _).other (by omega) _).other (by omega) _, ((i4.other (by omega) _).other (by omega) _).other (by omega) _, ((i5.other (by omega) _).other (by omega) _).other (by omega) _, ((i6.other (by omega) _).other (by omega) _).other (by omega) _, (k1.other (by omega) _).other (by omega) _, ((i8.other (by omega) _).other (by omega) _).other (by omega) _, ((i9.other (by omega) _).other (by omega) _).other (by omega) _, ((i10.other (by omega) _).set 0 _).other (by omega) _, ((i11.other (by omega) _).other (by omega) _).set 0 _, row_set (row_set (row_set i12 (hG _ i13)) (hO _ i13)) (hA _ i13), i13, i14, i15⟩,
    row_set (row_set (row_set ro (hG _ no)) (hO _ no)) (hA _ no), row_set (row_set (row_set rl (hG _ nl)) (hO _ nl)) (hA _ nl), no, nl, d1, d2, d3⟩

theorem CI.alloc (h : CI W0 q st be a n c xs o S vo vl bv w) (x : Obj) : CI W0 q st be a n c xs o S vo vl bv (w.alloc x) := h.below' ((Below.refl _ _).alloc (Nat.le_refl _) x)
/-- the order's row has got one element more, the laid rods' row not yet -/
structure AA (W0 : World) (q : PS) (st be : Int) (a : Option Addr) (n c : Nat) (xs : List Int) (o : List Nat) (k : Nat) (S : SS) (vo vl bv : Value) (g1 cap1 : Nat) (w : World) : Prop where
  cb : CB W0 q st be a n c o S vo vl bv w
  row : w.ownsRow q.Z 2 1 (.slice (some ⟨g1, 0, none⟩) (o.length + 1) cap1) (o.length + 1) (ints (nats o) ++ [.int .i64 k])
  nx : NXg q g1
  rl : w.ownsRow q.Z 2 1 vl o.length (ints (laidIn xs o))
  nl : NX q vl
  d1 : vl.ownBlock ≠ some g1
  d2 : bv.ownBlock ≠ some g1
  dle : ∀ g, vl.ownBlock = some g → bv.ownBlock ≠ some g
theorem CI.stepA {k g1 cap1 : Nat} (h : CI W0 q st be a n c xs o S vo vl bv w) (ho : w'.ownsRow q.Z 2 1 (.slice (some ⟨g1, 0, none⟩) (o.length + 1) cap1) (o.length + 1) (ints (nats o) ++ [.int .i64 k])) (hg : w.grownBy w' vo.ownBlock) (hat : vo.ownBlock = some g1 ∨ g1 = w.heap.size) :
    AA W0 q st be a n c xs o k S vo vl bv g1 cap1 w' := by
  refine ⟨h.toCB.grow hg (fun g e => ⟨h.no g e, h.doe g e⟩), ho, ?_, h.rl.kept hg ?_, h.nl, ?_, ?_, h.dle⟩
  · rcases hat with e | e
    · exact h.no _ e
    · exact blk_new h.toCB (Nat.le_of_eq e.symm)
  · cases hb : vl.ownBlock with
    | none => exact .inl rfl
    | some g => exact .inr fun e => h.dol g e.symm hb
  · rcases hat with e | e
    · exact h.dol _ e
    · intro hb; have := (h.rl.lt _ hb).2; omega
  · rcases hat with e | e
    · exact h.doe _ e
    · intro hb; have := (h.re.lt _ hb).2; omega
theorem AA.below {k g1 cap1 : Nat} (h : AA W0 q st be a n c xs o k S vo vl bv g1 cap1 w) (hb : Below w.heap.size w w') : AA W0 q st be a n c xs o k S vo vl bv g1 cap1 w' :=
  ⟨h.cb.below' hb, owns_below h.row hb, h.nx, owns_below h.rl hb, h.nl, h.d1, h.d2, h.dle⟩
theorem AA.alloc {k g1 cap1 : Nat} (h : AA W0 q st be a n c xs o k S vo vl bv g1 cap1 w) (x : Obj) : AA W0 q st be a n c xs o k S vo vl bv g1 cap1 (w.alloc x) := h.below ((Below.refl _ _).alloc (Nat.le_refl _) x)
theorem AA.stepB (hq : PSok q) {k g1 cap1 g2 cap2 : Nat} (h : AA W0 q st be a n c xs o k S vo vl bv g1 cap1 w) (hk : k < n) (ho : w'.ownsRow q.Z 2 1 (.slice (some ⟨g2, 0, none⟩) (o.length + 1) cap2) (o.length + 1) (ints (laidIn xs o) ++ [.int .i64 (xs.getD k 0)])) (hg : w.grownBy w' vl.ownBlock) (hat : vl.ownBlock = some g2 ∨ g2 = w.heap.size) :
    CB W0 q st be a n c o S vo vl bv w' ∧ CI W0 q st be a n c xs (o ++ [k]) S (.slice (some ⟨g1, 0, none⟩) (o.length + 1) cap1) (.slice (some ⟨g2, 0, none⟩) (o.length + 1) cap2) bv (((w'.setCell ⟨q.G, k, none⟩ (.bool true)).setCell ⟨q.O, 0, none⟩ (.slice (some ⟨g1, 0, none⟩) (o.length + 1) cap1)).setCell ⟨q.A, 0, none⟩ (.slice (some ⟨g2, 0, none⟩) (o.length + 1) cap2)) := by
  have hcb := h.cb.grow hg (fun g e => ⟨h.nl g e, h.dle g e⟩)
  have hr1 := h.row.kept hg (.inr fun e => h.d1 e.symm)
  have hn2 : NXg q g2 := by
    rcases hat with e | e
    · exact h.nl _ e
    · exact blk_new h.cb (Nat.le_of_eq e.symm)
  have h12 : g1 ≠ g2 := by
    rcases hat with e | e
    · intro e'; exact h.d1 (by rw [e, e'])
    · have := (h.row.lt g1 rfl).2; omega
  have hb2 : bv.ownBlock ≠ some g2 := by
    rcases hat with e | e
    · exact h.dle _ e
    · intro hb; have := (h.cb.re.lt _ hb).2; omega
  refine ⟨hcb, hcb.push hq hk hr1 ho (fun g e => by cases e; exact h.nx) (fun g e => by cases e; exact hn2) (fun g e => ?_) (fun g e => ?_) (fun g e => ?_)⟩
  · cases e; intro e'; cases e'; exact h12 rfl
  · cases e; exact h.d2
  · cases e; exact hb2

theorem row_pop {base g m cap : Nat} {x : Value} {vs : List Value} (h : w.ownsRow base 2 1 (.slice (some ⟨g, 0, none⟩) (m + 1) cap) (m + 1) (vs ++ [x])) : w.ownsRow base 2 1 (.slice (some ⟨g, 0, none⟩) m cap) m vs := by
  obtain ⟨h1, h2⟩ := h
  have hl : vs.length = m := by simp at h1; omega
  refine ⟨by omega, .inr ?_⟩
  rcases h2 with ⟨h2, _⟩ | ⟨g', cap', cur, hv, h3, h4, h5, h6, h7, h8⟩
  · simp at h2
  · simp only [Value.slice.injEq] at hv
    obtain ⟨hg, _, rfl⟩ := hv
    simp only [Option.some.injEq, Addr.mk.injEq] at hg
    obtain ⟨rfl, _⟩ := hg
    refine ⟨g, cap, cur, rfl, h3, h4, by omega, h6, h7, ?_⟩
    rw [Nat.mul_one] at h8 ⊢
    have h9 := congrArg (List.take m) h8
    rw [List.take_take, Nat.min_eq_left (by omega), List.take_append_of_le_length (by omega)] at h9
    rw [h9]
    exact List.take_of_length_le (by omega)

/-- the last rod is taken off again -/
theorem CI.pop (hq : PSok q) {k : Nat} {go gl co cl : Nat} (h : CI W0 q st be a n c xs (o ++ [k]) S (.slice (some ⟨go, 0, none⟩) (o.length + 1) co) (.slice (some ⟨gl, 0, none⟩) (o.length + 1) cl) bv w) (hk : k < n) (hko : k ∉ o) :
    CI W0 q st be a n c xs o S (.slice (some ⟨go, 0, none⟩) o.length co) (.slice (some ⟨gl, 0, none⟩) o.length cl) bv (((w.setCell ⟨q.G, k, none⟩ (.bool false)).setCell ⟨q.O, 0, none⟩ (.slice (some ⟨go, 0, none⟩) o.length co)).setCell ⟨q.A, 0, none⟩ (.slice (some ⟨gl, 0, none⟩) o.length cl)) := by
  obtain ⟨⟨i1, i0, i2, i3, i4, i5, i6, i7, i8, i9, i10, i11, i12, i13, i14, i15⟩, j1, j2, j3, j4, j5, j6, j7⟩ := h
  obtain ⟨q1, q2, q3, q4, q5, q6, q7, q8, q9, q10, q11, q12, q13, q14, q15, q16, q17, q18, q19⟩ := hq
  have hG := fun (v : Value) (hv : NX q v) g e => (hv g e).g
  have hO := fun (v : Value) (hv : NX q v) g e => (hv g e).o
  have hA := fun (v : Value) (hv : NX q v) g e => (hv g e).a
  have e1 : ints (nats (o ++ [k])) = ints (nats o) ++ [Value.int .i64 k] := by simp [nats]
  have e2 : ints (laidIn xs (o ++ [k])) = ints (laidIn xs o) ++ [Value.int .i64 (xs.getD k 0)] := by simp [laidIn]
  have e3 : (o ++ [k]).length = o.length + 1 := by simp
  rw [e1, e3] at j1
  rw [e2, e3] at j2
  have ro := row_pop j1
  have rl := row_pop j2
  have k1 := i7.set k (.bool false)
  rw [usedV_pop hk hko] at k1
  have no : NX q (.slice (some ⟨go, 0, none⟩) o.length co) := j3
  have nl : NX q (.slice (some ⟨gl, 0, none⟩) o.length cl) := j4
  refine ⟨⟨below_set (below_set (below_set i1 (by omega)) (by omega)) (by omega), i0, ((i2.other (by omega) _).other (by omega) _).other (by omega) _, ((i3.other (by omega) _).other (by omega) _).other (by omega) _, ((i4.other (by omega) _).other (by omega) _).other (by omega) _, ((i5.other (by omega) _).other (by omega) _).other (by omega) _, ((i6.other (by omega) _).other (by omega) _).other (by omega) _, (k1.other (by omega) _).other (by omega) _, ((i8.other (by omega) _).other (by omega) _).other (by omega) _, ((i9.other (by omega) _).other (by omega) _).other (by omega) _, ((i10.other (by omega) _).set 0 _).other (by omega) _, ((i11.other (by omega) _).other (by omega) _).set 0 _, row_set (row_set (row_set i12 (hG _ i13)) (hO _ i13)) (hA _ i13), i13, i14, i15⟩,
    row_set (row_set (row_set ro (hG _ no)) (hO _ no)) (hA _ no), row_set (row_set (row_set rl (hG _ nl)) (hO _ nl)) (hA _ nl), no, nl, j5, j6, j7⟩
end
end Go.Proofs.Ytdbgicfbigjmmaa
