/-
  Drawn twills.
-/
import Derived.Test.YtggbnibdpkblgaaDoorSrc
import Derived.Test.YtggbnibdpkblgaaDoorTwill2
import Derived.Test.YtggbnibdpkblgaaDoorRegTail
namespace Go.Proofs.YtggbnibdpkblgaaDoor
open Go Go.RowKit
set_option linter.unusedVariables false
set_option maxRecDepth 100000

theorem owns_past' {w w' : World} {e : TypeId} {lo n g : Nat} {v : Value} {vs : List Value} (h : w.ownsRow lo e 1 v n vs) (hg : w.grownBy w' (some g)) (hlo : g < lo) : w'.ownsRow lo e 1 v n vs := by
  refine h.kept hg ?_
  cases hv : v.ownBlock with
  | none => exact .inl rfl
  | some k =>
    have h1 := (h.lt k hv).1
    refine .inr fun e' => ?_
    simp at e'
    omega
theorem g_past' {w W W' : World} {row row' : Option Nat} (h : w.grownBy W row) (h' : W.grownBy W' row') (hk : ∀ k, row' = some k → w.heap.size ≤ k) : w.grownBy W' row :=
  ⟨h'.os.trans h.os, h'.tape.trans h.tape, h'.output.trans h.output, Nat.le_trans h.size h'.size, fun i hi hne => (h'.block i (Nat.lt_of_lt_of_le hi h.size) (fun e => by have := hk i e.symm; omega)).trans (h.block i hi hne)⟩
theorem owns_noblk' {w : World} {base b : Nat} {e e' : TypeId} {size : Nat} {v : Value} {n : Nat} {xs cs : List Value} (h : w.ownsRow base e size v n xs) (hb : Blk w b cs e') (hne : e ≠ e') : v.ownBlock ≠ some b := by
  intro e1
  rcases h.2 with ⟨rfl, _⟩ | ⟨g', cap, cur, rfl, _, hg, _⟩
  · simp [Value.ownBlock] at e1
  · simp only [Value.ownBlock, Option.some.injEq] at e1
    subst e1
    unfold Blk at hb
    rw [hg] at hb
    simp only [Option.some.injEq, Obj.cells.injEq] at hb
    exact hne hb.2.1
theorem owns_lit (w : World) (e : TypeId) (vs : List Value) {cs : Array Value} (hcs : cs = vs.toArray) {n : Nat} (hn : n = vs.length) (hm : n ≤ maxLen) : (w.alloc (.cells cs e)).ownsRow w.heap.size e 1 (.slice (some ⟨w.heap.size, 0, none⟩) n n) n vs := by
  subst hcs hn
  refine ⟨by simp, .inr ⟨w.heap.size, vs.length, vs.toArray, rfl, Nat.le_refl _, heap_alloc_new w _, Nat.le_refl _, hm, by simp, by simp⟩⟩

theorem cell_keep {w : World} {a : Addr} {v : Value} (h : w.cell? a = some v) (o : Obj) : (w.alloc o).cell? a = some v := (World.cell?_alloc_some w a o (by rw [h]; rfl)).trans h
/-- a twill under way: block b is its box, v its row of numbers, rb the box of the result -/
def TwB (w0 : World) (g K rb b : Nat) (vb v : Value) (xs : List Int) (st : Int) (w : World) : Prop :=
  Src w g K ∧ w0.grownBy w (some g) ∧ Blk w rb [.slice none 0 0, .int .i64 0] 28 ∧ Blk w b [vb, .int .i64 st] 28 ∧ w.ownsRow w0.heap.size 2 1 v xs.length (ints xs) ∧ g < w0.heap.size ∧ w0.heap.size ≤ rb ∧ w0.heap.size ≤ b ∧ rb ≠ b
theorem TwB.next {w0 w w' : World} {g K K' rb b : Nat} {vb v : Value} {xs : List Int} {st : Int} (h : TwB w0 g K rb b vb v xs st w) (hs : Src w' g K') (hg : w.grownBy w' (some g)) : TwB w0 g K' rb b vb v xs st w' := by
  obtain ⟨h1, h2, h3, h4, h5, h6, h7, h8, h9⟩ := h
  exact ⟨hs, gtrans h2 hg, h3.grown hg (by simp; omega), h4.grown hg (by simp; omega), owns_past' h5 hg h6, h6, h7, h8, h9⟩
theorem TwB.alloc {w0 w : World} {g K rb b : Nat} {vb v : Value} {xs : List Int} {st : Int} (h : TwB w0 g K rb b vb v xs st w) (o : Obj) : TwB w0 g K rb b vb v xs st (w.alloc o) := h.next (h.1.alloc o) (World.grownBy_alloc w o (some g))
theorem TwB.drew {w0 w : World} {g K rb b : Nat} {vb v : Value} {xs : List Int} {st : Int} (h : TwB w0 g K rb b vb v xs st w) : TwB w0 g K rb b vb v xs st w.drew := h.next h.1.drew (grownBy_below (bdrewN (Below.refl _ _) 1) |> fun k => ⟨k.os, k.tape, k.output, k.size, fun i hi _ => k.block i hi (by simp)⟩)
theorem TwB.same {w0 w w' : World} {g K rb b : Nat} {vb v : Value} {xs : List Int} {st : Int} (h : TwB w0 g K rb b vb v xs st w) (hb : Below w.heap.size w w') : TwB w0 g K rb b vb v xs st w' := h.next (h.1.kept hb) (gbelow hb _)
theorem TwB.app {w0 w w' : World} {g K rb b : Nat} {vb v v' : Value} {xs ys : List Int} {st : Int} (h : TwB w0 g K rb b vb v xs st w) (ho : w'.ownsRow w0.heap.size 2 1 v' ys.length (ints ys)) (hg : w.grownBy w' v.ownBlock) : TwB w0 g K rb b vb v' ys st w' := by
  obtain ⟨h1, h2, h3, h4, h5, h6, h7, h8, h9⟩ := h
  have hB : Below w0.heap.size w w' := (Below.refl _ _).grown hg h2.size (fun k hk => (h5.lt k hk).1)
  exact ⟨h1.keptB hB h6, g_past' h2 hg (fun k hk => (h5.lt k hk).1), h3.grown hg (owns_noblk' h5 h3 (by decide)).symm, h4.grown hg (owns_noblk' h5 h4 (by decide)).symm, ho, h6, h7, h8, h9⟩
theorem TwB.put0 {w0 w : World} {g K rb b : Nat} {vb v : Value} {xs : List Int} {st : Int} (h : TwB w0 g K rb b vb v xs st w) : TwB w0 g K rb b v v xs st (w.setCell ⟨b, 0, none⟩ v) := by
  obtain ⟨h1, h2, h3, h4, h5, h6, h7, h8, h9⟩ := h
  exact ⟨h1.set (by omega) 0 v, gset_past h2 h8 0 v, h3.other h9 v, h4.set 0 v, h5.kept (gsetK w b 0 v) (.inr (owns_noblk' h5 h4 (by decide))), h6, h7, h8, h9⟩
theorem TwB.put1 {w0 w : World} {g K rb b : Nat} {vb v : Value} {xs : List Int} {st : Int} (h : TwB w0 g K rb b vb v xs st w) (st' : Int) : TwB w0 g K rb b vb v xs st' (w.setCell ⟨b, 1, none⟩ (.int .i64 st')) := by
  obtain ⟨h1, h2, h3, h4, h5, h6, h7, h8, h9⟩ := h
  exact ⟨h1.set (by omega) 1 _, gset_past h2 h8 1 _, h3.other h9 _, h4.set 1 _, h5.kept (gsetK w b 1 _) (.inr (owns_noblk' h5 h4 (by decide))), h6, h7, h8, h9⟩
theorem TwB.src {w0 w : World} {g K rb b : Nat} {vb v : Value} {xs : List Int} {st : Int} (h : TwB w0 g K rb b vb v xs st w) : Src w g K := h.1
theorem TwB.cell0 {w0 w : World} {g K rb b : Nat} {vb v : Value} {xs : List Int} {st : Int} (h : TwB w0 g K rb b vb v xs st w) : w.cell? ⟨b, 0, none⟩ = some vb := h.2.2.2.1.cell 0 _ rfl
theorem TwB.cell1 {w0 w : World} {g K rb b : Nat} {vb v : Value} {xs : List Int} {st : Int} (h : TwB w0 g K rb b vb v xs st w) : w.cell? ⟨b, 1, none⟩ = some (.int .i64 st) := h.2.2.2.1.cell 1 _ rfl
theorem TwB.fr {w0 w : World} {g K rb b : Nat} {vb v : Value} {xs : List Int} {st : Int} (h : TwB w0 g K rb b vb v xs st w) (i : Nat) : w.frozen? ⟨b, i, none⟩ = false := h.2.2.2.1.frozen i
theorem TwB.own {w0 w : World} {g K rb b : Nat} {vb v : Value} {xs : List Int} {st : Int} (h : TwB w0 g K rb b vb v xs st w) : w.ownsRow w0.heap.size 2 1 v xs.length (ints xs) := h.2.2.2.2.1
theorem TwB.size {w0 w : World} {g K rb b : Nat} {vb v : Value} {xs : List Int} {st : Int} (h : TwB w0 g K rb b vb v xs st w) : w0.heap.size ≤ w.heap.size := h.2.1.size
theorem TwB.row {w0 w : World} {g K rb b n c : Nat} {a : Option Addr} {vb : Value} {xs : List Int} {st : Int} (h : TwB w0 g K rb b vb (.slice a n c) xs st w) (h2 : 2 ≤ xs.length) : ∃ r x0 x1, a = some ⟨r, 0, none⟩ ∧ n = xs.length ∧ x0 ∈ xs ∧ x1 ∈ xs ∧ w.cell? ⟨r, 0, none⟩ = some (.int .i64 x0) ∧ w.cell? ⟨r, 1, none⟩ = some (.int .i64 x1) ∧ w.frozen? ⟨r, 0, none⟩ = false := by
  have ho := h.own
  have hn := (owns_read ho).2
  rcases ho.2 with ⟨_, h0⟩ | ⟨g', cap, cur, hv, _⟩
  · omega
  · simp only [Value.slice.injEq] at hv
    obtain ⟨rfl, rfl, rfl⟩ := hv
    have c0 := ho.cellAt 0 (by omega)
    have c1 := ho.cellAt 1 (by omega)
    rw [List.getElem?_map, List.getElem?_eq_getElem (by omega)] at c0 c1
    exact ⟨_, _, _, rfl, rfl, List.getElem_mem _, List.getElem_mem _, c0, c1, ho.frozenAt 0⟩
theorem TwB.twAt {w0 w : World} {g K rb b n c : Nat} {a : Option Addr} {xs : List Int} {st : Int} (h : TwB w0 g K rb b (.slice a n c) (.slice a n c) xs st w) : TwAt w b a n c xs st := ⟨h.cell0, h.cell1, (owns_read h.own).1⟩
theorem small_sum {xs : List Int} (h : ∀ x ∈ xs, 1 ≤ x ∧ x ≤ 3) (hl : xs.length ≤ 6) : ∀ k, k ≤ xs.length → 0 ≤ lsum xs k ∧ lsum xs k ≤ 18 := by
  have he : eachIn xs 1 3 = true := eachIn_iff.2 h
  have key : ∀ k, k ≤ xs.length → (k : Int) ≤ lsum xs k ∧ lsum xs k ≤ 3 * k := by
    intro k
    induction k with
    | zero => intro _; simp [lsum]
    | succ k ih =>
      intro hk
      have := ih (by omega)
      have := eachIn_at he (k := k) (by omega)
      simp only [lsum]; omega
  intro k hk
  have := key k hk
  omega
theorem TwB.res {w0 w : World} {g K rb b : Nat} {vb v : Value} {xs : List Int} {st : Int} (h : TwB w0 g K rb b vb v xs st w) : w.cell? ⟨rb, 0, none⟩ = some (.slice none 0 0) ∧ w.cell? ⟨rb, 1, none⟩ = some (.int .i64 0) ∧ w.frozen? ⟨rb, 0, none⟩ = false ∧ w.frozen? ⟨rb, 1, none⟩ = false ∧ rb ≠ b ∧ rb < w.heap.size ∧ b < w.heap.size := ⟨h.2.2.1.cell 0 _ rfl, h.2.2.1.cell 1 _ rfl, h.2.2.1.frozen 0, h.2.2.1.frozen 1, h.2.2.2.2.2.2.2.2, h.2.2.1.lt, h.2.2.2.1.lt⟩
theorem TwB.rne {w0 w : World} {g K rb b n c r : Nat} {vb : Value} {xs : List Int} {st : Int} (h : TwB w0 g K rb b vb (.slice (some ⟨r, 0, none⟩) n c) xs st w) : r ≠ b ∧ r ≠ rb := by
  obtain ⟨h1, h2, h3, h4, h5, h6, h7, h8, h9⟩ := h
  have e1 := owns_noblk' h5 h4 (by decide)
  have e2 := owns_noblk' h5 h3 (by decide)
  simp only [Value.ownBlock, ne_eq, Option.some.injEq] at e1 e2
  exact ⟨e1, e2⟩
theorem TwB.setRow {w0 w : World} {g K rb b n c r : Nat} {vb : Value} {xs : List Int} {st : Int} (h : TwB w0 g K rb b vb (.slice (some ⟨r, 0, none⟩) n c) xs st w) (i : Nat) (y : Int) : TwB w0 g K rb b vb (.slice (some ⟨r, 0, none⟩) n c) (xs.set i y) st (w.setCell ⟨r, i, none⟩ (.int .i64 y)) := by
  obtain rfl : n = xs.length := (owns_read h.own).2
  have hs := (h.own.stored i (.int .i64 y)).1
  refine h.app ?_ (gsetK w r i _)
  rw [List.length_set]
  show World.ownsRow _ _ _ _ _ _ (List.map (Value.int .i64) (xs.set i y))
  rw [List.map_set]
  exact hs
theorem TwB.fresh {w0 w : World} {g K rb b : Nat} {vb v : Value} {xs : List Int} {st : Int} (h : TwB w0 g K rb b vb v xs st w) (ys : List Int) {cs : Array Value} (hcs : cs = (ints ys).toArray) {n : Nat} (hn : n = ys.length) (hm : n ≤ maxLen) : TwB w0 g K rb b vb (.slice (some ⟨w.heap.size, 0, none⟩) n n) ys st (w.alloc (.cells cs 2)) := by
  have hz := h.size
  obtain ⟨h1, h2, h3, h4, h5, h6, h7, h8, h9⟩ := h.alloc (.cells cs 2)
  have ho := owns_mono (owns_lit w 2 (ints ys) hcs (by simpa using hn) hm) hz
  rw [hn] at ho ⊢
  exact ⟨h1, h2, h3, h4, ho, h6, h7, h8, h9⟩
/-- the result is stored and read -/
theorem TwB.out {w0 w : World} {g K rb b : Nat} {vb v : Value} {xs : List Int} {st : Int} (h : TwB w0 g K rb b vb v xs st w) :
    ((w.setCell ⟨rb, 0, none⟩ v).setCell ⟨rb, 1, none⟩ (.int .i64 st)).cell? ⟨rb, 0, none⟩ = some v ∧ ((w.setCell ⟨rb, 0, none⟩ v).setCell ⟨rb, 1, none⟩ (.int .i64 st)).cell? ⟨rb, 1, none⟩ = some (.int .i64 st) ∧
    Own ((w.setCell ⟨rb, 0, none⟩ v).setCell ⟨rb, 1, none⟩ (.int .i64 st)) w0.heap.size ((w.setCell ⟨rb, 0, none⟩ v).setCell ⟨rb, 1, none⟩ (.int .i64 st)).heap.size 2 v (ints xs) ∧
    Src ((w.setCell ⟨rb, 0, none⟩ v).setCell ⟨rb, 1, none⟩ (.int .i64 st)) g K ∧ w0.grownBy ((w.setCell ⟨rb, 0, none⟩ v).setCell ⟨rb, 1, none⟩ (.int .i64 st)) (some g) := by
  obtain ⟨h1, h2, h3, h4, h5, h6, h7, h8, h9⟩ := h
  have hk := (h3.set 0 v).set 1 (.int .i64 st)
  have ho := (h5.kept (gsetK w rb 0 v) (.inr (owns_noblk' h5 h3 (by decide)))).kept (gsetK _ rb 1 (.int .i64 st)) (.inr (owns_noblk' h5 h3 (by decide)))
  exact ⟨hk.cell 0 _ rfl, hk.cell 1 _ rfl, by simpa using Own.of ho, (h1.set (by omega) 0 v).set (by omega) 1 _, gset_past (gset_past h2 h7 0 v) h7 1 _⟩

set_option maxHeartbeats 4000000 in
theorem l09New_any (g K : Nat) (w : World) (h : Src w g K) (hK : K ≤ 100000) :
    Calls Tryd.prog 45 #[.pointer (some ⟨g, 0, none⟩)] w fun e w' => ∃ (v : Value) (xs : List Int) (st : Int), e = .returned (.agg #[v, .int .i64 st]) ∧ 2 ≤ xs.length ∧ xs.length ≤ 6 ∧ (∀ x ∈ xs, 1 ≤ x ∧ x ≤ 3) ∧ Own w' w.heap.size w'.heap.size 2 v (ints xs) ∧ Src w' g (K + 30) ∧ w.grownBy w' (some g) := by
  have hgw := h.lt
  have hs := h.alloc (.cells #[.slice none 0 0, .int .i64 0] 28)
  have hg := World.grownBy_alloc w (.cells #[.slice none 0 0, .int .i64 0] 28) (some g)
  have hbr := Blk.box w [.slice none 0 0, .int .i64 0] 28 rfl
  go_enter Tryd.func45, Tryd.ntmps45
  go_wp2_with fail
  with_reducible refine (pick_any _ _ _ _ hs (by omega) (by omega)).mono ?_
  rintro e w1 ⟨x, rfl, hx0, hx1, _, hs1, hg1⟩
  replace hx1 := hx1 (by omega)
  replace hg := gtrans hg hg1
  replace hbr := hbr.grown hg1 (by simp; omega)
  clear hs hg1
  go_wp2_with fail
  with_reducible refine (pick_any _ _ _ _ hs1 (by omega) (by omega)).mono ?_
  rintro e w2 ⟨y, rfl, hy0, hy1, _, hs2, hg2⟩
  replace hy1 := hy1 (by omega)
  replace hg := gtrans hg hg2
  replace hbr := hbr.grown hg2 (by simp; omega)
  clear hs1 hg2 h
  obtain ⟨B, hB⟩ : ∃ B, w2.heap.size + 1 = B := ⟨_, rfl⟩
  have hT0 : TwB w g (K + 4) w.heap.size B (.slice (some ⟨w2.heap.size, 0, none⟩) 2 2) (.slice (some ⟨w2.heap.size, 0, none⟩) 2 2) [1 + x, 1 + y] 0 ((w2.alloc (.cells #[.int .i64 (1 + x), .int .i64 (1 + y)] 2)).alloc (.cells #[.slice (some ⟨w2.heap.size, 0, none⟩) 2 2, .int .i64 0] 28)) := by
    have hbl := hbr.lt
    have hz := hg.size
    refine ⟨(hs2.alloc _).alloc _, gtrans (gtrans hg (World.grownBy_alloc _ _ _)) (World.grownBy_alloc _ _ _), (hbr.alloc _).alloc _, Blk.box _ [_, _] _ (by simp; omega), ?_, hgw, Nat.le_refl _, by omega, by omega⟩
    exact (owns_mono (owns_lit w2 2 (ints [1 + x, 1 + y]) rfl rfl (by simp [maxLen])) hz).alloc _
  go_wp2_with fail
  clear hB
  with_reducible refine (one_any _ _ _ _ hT0.src (by omega) (by omega)).mono ?_
  rintro e w3 ⟨b1, rfl, hs3, hg3⟩
  have HT := Lib.hid (hT0.next hs3 hg3)
  have Hxs : Hid (∀ z ∈ [1 + x, 1 + y], 1 ≤ z ∧ z ≤ 3) := Lib.hid (by intro z hz; simp at hz; omega)
  clear hT0 hs2 hs3 hg3 hg hbr
  go_upto_if 13 with fail
  go_cut [] (fun wx => ∃ (v : Value) (xs : List Int), 2 ≤ xs.length ∧ xs.length ≤ 4 ∧ Hid (∀ x ∈ xs, 1 ≤ x ∧ x ≤ 3) ∧ Hid (TwB w g (K + 10) w.heap.size B v v xs 0 wx))
  case first =>
    cases b1
    · go_wp2_with fail
      go_meet
      exact ⟨_, _, by simp, by simp, Hxs, Lib.hid (HT.out.next (HT.out.src.mono (by omega)) (World.grownBy.refl _ _))⟩
    · go_wp2_with fail
      refine wp_region_head (fun w' => w'.cell? ⟨B, 0, none⟩ = some (.slice (some ⟨w2.heap.size, 0, none⟩) 2 2)) 10 (by kernel_rfl) (by decide) ?_
      replace HT := Lib.hid HT.out.drew
      have HS := Lib.hid HT.out.cell0
      generalize w3.drew = w3 at *
      refine wpHead_take (i := 0) (v := ?_) rfl (by kernel_rfl) (fun _ _ _ h => h) (Or.inl ⟨by rfl, ?_⟩) HS.out ?_
      rotate_left
      · intro w hSw; (try dsimp only at hSw); go_simp; (try with_reducible rfl)
      (try simp only [Act.put, List.setIfInBounds_toArray, List.set_cons_zero, List.set_cons_succ])
      refine wpHead_take (i := 1) (v := ?_) rfl (by kernel_rfl) (fun _ _ _ h => h) (Or.inl ⟨by rfl, ?_⟩) HS.out ?_
      rotate_left
      · intro w hSw; (try dsimp only at hSw); go_simp; (try with_reducible rfl)
      (try simp only [Act.put, List.setIfInBounds_toArray, List.set_cons_zero, List.set_cons_succ])
      refine wpHead_take (i := 2) (v := ?_) rfl (by kernel_rfl) (fun _ _ _ h => h) (Or.inl ⟨by rfl, ?_⟩) HS.out ?_
      rotate_left
      · intro w hSw; (try dsimp only at hSw); go_simp; (try with_reducible rfl)
      (try simp only [Act.put, List.setIfInBounds_toArray, List.set_cons_zero, List.set_cons_succ])
      refine wpHead_take (i := 5) (v := ?_) rfl (by kernel_rfl) (fun _ _ _ h => h) (Or.inl ⟨by rfl, ?_⟩) HS.out ?_
      rotate_left
      · intro w hSw; (try dsimp only at hSw); go_simp; (try with_reducible rfl)
      (try simp only [Act.put, List.setIfInBounds_toArray, List.set_cons_zero, List.set_cons_succ])
      refine wpHead_one (i := 3) (by kernel_rfl) (by decide) rfl (fun K hK => ?_)
      go_simp
      with_reducible refine (pick_any _ _ _ _ HT.out.src (by omega) (by omega)).mono ?_
      rintro e w4 ⟨x4, rfl, hx40, hx41, _, hs4, hg4⟩
      replace hx41 := hx41 (by omega)
      have HT4 := Lib.hid (HT.out.next hs4 hg4)
      have HS4 := Lib.hid HT4.out.cell0
      refine hK.out _ _ HS4.out ?_
      clear hK K HT HS hs4 hg4
      (try simp only [Act.put, List.setIfInBounds_toArray, List.set_cons_zero, List.set_cons_succ])
      refine wpHead_take (i := 4) (v := ?_) rfl (by kernel_rfl) (fun _ _ _ h => h) (Or.inl ⟨by rfl, ?_⟩) HS4.out ?_
      rotate_left
      · intro w hSw; (try dsimp only at hSw); go_simp; (try with_reducible rfl)
      (try simp only [Act.put, List.setIfInBounds_toArray, List.set_cons_zero, List.set_cons_succ])
      refine wpHead_one (i := 6) (by kernel_rfl) (by decide) rfl (fun K hK => ?_)
      go_simp
      with_reducible refine (pick_any _ _ _ _ HT4.out.src (by omega) (by omega)).mono ?_
      rintro e w5 ⟨x5, rfl, hx50, hx51, _, hs5, hg5⟩
      replace hx51 := hx51 (by omega)
      have HT5 := Lib.hid (HT4.out.next hs5 hg5)
      have HS5 := Lib.hid HT5.out.cell0
      refine hK.out _ _ HS5.out ?_
      clear hK K HT4 HS4 hs5 hg5
      (try simp only [Act.put, List.setIfInBounds_toArray, List.set_cons_zero, List.set_cons_succ])
      refine wpHead_take (i := 7) (v := ?_) rfl (by kernel_rfl) (fun _ _ _ h => h) (Or.inl ⟨by rfl, ?_⟩) HS5.out ?_
      rotate_left
      · intro w hSw; (try dsimp only at hSw); go_simp; (try with_reducible rfl)
      (try simp only [Act.put, List.setIfInBounds_toArray, List.set_cons_zero, List.set_cons_succ])
      refine wpHead_one (i := 8) (by kernel_rfl) (by decide) rfl (fun K hK => ?_)
      go_simp
      have HP4 : Hid (1 ≤ IntKind.i64.wrap (1 + x4) ∧ IntKind.i64.wrap (1 + x4) ≤ 3) := Lib.hid (by rw [IntWalk.i64_in _ (by omega)]; omega)
      have HP5 : Hid (1 ≤ IntKind.i64.wrap (1 + x5) ∧ IntKind.i64.wrap (1 + x5) ≤ 3) := Lib.hid (by rw [IntWalk.i64_in _ (by omega)]; omega)
      generalize IntKind.i64.wrap (1 + x4) = p4 at *
      generalize IntKind.i64.wrap (1 + x5) = p5 at *
      have HT6 := Lib.hid (HT5.out.alloc (.cells #[.int .i64 p4, .int .i64 p5] 2))
      have HS6 := Lib.hid HT6.out.cell0
      have HR6 := Lib.hid (rv_lit w5 [p4, p5] 2 (n := 2) (cs := #[.int .i64 p4, .int .i64 p5]) rfl rfl (by simp [maxLen]))
      refine hK.out _ _ HS6.out ?_
      clear hK K HT5 HS5
      (try simp only [Act.put, List.setIfInBounds_toArray, List.set_cons_zero, List.set_cons_succ])
      refine wpHead_one (i := 9) (by kernel_rfl) (by decide) rfl (fun K hK => ?_)
      refine step_appN rfl _ _ 26 rfl w.heap.size 2 _ 8 Tryd.underlying26 info_i64 (by decide) rfl (.slice (some ⟨w2.heap.size, 0, none⟩) 2 2) 2 (ints [1 + x, 1 + y]) rfl HT6.out.own (some ⟨w5.heap.size, 0, none⟩) 2 2 (ints [p4, p5]) rfl HR6.out (by intro h; cases h) (by intro u hu; obtain ⟨z, _, rfl⟩ := List.mem_map.1 hu; rfl) (by omega) HT6.out.size ?_
      intro v7 w7 ho7 hg7 _
      obtain ⟨a7, c7, rfl⟩ := owns_slice ho7
      have HT7 := Lib.hid (HT6.out.app (ys := [1 + x, 1 + y, p4, p5]) ho7 hg7)
      have HS7 := Lib.hid HT7.out.cell0
      refine hK.out _ _ HS7.out ?_
      clear hK K HT6 HS6 HR6 hg7 ho7
      (try simp only [Act.put, List.setIfInBounds_toArray, List.set_cons_zero, List.set_cons_succ])
      refine wpHead_done (by kernel_rfl) ?_
      simp only [List.drop_succ_cons, List.drop_zero]
      have c0 := HT7.out.cell0
      have f0 := HT7.out.fr 0
      go_wp2_with fail
      go_meet
      refine ⟨_, [1 + x, 1 + y, p4, p5], by simp, by simp, Lib.hid ?_, Lib.hid (HT7.out.put0.next (HT7.out.put0.src.mono (by omega)) (World.grownBy.refl _ _))⟩
      intro z hz
      have h4 := HP4.out
      have h5 := HP5.out
      simp at hz
      omega
  obtain ⟨v, xs, hx2, hx4, Hxs, HT⟩ := hcut
  obtain ⟨a1, c1, rfl⟩ := owns_slice HT.out.own
  go_wp2_with fail
  with_reducible refine (one_any _ _ _ _ HT.out.src (by omega) (by omega)).mono ?_
  rintro e w4 ⟨b2, rfl, hs4, hg4⟩
  replace HT := Lib.hid (HT.out.next hs4 hg4)
  clear hs4 hg4
  go_upto_if 26 with fail
  go_cut [] (fun wx => ∃ (v : Value) (xs : List Int), 2 ≤ xs.length ∧ xs.length ≤ 6 ∧ Hid (∀ x ∈ xs, 1 ≤ x ∧ x ≤ 3) ∧ Hid (TwB w g (K + 12) w.heap.size B v v xs 0 wx))
  case first =>
    cases b2
    · go_wp2_with fail
      go_meet
      exact ⟨_, _, hx2, by omega, Hxs, Lib.hid (HT.out.next (HT.out.src.mono (by omega)) (World.grownBy.refl _ _))⟩
    · go_wp2_with fail
      obtain ⟨r, x0, x1, rfl, hn, hm0, hm1, d0, d1, _⟩ := HT.out.row hx2
      obtain ⟨n, hnn⟩ : ∃ n, xs.length = n := ⟨_, rfl⟩
      have Hnn := Lib.hid hnn
      rw [hnn] at hx2 hx4
      have HP0 := Lib.hid (Hxs.out x0 hm0)
      have HP1 := Lib.hid (Hxs.out x1 hm1)
      clear hn hnn hm0 hm1
      have hi0 : 0 < n := by omega
      have hi1 : 1 < n := by omega
      have hi1i : (1 : Int) < n := by omega
      have hi0i : (0 : Int) < n := by omega
      refine wp_region_head (fun w' => w'.cell? ⟨B, 0, none⟩ = some (.slice (some ⟨r, 0, none⟩) n c1) ∧ w'.cell? ⟨r, 0, none⟩ = some (.int .i64 x0) ∧ w'.cell? ⟨r, 1, none⟩ = some (.int .i64 x1)) 11 (by kernel_rfl) (by decide) ?_
      replace HT := Lib.hid HT.out.drew
      have HS : Hid (w4.drew.cell? ⟨B, 0, none⟩ = some (.slice (some ⟨r, 0, none⟩) n c1) ∧ w4.drew.cell? ⟨r, 0, none⟩ = some (.int .i64 x0) ∧ w4.drew.cell? ⟨r, 1, none⟩ = some (.int .i64 x1)) := Lib.hid ⟨HT.out.cell0.trans (by rw [Hnn.out]), d0, d1⟩
      clear d0 d1
      generalize w4.drew = w4 at *
      refine wpHead_take (i := 0) (v := ?_) rfl (by kernel_rfl) (fun _ _ _ h => h) (Or.inl ⟨by rfl, ?_⟩) HS.out ?_
      rotate_left
      · intro w hSw; (try dsimp only at hSw); go_simp; (try with_reducible rfl)
      (try simp only [Act.put, List.setIfInBounds_toArray, List.set_cons_zero, List.set_cons_succ])
      refine wpHead_take (i := 2) (v := ?_) rfl (by kernel_rfl) (fun _ _ _ h => h) (Or.inl ⟨by rfl, ?_⟩) HS.out ?_
      rotate_left
      · intro w hSw; (try dsimp only at hSw); go_simp; (try with_reducible rfl)
      (try simp only [Act.put, List.setIfInBounds_toArray, List.set_cons_zero, List.set_cons_succ])
      refine wpHead_take (i := 6) (v := ?_) rfl (by kernel_rfl) (fun _ _ _ h => h) (Or.inl ⟨by rfl, ?_⟩) HS.out ?_
      rotate_left
      · intro w hSw; (try dsimp only at hSw); go_simp; (try with_reducible rfl)
      (try simp only [Act.put, List.setIfInBounds_toArray, List.set_cons_zero, List.set_cons_succ])
      refine wpHead_take (i := 1) (v := ?_) rfl (by kernel_rfl) (fun _ _ _ h => h) (Or.inl ⟨by rfl, ?_⟩) HS.out ?_
      rotate_left
      · intro w hSw; (try dsimp only at hSw); go_simp; (try with_reducible rfl)
      (try simp only [Act.put, List.setIfInBounds_toArray, List.set_cons_zero, List.set_cons_succ])
      refine wpHead_take (i := 3) (v := ?_) rfl (by kernel_rfl) (fun _ _ _ h => h) (Or.inl ⟨by rfl, ?_⟩) HS.out ?_
      rotate_left
      · intro w hSw; (try dsimp only at hSw); go_simp; (try with_reducible rfl)
      (try simp only [Act.put, List.setIfInBounds_toArray, List.set_cons_zero, List.set_cons_succ])
      refine wpHead_take (i := 7) (v := ?_) rfl (by kernel_rfl) (fun _ _ _ h => h) (Or.inl ⟨by rfl, ?_⟩) HS.out ?_
      rotate_left
      · intro w hSw; (try dsimp only at hSw); go_simp; (try with_reducible rfl)
      (try simp only [Act.put, List.setIfInBounds_toArray, List.set_cons_zero, List.set_cons_succ])
      refine wpHead_take (i := 4) (v := ?_) rfl (by kernel_rfl) (fun _ _ _ h => h) (Or.inl ⟨by rfl, ?_⟩) HS.out ?_
      rotate_left
      · intro w hSw; (try dsimp only at hSw); go_simp; (try with_reducible rfl)
      (try simp only [Act.put, List.setIfInBounds_toArray, List.set_cons_zero, List.set_cons_succ])
      refine wpHead_take (i := 8) (v := ?_) rfl (by kernel_rfl) (fun _ _ _ h => h) (Or.inl ⟨by rfl, ?_⟩) HS.out ?_
      rotate_left
      · intro w hSw; (try dsimp only at hSw); go_simp; (try with_reducible rfl)
      (try simp only [Act.put, List.setIfInBounds_toArray, List.set_cons_zero, List.set_cons_succ])
      refine wpHead_take (i := 5) (v := ?_) rfl (by kernel_rfl) (fun _ _ _ h => h) (Or.inl ⟨by rfl, ?_⟩) HS.out ?_
      rotate_left
      · intro w hSw; (try dsimp only at hSw); go_simp; (try with_reducible rfl)
      (try simp only [Act.put, List.setIfInBounds_toArray, List.set_cons_zero, List.set_cons_succ])
      refine wpHead_take (i := 9) (v := ?_) rfl (by kernel_rfl) (fun _ _ _ h => h) (Or.inl ⟨by rfl, ?_⟩) HS.out ?_
      rotate_left
      · intro w hSw; (try dsimp only at hSw); go_simp; (try with_reducible rfl)
      (try simp only [Act.put, List.setIfInBounds_toArray, List.set_cons_zero, List.set_cons_succ])
      refine wpHead_one (i := 10) (by kernel_rfl) (by decide) rfl (fun K hK => ?_)
      go_simp
      have HT6 := Lib.hid (HT.out.alloc (.cells #[.int .i64 x0, .int .i64 x1] 2))
      have HS6 := Lib.hid (show (w4.alloc (.cells #[.int .i64 x0, .int .i64 x1] 2)).cell? ⟨B, 0, none⟩ = some (.slice (some ⟨r, 0, none⟩) n c1) ∧ (w4.alloc (.cells #[.int .i64 x0, .int .i64 x1] 2)).cell? ⟨r, 0, none⟩ = some (.int .i64 x0) ∧ (w4.alloc (.cells #[.int .i64 x0, .int .i64 x1] 2)).cell? ⟨r, 1, none⟩ = some (.int .i64 x1) from ⟨cell_keep HS.out.1 _, cell_keep HS.out.2.1 _, cell_keep HS.out.2.2 _⟩)
      have HR6 := Lib.hid (rv_lit w4 [x0, x1] 2 (n := 2) (cs := #[.int .i64 x0, .int .i64 x1]) rfl rfl (by simp [maxLen]))
      refine hK.out _ _ HS6.out ?_
      clear hK K HT HS
      (try simp only [Act.put, List.setIfInBounds_toArray, List.set_cons_zero, List.set_cons_succ])
      have h6n := HT6.out.own
      rw [Hnn.out] at h6n
      refine wpHead_done (by kernel_rfl) ?_
      simp only [List.drop_succ_cons, List.drop_zero]
      refine wpList_appN rfl _ _ 26 rfl w.heap.size 2 _ 8 Tryd.underlying26 info_i64 (by decide) rfl (.slice (some ⟨r, 0, none⟩) n c1) n (ints xs) rfl h6n (some ⟨w4.heap.size, 0, none⟩) 2 2 (ints [x0, x1]) rfl HR6.out (by intro h; cases h) (by intro u hu; obtain ⟨z, _, rfl⟩ := List.mem_map.1 hu; rfl) (by omega) HT6.out.size ?_
      intro v7 w7 ho7 hg7 _
      obtain ⟨a7, c7, rfl⟩ := owns_slice ho7
      have HT7 := Lib.hid (HT6.out.app (v' := .slice a7 (n + 2) c7) (ys := xs ++ [x0, x1]) (by rw [show (xs ++ [x0, x1]).length = n + 2 by simp [Hnn.out]]; simpa using ho7) hg7)
      clear HT6 HS6 HR6 hg7 ho7 h6n
      have c0 := HT7.out.cell0
      have f0 := HT7.out.fr 0
      go_wp2_with fail
      go_meet
      refine ⟨_, xs ++ [x0, x1], by simp, by simp [Hnn.out]; omega, Lib.hid ?_, Lib.hid (HT7.out.put0.next (HT7.out.put0.src.mono (by omega)) (World.grownBy.refl _ _))⟩
      intro z hz
      have h4 := HP0.out
      have h5 := HP1.out
      rcases List.mem_append.1 hz with hz | hz
      · exact Hxs.out z hz
      · simp at hz; omega
  clear HT Hxs hx2 hx4
  obtain ⟨v, xs, hx2, hx4, Hxs, HT⟩ := hcut
  obtain ⟨a1, c1, rfl⟩ := owns_slice HT.out.own
  have Hsum := Lib.hid (small_sum Hxs.out hx4)
  obtain ⟨S, hS⟩ : ∃ S, lsum xs xs.length = S := ⟨_, rfl⟩
  have hS0 : 0 ≤ S ∧ S ≤ 18 := by rw [← hS]; exact Hsum.out _ (Nat.le_refl _)
  have Hwd := Lib.hid (show ∀ W, TwAt W B a1 xs.length c1 xs 0 → Calls Tryd.prog 54 #[.pointer (some ⟨B, 0, none⟩)] W fun e w' => e = .returned (.int .i64 S) ∧ W = w' from fun W hW => by
    have h := l09Width_any B a1 xs.length c1 xs 0 W (fun k hk => by have := Hsum.out k hk; omega) hW
    rw [hS] at h; exact h)
  clear hS
  go_wp2_with fail
  with_reducible refine (Hwd.out _ HT.out.twAt).mono ?_
  rintro e wq ⟨rfl, rfl⟩
  have hw1 : IntKind.i64.wrap (S - 1) = S - 1 := IntWalk.i64_in _ (by omega)
  go_wp2_with fail
  with_reducible refine (l00Max_any _ _ _).mono ?_
  rintro e wq ⟨rfl, rfl⟩
  obtain ⟨M, hM⟩ : ∃ M, max 1 (S - 1) = M := ⟨_, rfl⟩
  have hM1 : 1 ≤ M ∧ M ≤ 17 := by omega
  rw [hM]
  clear hM hw1
  go_wp2_with fail
  with_reducible refine (pick_any _ _ _ _ HT.out.src (by omega) (by omega)).mono ?_
  rintro e w5 ⟨z, rfl, hz0, hz1, _, hs5, hg5⟩
  replace hz1 := hz1 (by omega)
  replace HT := Lib.hid (HT.out.next hs5 hg5)
  clear hs5 hg5 Hwd
  have k0 := HT.out.cell0
  have k1 := HT.out.cell1
  have f1 := HT.out.fr 1
  have HT6 := Lib.hid (HT.out.put1 (1 + z))
  have d0 := HT6.out.cell0
  have d1 := HT6.out.cell1
  have hr := HT.out.res
  go_wp2_with fail
  obtain ⟨o0, o1, o2, o3, o4⟩ := HT6.out.out
  exact bodyPost_ret (v := .agg #[.slice a1 xs.length c1, .int .i64 (1 + z)]) (by simp [results, Tryd.results45, go_sem, o0, o1]) rfl ⟨_, xs, _, rfl, hx2, hx4, Hxs.out, o2, o3.mono (by omega), o4⟩

/-- a drawn twill -/
def DrawnT (w : World) (g K : Nat) (e : Ending) (w' : World) : Prop :=
  ∃ (v : Value) (xs : List Int) (st : Int), e = .returned (.agg #[v, .int .i64 st]) ∧ xs.length ≤ 12 ∧ Own w' w.heap.size w'.heap.size 2 v (ints xs) ∧ Src w' g K ∧ w.grownBy w' (some g)
set_option maxHeartbeats 4000000 in
theorem l09Draw_any (g K : Nat) (w : World) (h : Src w g K) (hK : K ≤ 90000) :
    Calls Tryd.prog 35 #[.pointer (some ⟨g, 0, none⟩)] w (DrawnT w g (K + 40)) := by
  have hgw := h.lt
  have hs := h.alloc (.cells #[.slice none 0 0, .int .i64 0] 28)
  have hg := World.grownBy_alloc w (.cells #[.slice none 0 0, .int .i64 0] 28) (some g)
  have hbr := Blk.box w [.slice none 0 0, .int .i64 0] 28 rfl
  go_enter Tryd.func35, Tryd.ntmps35
  go_wp2_with fail
  with_reducible refine (l09New_any _ _ _ hs (by omega)).mono ?_
  rintro e w1 ⟨v, xs, st, rfl, hx2, hx6, hxs, ho1, hs1, hg1⟩
  replace hg := gtrans hg hg1
  replace hbr := hbr.grown hg1 (by simp; omega)
  obtain ⟨a1, c1, rfl⟩ := owns_slice ho1.1
  have ho2 := owns_mono ho1.1 (show w.heap.size ≤ _ by simp)
  simp only [List.length_map] at ho2 ⊢
  obtain ⟨B, hB⟩ : ∃ B, w1.heap.size = B := ⟨_, rfl⟩
  have HT0 : Hid (TwB w g (K + 30) w.heap.size B (.slice a1 xs.length c1) (.slice a1 xs.length c1) xs st (w1.alloc (.cells #[.slice a1 xs.length c1, .int .i64 st] 28))) := Lib.hid (by
    have hbl := hbr.lt
    have hz := hg.size
    exact ⟨hs1.alloc _, gtrans hg (World.grownBy_alloc _ _ _), hbr.alloc _, Blk.box _ [_, _] _ hB.symm, ho2.alloc _, hgw, Nat.le_refl _, by omega, by omega⟩)
  clear ho1 ho2 hs hg hg1 hbr h
  go_wp2_with fail
  clear hB
  with_reducible refine (pick_any _ _ _ _ HT0.out.src (by omega) (by omega)).mono ?_
  rintro e w2 ⟨x, rfl, hx0, hx1, _, hs2, hg2⟩
  replace hx1 := hx1 (by omega)
  have HT := Lib.hid (HT0.out.next hs2 hg2)
  have Hsum := Lib.hid (small_sum hxs hx6)
  clear HT0 hs2 hg2 hs1
  by_cases e0 : x = 0
  · subst e0
    go_wp2_with fail
    obtain ⟨r, x0, x1, rfl, _, _, _, d0, _, fr0⟩ := HT.out.row hx2
    obtain ⟨n, hnn⟩ : ∃ n, xs.length = n := ⟨_, rfl⟩
    have Hnn := Lib.hid hnn
    rw [hnn] at hx2 hx6
    clear hnn d0 fr0
    have hi0 : 0 < n := by omega
    have hi0i : (0 : Int) < n := by omega
    refine wp_region_head (fun w' => w'.cell? ⟨B, 0, none⟩ = some (.slice (some ⟨r, 0, none⟩) n c1)) 5 (by kernel_rfl) (by decide) ?_
    replace HT := Lib.hid HT.out.drew
    have HS : Hid (w2.drew.cell? ⟨B, 0, none⟩ = some (.slice (some ⟨r, 0, none⟩) n c1)) := Lib.hid (HT.out.cell0.trans (by rw [Hnn.out]))
    generalize w2.drew = w2 at *
    refine wpHead_take (i := 0) (v := ?_) rfl (by kernel_rfl) (fun _ _ _ h => h) (Or.inl ⟨by rfl, ?_⟩) HS.out ?_
    rotate_left
    · intro w hSw; (try dsimp only at hSw); go_simp; (try with_reducible rfl)
    (try simp only [Act.put, List.setIfInBounds_toArray, List.set_cons_zero, List.set_cons_succ])
    refine wpHead_take (i := 2) (v := ?_) rfl (by kernel_rfl) (fun _ _ _ h => h) (Or.inl ⟨by rfl, ?_⟩) HS.out ?_
    rotate_left
    · intro w hSw; (try dsimp only at hSw); go_simp; (try with_reducible rfl)
    (try simp only [Act.put, List.setIfInBounds_toArray, List.set_cons_zero, List.set_cons_succ])
    refine wpHead_take (i := 1) (v := ?_) rfl (by kernel_rfl) (fun _ _ _ h => h) (Or.inl ⟨by rfl, ?_⟩) HS.out ?_
    rotate_left
    · intro w hSw; (try dsimp only at hSw); go_simp; (try with_reducible rfl)
    (try simp only [Act.put, List.setIfInBounds_toArray, List.set_cons_zero, List.set_cons_succ])
    refine wpHead_one (i := 3) (by kernel_rfl) (by decide) rfl (fun K hK => ?_)
    go_simp
    obtain ⟨L, hL⟩ : ∃ L : Obj, L = .cells #[.int .i64 (-1), .int .i64 0, .int .i64 1, .int .i64 11, .int .i64 12, .int .i64 13, .int .i64 (-9223372036854775808)] 2 := ⟨_, rfl⟩
    have HL := Lib.hid (show RV (w2.alloc L) (some ⟨w2.heap.size, 0, none⟩) 7 7 (ints [-1, 0, 1, 11, 12, 13, -9223372036854775808]) by subst hL; exact rv_lit _ _ _ rfl (by simp) (by simp [maxLen]))
    have HT3 := Lib.hid (HT.out.alloc L)
    have HS3 := Lib.hid (cell_keep HS.out L)
    have hzg := HT.out.src.lt
    subst hL
    refine hK.out _ _ HS3.out ?_
    clear hK K HT HS
    (try simp only [Act.put, List.setIfInBounds_toArray, List.set_cons_zero, List.set_cons_succ])
    refine wpHead_one (i := 4) (by kernel_rfl) (by decide) rfl (fun K hK => ?_)
    go_simp
    with_reducible refine (among_any _ _ _ _ _ _ _ HT3.out.src (by omega) (by omega) (by omega) HL.out (by intro b o hb; simp at hb; omega)).mono ?_
    rintro e w4 ⟨y, rfl, _, hs4, hg4⟩
    have HT4 := Lib.hid (HT3.out.next hs4 hg4)
    have HS4 := Lib.hid (HT4.out.cell0.trans (by rw [Hnn.out]))
    refine hK.out _ _ HS4.out ?_
    clear hK K HT3 HS3 hs4 hg4 HL
    (try simp only [Act.put, List.setIfInBounds_toArray, List.set_cons_zero, List.set_cons_succ])
    refine wpHead_done (by kernel_rfl) ?_
    simp only [List.drop_succ_cons, List.drop_zero]
    obtain ⟨r', x0', x1', hra, _, _, _, d0, _, fr0⟩ := HT4.out.row (by rw [Hnn.out]; exact hx2)
    simp only [Option.some.injEq, Addr.mk.injEq, and_true] at hra
    subst hra
    have HT5 := HT4.out.setRow 0 y
    rw [Hnn.out] at HT5
    have HT := Lib.hid HT5
    have hne := HT4.out.rne
    have k0 := HT4.out.cell0
    rw [Hnn.out] at k0
    have k1 := HT4.out.cell1
    have hr := HT4.out.res
    clear HT5
    go_wp2_with fail
    obtain ⟨o0, o1, o2, o3, o4⟩ := HT.out.out
    exact bodyPost_ret (v := .agg #[.slice (some ⟨r, 0, none⟩) n c1, .int .i64 st]) (by simp [results, Tryd.results35, go_sem, o0, o1]) rfl ⟨_, xs.set 0 y, _, rfl, by rw [List.length_set, Hnn.out]; omega, o2, o3.mono (by omega), o4⟩
  by_cases e1 : x = 1
  · subst e1
    obtain ⟨S, hS⟩ : ∃ S, lsum xs xs.length = S := ⟨_, rfl⟩
    have hS0 : 0 ≤ S ∧ S ≤ 18 := by rw [← hS]; exact Hsum.out _ (Nat.le_refl _)
    have Hwd := Lib.hid (show ∀ W, TwAt W B a1 xs.length c1 xs st → Calls Tryd.prog 54 #[.pointer (some ⟨B, 0, none⟩)] W fun e w' => e = .returned (.int .i64 S) ∧ W = w' from fun W hW => by
      have h := l09Width_any B a1 xs.length c1 xs st W (fun k hk => by have := Hsum.out k hk; omega) hW
      rw [hS] at h; exact h)
    clear hS
    go_wp2_with fail
    with_reducible refine (Hwd.out _ HT.out.twAt).mono ?_
    rintro e wq ⟨rfl, rfl⟩
    go_wp2_with fail
    with_reducible refine (Hwd.out _ HT.out.twAt).mono ?_
    rintro e wq ⟨rfl, rfl⟩
    obtain ⟨L, hL⟩ : ∃ L : Obj, L = .cells #[.int .i64 (-1), .int .i64 0, .int .i64 1, .int .i64 (S - 1), .int .i64 S] 2 := ⟨_, rfl⟩
    have HL := Lib.hid (show RV (w2.alloc L) (some ⟨w2.heap.size, 0, none⟩) 5 5 (ints [-1, 0, 1, S - 1, S]) by subst hL; exact rv_lit _ _ _ rfl (by simp) (by simp [maxLen]))
    have HT3 := Lib.hid (HT.out.alloc L)
    have hzg := HT.out.src.lt
    subst hL
    clear HT
    go_wp2_with fail
    with_reducible refine (among_any _ _ _ _ _ _ _ HT3.out.src (by omega) (by omega) (by omega) HL.out (by intro b o hb; simp at hb; omega)).mono ?_
    rintro e w4 ⟨y, rfl, _, hs4, hg4⟩
    have HT := Lib.hid (HT3.out.next hs4 hg4)
    clear HT3 HL hs4 hg4
    have k0 := HT.out.cell0
    have k1 := HT.out.cell1
    have f0 := HT.out.fr 0
    have f1 := HT.out.fr 1
    have hr := HT.out.res
    have HT5 := Lib.hid (HT.out.put1 y)
    go_wp2_with fail
    obtain ⟨o0, o1, o2, o3, o4⟩ := HT5.out.out
    exact bodyPost_ret (v := .agg #[.slice a1 xs.length c1, .int .i64 y]) (by simp [results, Tryd.results35, go_sem, o0, o1]) rfl ⟨_, xs, _, rfl, by omega, o2, o3.mono (by omega), o4⟩
  by_cases e2 : x = 2
  · subst e2
    have k0 := HT.out.cell0
    have f0 := HT.out.fr 0
    have ho := HT.out.own.alloc (.cells #[.int .i64 1] 2)
    have hz := HT.out.size
    go_wp2_with (at_builtin; refine wpList_app1 rfl _ _ 26 rfl w.heap.size 2 _ 8 Tryd.underlying26 info_i64 (by decide) rfl _ xs.length _ rfl ho w2.heap.size (.int .i64 1) rfl ?c1 rfl ?c2 ?c3 ?_)
    case c1 => exact cell_boxed rfl
    case c2 => omega
    case c3 => simp; omega
    intro v7 w7 ho7 hg7
    obtain ⟨a7, c7, rfl⟩ := owns_slice ho7
    have happ := (HT.out.alloc (.cells #[.int .i64 1] 2)).app (v' := .slice a7 (xs.length + 1) c7) (ys := xs ++ [1]) (by simpa using ho7) hg7
    clear k0 f0 ho hz ho7 hg7
    replace HT := Lib.hid happ
    clear happ
    have k0 := HT.out.cell0
    have k1 := HT.out.cell1
    have f0 := HT.out.fr 0
    have f1 := HT.out.fr 1
    have hr := HT.out.res
    have HT5 := Lib.hid HT.out.put0
    go_wp2_with fail
    obtain ⟨o0, o1, o2, o3, o4⟩ := HT5.out.out
    exact bodyPost_ret (v := .agg #[.slice a7 (xs.length + 1) c7, .int .i64 st]) (by simp [results, Tryd.results35, go_sem, o0, o1]) rfl ⟨_, xs ++ [1], _, rfl, by simp; omega, o2, o3.mono (by omega), o4⟩
  by_cases e3 : x = 3
  · subst e3
    replace HT := Lib.hid (HT.out.fresh [] (cs := #[]) rfl (n := 0) rfl (by simp [maxLen]))
    have k0 := HT.out.cell0
    have k1 := HT.out.cell1
    have f0 := HT.out.fr 0
    have f1 := HT.out.fr 1
    have hr := HT.out.res
    have HT5 := Lib.hid HT.out.put0
    go_wp2_with fail
    obtain ⟨o0, o1, o2, o3, o4⟩ := HT5.out.out
    exact bodyPost_ret (v := .agg #[.slice (some ⟨w2.heap.size, 0, none⟩) 0 0, .int .i64 st]) (by simp [results, Tryd.results35, go_sem, o0, o1]) rfl ⟨_, [], _, rfl, by simp, o2, o3.mono (by omega), o4⟩
  by_cases e4 : x = 4
  · subst e4
    replace HT := Lib.hid (HT.out.fresh [1, 1, 1, 1, 1, 1, 1, 1, 1, 1, 1, 1] (cs := #[.int .i64 1, .int .i64 1, .int .i64 1, .int .i64 1, .int .i64 1, .int .i64 1, .int .i64 1, .int .i64 1, .int .i64 1, .int .i64 1, .int .i64 1, .int .i64 1]) rfl (n := 12) rfl (by simp [maxLen]))
    have k0 := HT.out.cell0
    have k1 := HT.out.cell1
    have f0 := HT.out.fr 0
    have f1 := HT.out.fr 1
    have hr := HT.out.res
    have HT5 := Lib.hid HT.out.put0
    go_wp2_with fail
    obtain ⟨o0, o1, o2, o3, o4⟩ := HT5.out.out
    exact bodyPost_ret (v := .agg #[.slice (some ⟨w2.heap.size, 0, none⟩) 12 12, .int .i64 st]) (by simp [results, Tryd.results35, go_sem, o0, o1]) rfl ⟨_, [1, 1, 1, 1, 1, 1, 1, 1, 1, 1, 1, 1], _, rfl, by simp, o2, o3.mono (by omega), o4⟩
  have b0 : (x == 0) = false := by simp [e0]
  have b1 : (x == 1) = false := by simp [e1]
  have b2 : (x == 2) = false := by simp [e2]
  have b3 : (x == 3) = false := by simp [e3]
  have b4 : (x == 4) = false := by simp [e4]
  have k0 := HT.out.cell0
  have k1 := HT.out.cell1
  have f0 := HT.out.fr 0
  have f1 := HT.out.fr 1
  have hr := HT.out.res
  go_wp2_with fail
  obtain ⟨o0, o1, o2, o3, o4⟩ := HT.out.out
  exact bodyPost_ret (v := .agg #[.slice a1 xs.length c1, .int .i64 st]) (by simp [results, Tryd.results35, go_sem, o0, o1]) rfl ⟨_, xs, _, rfl, by omega, o2, o3.mono (by omega), o4⟩
end Go.Proofs.YtggbnibdpkblgaaDoor
