/-
  Two drawn twills: any two, or one and its turn.
-/
import Derived.Test.YtggbnibdpkblgaaDoorStrokeDraw
import Derived.Test.YtggbnibdpkblgaaDoorTwillDraw3
import Derived.Test.YtggbnibdpkblgaaDoorShapedAnd
namespace Go.Proofs.YtggbnibdpkblgaaDoor
open Go Go.RowKit
set_option linter.unusedVariables false
set_option maxRecDepth 100000

/-- one twill in its box, the source that drew it, and the boxes of two results -/
def SE (w : World) (lo g rb A K : Nat) (va : Value) (xs : List Int) (st : Int) (W : World) : Prop :=
  Src W g K ∧ Below w.heap.size w W ∧ Blk W rb [.slice none 0 0, .int .i64 0] 28 ∧ Blk W (rb + 1) [.slice none 0 0, .int .i64 0] 28 ∧ Blk W A [va, .int .i64 st] 28 ∧ Own W lo (A + 1) 2 va (ints xs) ∧ g < lo ∧ w.heap.size ≤ rb ∧ rb + 1 < g ∧ lo ≤ A ∧ A + 1 ≤ W.heap.size
theorem wpHead_three {P : Program} {Q : Exit → Act → World → Prop} {md : Region.Mode} {S : World → Prop} {n : Nat} {L : Act → World → Prop} {l : List Oper} {i j k : Nat} {oi oj ok : Oper} {f : Nat} {listed : Array Bool} {a : Act} {w : World} (hr : Region.ready md l.toArray listed = [i, j, k]) (hin : i < n) (hjn : j < n) (hkn : k < n) (hi : l[i]? = some oi) (hj : l[j]? = some oj) (hk : l[k]? = some ok)
    (h1 : ∀ K' : Act → World → Prop, Shut (∀ a w, S w → wpHead P md l.toArray Q S n L f (listed.setIfInBounds i true) a w → K' a w) → if Region.wanted oi (yielded l.toArray a.tmps) = true then Oper.wp P oi a w K' Q else K' (a.put oi.dst undef) w)
    (h2 : ∀ K' : Act → World → Prop, Shut (∀ a w, S w → wpHead P md l.toArray Q S n L f (listed.setIfInBounds j true) a w → K' a w) → if Region.wanted oj (yielded l.toArray a.tmps) = true then Oper.wp P oj a w K' Q else K' (a.put oj.dst undef) w)
    (h3 : ∀ K' : Act → World → Prop, Shut (∀ a w, S w → wpHead P md l.toArray Q S n L f (listed.setIfInBounds k true) a w → K' a w) → if Region.wanted ok (yielded l.toArray a.tmps) = true then Oper.wp P ok a w K' Q else K' (a.put ok.dst undef) w) : wpHead P md l.toArray Q S n L (f + 1) listed a w := by
  refine ⟨by rw [hr]; simp, fun q hq => ?_⟩
  rw [hr] at hq
  simp only [List.mem_cons, List.not_mem_nil, or_false] at hq
  rcases hq with rfl | rfl | rfl
  · exact ⟨hin, wpOp_step (by simpa using hi) (fun K' hK => h1 K' (fun a w hS hW => hK a w ⟨hS, hW⟩))⟩
  · exact ⟨hjn, wpOp_step (by simpa using hj) (fun K' hK => h2 K' (fun a w hS hW => hK a w ⟨hS, hW⟩))⟩
  · exact ⟨hkn, wpOp_step (by simpa using hk) (fun K' hK => h3 K' (fun a w hS hW => hK a w ⟨hS, hW⟩))⟩
section
variable {w W W' : World} {lo g rb A K K' : Nat} {va : Value} {xs : List Int} {st : Int}
theorem SE.src (h : SE w lo g rb A K va xs st W) : Src W g K := h.1
theorem SE.top (h : SE w lo g rb A K va xs st W) : A + 1 ≤ W.heap.size := h.2.2.2.2.2.2.2.2.2.2
theorem SE.size (h : SE w lo g rb A K va xs st W) : w.heap.size ≤ W.heap.size := h.2.1.size
theorem SE.next (h : SE w lo g rb A K va xs st W) (hs : Src W' g K') (hg : W.grownBy W' (some g)) : SE w lo g rb A K' va xs st W' := by
  obtain ⟨h1, h2, h3, h4, h5, h6, h7, h8, h9, h10, h11⟩ := h
  exact ⟨hs, h2.grown hg h2.size (by intro k hk; simp at hk; omega), h3.grown hg (by simp; omega), h4.grown hg (by simp; omega), h5.grown hg (by simp; omega), h6.kept hg (by intro k hk; simp at hk; omega), h7, h8, h9, h10, Nat.le_trans h11 hg.size⟩
theorem SE.below (h : SE w lo g rb A K va xs st W) (hb : Below W.heap.size W W') : SE w lo g rb A K va xs st W' := h.next (h.1.kept hb) (gbelow hb _)
theorem SE.app {H n : Nat} {v : Value} {vs : List Value} (h : SE w lo g rb A K va xs st W) (ho : W.ownsRow H 2 1 v n vs) (hH : A + 1 ≤ H) (hg : W.grownBy W' v.ownBlock) : SE w lo g rb A K va xs st W' := by
  obtain ⟨h1, h2, h3, h4, h5, h6, h7, h8, h9, h10, h11⟩ := h
  have hlo : ∀ k, v.ownBlock = some k → H ≤ k := fun k hk => (ho.lt k hk).1
  have hB : Below lo W W' := (Below.refl _ _).grown hg (by omega) (fun k hk => by have := hlo k hk; omega)
  exact ⟨h1.keptB hB h7, h2.grown hg h2.size (fun k hk => by have := hlo k hk; omega), h3.grown hg (owns_noblk' ho h3 (by decide)).symm, h4.grown hg (owns_noblk' ho h4 (by decide)).symm, h5.grown hg (owns_noblk' ho h5 (by decide)).symm, h6.kept hg (fun k hk => by have := hlo k hk; omega), h7, h8, h9, h10, Nat.le_trans h11 hg.size⟩
theorem SE.facts (h : SE w lo g rb A K va xs st W) : (W.cell? ⟨A, 0, none⟩ = some va ∧ W.cell? ⟨A, 1, none⟩ = some (.int .i64 st)) ∧
    (W.cell? ⟨rb, 0, none⟩ = some (.slice none 0 0) ∧ W.cell? ⟨rb, 1, none⟩ = some (.int .i64 0) ∧ W.frozen? ⟨rb, 0, none⟩ = false ∧ W.frozen? ⟨rb, 1, none⟩ = false ∧ W.cell? ⟨rb + 1, 0, none⟩ = some (.slice none 0 0) ∧ W.cell? ⟨rb + 1, 1, none⟩ = some (.int .i64 0) ∧ W.frozen? ⟨rb + 1, 0, none⟩ = false ∧ W.frozen? ⟨rb + 1, 1, none⟩ = false) ∧
    (rb < W.heap.size ∧ rb + 1 < W.heap.size ∧ rb ≠ A ∧ rb + 1 ≠ A) := by
  obtain ⟨h1, h2, h3, h4, h5, h6, h7, h8, h9, h10, h11⟩ := h
  exact ⟨⟨h5.cell 0 _ rfl, h5.cell 1 _ rfl⟩, ⟨h3.cell 0 _ rfl, h3.cell 1 _ rfl, h3.frozen 0, h3.frozen 1, h4.cell 0 _ rfl, h4.cell 1 _ rfl, h4.frozen 0, h4.frozen 1⟩, h3.lt, h4.lt, by omega, by omega⟩
theorem SE.twAt {n c : Nat} {a : Option Addr} (h : SE w lo g rb A K (.slice a n c) xs st W) : TwAt W A a n c xs st := ⟨h.facts.1.1, h.facts.1.2, h.2.2.2.2.2.1.rv⟩
/-- the row's first two numbers, and what is behind them -/
theorem SE.row {n c : Nat} {a : Option Addr} (h : SE w lo g rb A K (.slice a n c) xs st W) (h2 : 2 ≤ xs.length) : ∃ r x0 x1, a = some ⟨r, 0, none⟩ ∧ n = xs.length ∧ n ≤ c ∧ c ≤ maxLen ∧ xs.take 2 = [x0, x1] ∧ W.cell? ⟨r, 0, none⟩ = some (.int .i64 x0) ∧ W.cell? ⟨r, 1, none⟩ = some (.int .i64 x1) := by
  obtain ⟨h1, h2', h3, h4, h5, ho, _⟩ := h
  have hr := ho.rv
  have hn := hr.lenI
  have ho1 := ho.1
  rw [List.length_map, hn] at ho1
  rcases ho1.2 with ⟨_, h0⟩ | ⟨g', cap, cur, hv, _⟩
  · omega
  · simp only [Value.slice.injEq] at hv
    obtain ⟨rfl, _, rfl⟩ := hv
    have c0 := ho1.cellAt 0 (by omega)
    have c1 := ho1.cellAt 1 (by omega)
    obtain ⟨x0, x1, ys, rfl⟩ : ∃ x0 x1 ys, xs = x0 :: x1 :: ys := by
      match xs, h2 with
      | x0 :: x1 :: ys, _ => exact ⟨x0, x1, ys, rfl⟩
    exact ⟨_, x0, x1, rfl, hn.symm, hr.2.1, hr.2.2.1, rfl, c0, c1⟩
theorem se_cells {r n c : Nat} {x0 x1 : Int} (h : SE w lo g rb A K (.slice (some ⟨r, 0, none⟩) n c) xs st W) (hx : xs.take 2 = [x0, x1]) (h2 : 2 ≤ xs.length) :
    W.cell? ⟨A, 0, none⟩ = some (.slice (some ⟨r, 0, none⟩) n c) ∧ W.cell? ⟨A, 1, none⟩ = some (.int .i64 st) ∧ W.cell? ⟨r, 0, none⟩ = some (.int .i64 x0) ∧ W.cell? ⟨r, 1, none⟩ = some (.int .i64 x1) := by
  obtain ⟨r', y0, y1, ha, _, _, _, hy, c0, c1⟩ := h.row h2
  simp only [Option.some.injEq, Addr.mk.injEq, and_true] at ha
  subst ha
  rw [hx] at hy
  simp only [List.cons.injEq, and_true] at hy
  obtain ⟨rfl, rfl⟩ := hy
  exact ⟨h.facts.1.1, h.facts.1.2, c0, c1⟩
theorem SE.tail {r n c : Nat} (h : SE w lo g rb A K (.slice (some ⟨r, 0, none⟩) n c) xs st W) (h2 : 2 ≤ xs.length) : RV W (some ⟨r, 2, none⟩) (n - 2) (c - 2) (ints (xs.drop 2)) := by
  obtain ⟨h1, h2', h3, h4, h5, ho, _⟩ := h
  have hr := ho.rv
  have hn := hr.lenI
  obtain ⟨b, o, ha, hlt, hc⟩ := hr.cellv (by omega)
  simp only [Option.some.injEq, Addr.mk.injEq, and_true] at ha
  obtain ⟨rfl, rfl⟩ := ha
  refine ⟨by simp; omega, by have := hr.2.1; omega, by have := hr.2.2.1; omega, .inr ⟨r, 2, rfl, hlt, fun i u hu => hc (2 + i) u ?_ |> fun h => by simpa using h⟩⟩
  rw [List.getElem?_map, List.getElem?_drop] at hu
  rw [List.getElem?_map]; exact hu
/-- the results are stored -/
theorem fin_gen {va vb : Value} {n m : Nat} {us vs : List Value} {a b : Int} (h2 : Below w.heap.size w W) (h3 : Blk W rb [.slice none 0 0, .int .i64 0] 28) (h4 : Blk W (rb + 1) [.slice none 0 0, .int .i64 0] 28) (oa : W.ownsRow w.heap.size 2 1 va n us) (ob : W.ownsRow w.heap.size 2 1 vb m vs) (h11 : w.heap.size ≤ rb)
    (hW : W' = (((W.setCell ⟨rb, 0, none⟩ va).setCell ⟨rb, 1, none⟩ (.int .i64 a)).setCell ⟨rb + 1, 0, none⟩ vb).setCell ⟨rb + 1, 1, none⟩ (.int .i64 b)) :
    (W'.cell? ⟨rb, 0, none⟩ = some va ∧ W'.cell? ⟨rb, 1, none⟩ = some (.int .i64 a) ∧ W'.cell? ⟨rb + 1, 0, none⟩ = some vb ∧ W'.cell? ⟨rb + 1, 1, none⟩ = some (.int .i64 b)) ∧ W'.ownsRow w.heap.size 2 1 va n us ∧ W'.ownsRow w.heap.size 2 1 vb m vs ∧ Below w.heap.size w W' := by
  have na3 := owns_noblk' oa h3 (by decide)
  have na4 := owns_noblk' oa h4 (by decide)
  have nb3 := owns_noblk' ob h3 (by decide)
  have nb4 := owns_noblk' ob h4 (by decide)
  have n1 : rb ≠ rb + 1 := by omega
  have n2 : rb + 1 ≠ rb := by omega
  have a1 := h3.set 0 va
  have b1 := h4.other n2 (i := 0) va
  have c1 := owns_setT oa na3 0 va
  have d1 := owns_setT ob nb3 0 va
  have e1 := h2.setCell (p := ⟨rb, 0, none⟩) h11 va
  clear h2 h3 h4 oa ob
  generalize W.setCell ⟨rb, 0, none⟩ va = w1 at *
  have a2 := a1.set 1 (.int .i64 a)
  have b2 := b1.other n2 (i := 1) (.int .i64 a)
  have c2 := owns_setT c1 na3 1 (.int .i64 a)
  have d2 := owns_setT d1 nb3 1 (.int .i64 a)
  have e2 := e1.setCell (p := ⟨rb, 1, none⟩) h11 (.int .i64 a)
  clear a1 b1 c1 d1 e1
  generalize w1.setCell ⟨rb, 1, none⟩ (.int .i64 a) = w2 at *
  have a3 := a2.other n1 (i := 0) vb
  have b3 := b2.set 0 vb
  have c3 := owns_setT c2 na4 0 vb
  have d3 := owns_setT d2 nb4 0 vb
  have e3 := e2.setCell (p := ⟨rb + 1, 0, none⟩) (show w.heap.size ≤ rb + 1 by omega) vb
  clear a2 b2 c2 d2 e2
  generalize w2.setCell ⟨rb + 1, 0, none⟩ vb = w3 at *
  have a4 := a3.other n1 (i := 1) (.int .i64 b)
  have b4 := b3.set 1 (.int .i64 b)
  have c4 := owns_setT c3 na4 1 (.int .i64 b)
  have d4 := owns_setT d3 nb4 1 (.int .i64 b)
  have e4 := e3.setCell (p := ⟨rb + 1, 1, none⟩) (show w.heap.size ≤ rb + 1 by omega) (.int .i64 b)
  clear a3 b3 c3 d3 e3
  generalize w3.setCell ⟨rb + 1, 1, none⟩ (.int .i64 b) = w4 at *
  subst hW
  exact ⟨⟨a4.cell 0 _ rfl, a4.cell 1 _ rfl, b4.cell 0 _ rfl, b4.cell 1 _ rfl⟩, c4, d4, e4⟩
end

set_option maxHeartbeats 8000000 in
theorem DrawSameFace_any (p : Option Addr) (n c : Nat) (xs : List Int) (w : World) (hr : RV w p n c (xs.map (.int .u8))) (hb : ∀ x ∈ xs, 0 ≤ x ∧ x ≤ 255) :
    Calls Tryd.prog 14 #[.slice p n c] w fun e w' => ∃ (va vb : Value) (ys zs : List Int) (st st' : Int), e = .returned (.tuple #[.agg #[va, .int .i64 st], .agg #[vb, .int .i64 st']]) ∧ Own w' w.heap.size w'.heap.size 2 va (ints ys) ∧ Own w' w.heap.size w'.heap.size 2 vb (ints zs) ∧ Below w.heap.size w w' := by
  have hB := ((Below.refl w.heap.size w).alloc (Nat.le_refl _) (.cells #[.slice none 0 0, .int .i64 0] 28)).alloc (by simp) (.cells #[.slice none 0 0, .int .i64 0] 28)
  have hb_R : Blk ((w.alloc (.cells #[.slice none 0 0, .int .i64 0] 28)).alloc (.cells #[.slice none 0 0, .int .i64 0] 28)) w.heap.size [.slice none 0 0, .int .i64 0] 28 := (Blk.box w [.slice none 0 0, .int .i64 0] 28 rfl).alloc _
  have hb_S : Blk ((w.alloc (.cells #[.slice none 0 0, .int .i64 0] 28)).alloc (.cells #[.slice none 0 0, .int .i64 0] 28)) (w.heap.size + 1) [.slice none 0 0, .int .i64 0] 28 := Blk.box (w.alloc (.cells #[.slice none 0 0, .int .i64 0] 28)) [.slice none 0 0, .int .i64 0] 28 (by simp)
  replace hr := hr.below hB
  go_enter Tryd.func14, Tryd.ntmps14
  go_wp2_with fail
  with_reducible refine (l00From_any _ _ _ _ _ hr hb).mono ?_
  rintro e w1 ⟨rfl, hs, hB1⟩
  have hz1 := hB1.size
  have hz0 : w.heap.size + 1 < w1.heap.size := by simp at hz1; omega
  replace hb_R := hb_R.below hB1
  replace hb_S := hb_S.below hB1
  replace hB := hB.trans (hB1.mono (by simp; omega))
  clear hB1 hr hz1
  simp only [World.size_alloc] at hs
  obtain ⟨G, hG⟩ : ∃ G, w.heap.size + 1 + 1 = G := ⟨_, rfl⟩
  rw [hG] at hs
  have hgl := hs.lt
  have hGw : w.heap.size + 1 < G := by omega
  go_wp2_with fail
  with_reducible refine (l09Draw_any _ _ _ hs (by omega)).mono ?_
  rintro e w2 ⟨v, ys, st, rfl, hl, ho, hs2, hg⟩
  obtain ⟨a, c1, rfl, _⟩ := ho.sliceI
  obtain ⟨A, hA⟩ : ∃ A, w2.heap.size = A := ⟨_, rfl⟩
  have HE : Hid (SE w w1.heap.size G w.heap.size A 40 (.slice a ys.length c1) ys st (w2.alloc (.cells #[.slice a ys.length c1, .int .i64 st] 28))) := Lib.hid (by
    have hg2 := hg.size
    have h2 := hB.grown hg hB.size (by intro k hk; simp at hk; omega)
    have hO := (ho.below ((Below.refl _ _).alloc (Nat.le_refl _) (.cells #[.slice a ys.length c1, .int .i64 st] 28))).mono (Nat.le_refl _) (show w2.heap.size ≤ A + 1 by omega)
    exact ⟨hs2.alloc _, h2.alloc h2.size _, (hb_R.grown hg (by simp; omega)).alloc _, (hb_S.grown hg (by simp; omega)).alloc _, Blk.box _ [_, _] _ hA.symm, hO, hgl, Nat.le_refl _, hGw, by omega, by simp [hA]⟩)
  have hlo : w1.heap.size ≤ A := by have := hg.size; omega
  clear hg ho hs hs2 hb_R hb_S hB
  go_wp2_with fail
  clear hA hG
  with_reducible refine (one_any _ _ _ _ HE.out.src (by omega) (by omega)).mono ?_
  rintro e w3 ⟨b1, rfl, hs3, hg3⟩
  replace HE := Lib.hid (HE.out.next hs3 hg3)
  clear hs3 hg3
  cases b1
  · have Hok := Lib.hid (fun W h => l09Ok_any A a ys.length c1 ys st W h)
    cases hv : vTwill ys st
    · rw [hv] at Hok
      clear hv
      go_wp2_with fail
      with_reducible refine (Hok.out _ HE.out.twAt).mono ?_
      rintro e w4 ⟨rfl, qq, hq⟩
      replace HE := Lib.hid (HE.out.below (below_of_drewN' hq))
      clear hq Hok
      go_wp2_with fail
      refine wp_region_head (fun w' => w'.cell? ⟨A, 0, none⟩ = some (.slice a ys.length c1) ∧ w'.cell? ⟨A, 1, none⟩ = some (.int .i64 st)) 3 (by kernel_rfl) (by decide) ?_
      replace HE := Lib.hid (HE.out.below (bdrewN (Below.refl _ _) 1))
      obtain ⟨wq, hwq⟩ : ∃ x : World, x = w4.drew := ⟨_, rfl⟩
      have HE' : Hid (SE w w1.heap.size G w.heap.size A 42 (.slice a ys.length c1) ys st wq) := by rw [hwq]; exact HE
      rw [← hwq]
      clear hwq HE
      have HE := HE'
      clear HE'
      have HS := Lib.hid HE.out.facts.1
      refine wpHead_take (i := 0) (v := ?_) rfl (by kernel_rfl) (fun _ _ _ h => h) (Or.inl ⟨by rfl, ?_⟩) HS.out ?_
      rotate_left
      · intro w hSw; (try dsimp only at hSw); go_simp; (try with_reducible rfl)
      (try simp only [Act.put, List.setIfInBounds_toArray, List.set_cons_zero, List.set_cons_succ])
      refine wpHead_take (i := 1) (v := ?_) rfl (by kernel_rfl) (fun _ _ _ h => h) (Or.inl ⟨by rfl, ?_⟩) HS.out ?_
      rotate_left
      · intro w hSw; (try dsimp only at hSw); go_simp; (try with_reducible rfl)
      (try simp only [Act.put, List.setIfInBounds_toArray, List.set_cons_zero, List.set_cons_succ])
      refine wpHead_one (i := 2) (by kernel_rfl) (by decide) rfl (fun K hK => ?_)
      go_simp
      with_reducible refine (l09New_any _ _ _ HE.out.src (by omega)).mono ?_
      rintro e w5 ⟨v5, zs, st5, rfl, _, _, _, ho5, hs5, hg5⟩
      obtain ⟨a5, c5, rfl, _⟩ := ho5.sliceI
      have HE5 := Lib.hid (HE.out.next hs5 hg5)
      have HS5 := Lib.hid HE5.out.facts.1
      have hzq := HE.out.size
      refine hK.out _ _ HS5.out ?_
      clear hK K HE HS hs5 hg5
      (try simp only [Act.put, List.setIfInBounds_toArray, List.set_cons_zero, List.set_cons_succ])
      refine wpHead_done (by kernel_rfl) ?_
      simp only [List.drop_succ_cons, List.drop_zero]
      obtain ⟨_, ⟨q0, q1, q2, q3, q4, q5, q6, q7⟩, ⟨n1, n2, n3, n4⟩⟩ := HE5.out.facts
      go_wp2_with fail
      obtain ⟨h1, h2, h3, h4, h5, h6, h7, h8, h9, h10, h11⟩ := HE5.out
      obtain ⟨⟨o0, o1, o2, o3⟩, p1, p2, p3⟩ := fin_gen h2 h3 h4 (owns_mono h6.1 (show w.heap.size ≤ _ by omega)) (owns_mono ho5.1 hzq) (Nat.le_refl _) (a := st) (b := st5) rfl
      exact bodyPost_ret (v := .tuple #[.agg #[.slice a ys.length c1, .int .i64 st], .agg #[.slice a5 zs.length c5, .int .i64 st5]]) (by simp [results, Tryd.results14, go_sem, o0, o1, o2, o3]) rfl ⟨_, _, _, _, _, _, rfl, Own.of p1, Own.of p2, p3⟩
    · rw [hv] at Hok
      have hy2 : 2 ≤ ys.length := (vTwill_iff hv).2.1
      clear hv
      go_wp2_with fail
      with_reducible refine (Hok.out _ HE.out.twAt).mono ?_
      rintro e w4 ⟨rfl, qq, hq⟩
      replace HE := Lib.hid (HE.out.below (below_of_drewN' hq))
      clear hq Hok
      go_upto_region 7 with fail
      obtain ⟨r, x0, x1, rfl, _, hnc, hcm, Hx01, _⟩ := HE.out.row hy2
      obtain ⟨N, hN⟩ : ∃ N, ys.length = N := ⟨_, rfl⟩
      have HN := Lib.hid hN
      rw [hN] at hl hy2 hnc HE ⊢
      clear hN
      go_cut [6] (fun s6 wx => ∃ (B : Nat) (vb : Value) (zs : List Int), s6 = .pointer (some ⟨B, 0, none⟩) ∧ Hid (SD w w1.heap.size (A + 1) G w.heap.size A B 60 (.slice (some ⟨r, 0, none⟩) N c1) vb vb ys zs st st wx))
      case first => as_aux_lemma =>
        refine wp_region_head (fun w' => w'.cell? ⟨A, 0, none⟩ = some (.slice (some ⟨r, 0, none⟩) N c1) ∧ w'.cell? ⟨A, 1, none⟩ = some (.int .i64 st) ∧ w'.cell? ⟨r, 0, none⟩ = some (.int .i64 x0) ∧ w'.cell? ⟨r, 1, none⟩ = some (.int .i64 x1)) 18 (by kernel_rfl) (by decide) ?_
        have HE0 : Hid (SE w w1.heap.size G w.heap.size A 42 (.slice (some ⟨r, 0, none⟩) N c1) ys st w4.drew) := Lib.hid (HE.out.below (bdrewN (Below.refl _ _) 1))
        obtain ⟨u0, hu0⟩ : ∃ x : World, x = w4.drew := ⟨_, rfl⟩
        rw [← hu0] at HE0 ⊢
        clear hu0 HE
        have HS := Lib.hid (se_cells HE0.out Hx01 (by rw [HN.out]; exact hy2))
        have hi0 : (0 : Int) < N := by omega
        have hi1 : (1 : Int) < N := by omega
        have hi2 : (2 : Int) ≤ N := by omega
        have hi0' : 0 < N := by omega
        have hi1' : 1 < N := by omega
        have hi3 : (N : Int) ≤ c1 := by omega
        have Hown := Lib.hid (fun u (h : RV u (some ⟨r, 2, none⟩) (N - 2) (c1 - 2) (ints (ys.drop 2))) => l00OwnT_any (some ⟨r, 2, none⟩) (N - 2) (c1 - 2) (ys.drop 2) u (by omega) (by intro h; cases h) h)
        refine wpHead_take (i := 0) (v := ?_) rfl (by kernel_rfl) (fun _ _ _ h => h) (Or.inl ⟨by rfl, ?_⟩) HS.out ?_
        rotate_left
        · intro w hSw; (try dsimp only at hSw); go_simp; (try with_reducible rfl)
        (try simp only [Act.put, List.setIfInBounds_toArray, List.set_cons_zero, List.set_cons_succ])
        refine wpHead_take (i := 4) (v := ?_) rfl (by kernel_rfl) (fun _ _ _ h => h) (Or.inl ⟨by rfl, ?_⟩) HS.out ?_
        rotate_left
        · intro w hSw; (try dsimp only at hSw); go_simp; (try with_reducible rfl)
        (try simp only [Act.put, List.setIfInBounds_toArray, List.set_cons_zero, List.set_cons_succ])
        refine wpHead_take (i := 8) (v := ?_) rfl (by kernel_rfl) (fun _ _ _ h => h) (Or.inl ⟨by rfl, ?_⟩) HS.out ?_
        rotate_left
        · intro w hSw; (try dsimp only at hSw); go_simp; (try with_reducible rfl)
        (try simp only [Act.put, List.setIfInBounds_toArray, List.set_cons_zero, List.set_cons_succ])
        refine wpHead_take (i := 14) (v := ?_) rfl (by kernel_rfl) (fun _ _ _ h => h) (Or.inl ⟨by rfl, ?_⟩) HS.out ?_
        rotate_left
        · intro w hSw; (try dsimp only at hSw); go_simp; (try with_reducible rfl)
        (try simp only [Act.put, List.setIfInBounds_toArray, List.set_cons_zero, List.set_cons_succ])
        refine wpHead_take (i := 1) (v := ?_) rfl (by kernel_rfl) (fun _ _ _ h => h) (Or.inl ⟨by rfl, ?_⟩) HS.out ?_
        rotate_left
        · intro w hSw; (try dsimp only at hSw); go_simp; (try with_reducible rfl)
        (try simp only [Act.put, List.setIfInBounds_toArray, List.set_cons_zero, List.set_cons_succ])
        refine wpHead_take (i := 5) (v := ?_) rfl (by kernel_rfl) (fun _ _ _ h => h) (Or.inl ⟨by rfl, ?_⟩) HS.out ?_
        rotate_left
        · intro w hSw; (try dsimp only at hSw); go_simp; (try with_reducible rfl)
        (try simp only [Act.put, List.setIfInBounds_toArray, List.set_cons_zero, List.set_cons_succ])
        refine wpHead_take (i := 9) (v := ?_) rfl (by kernel_rfl) (fun _ _ _ h => h) (Or.inl ⟨by rfl, ?_⟩) HS.out ?_
        rotate_left
        · intro w hSw; (try dsimp only at hSw); go_simp; (try with_reducible rfl)
        (try simp only [Act.put, List.setIfInBounds_toArray, List.set_cons_zero, List.set_cons_succ])
        refine wpHead_take (i := 15) (v := ?_) rfl (by kernel_rfl) (fun _ _ _ h => h) (Or.inl ⟨by rfl, ?_⟩) HS.out ?_
        rotate_left
        · intro w hSw; (try dsimp only at hSw); go_simp; (try with_reducible rfl)
        (try simp only [Act.put, List.setIfInBounds_toArray, List.set_cons_zero, List.set_cons_succ])
        refine wpHead_take (i := 6) (v := ?_) rfl (by kernel_rfl) (fun _ _ _ h => h) (Or.inl ⟨by rfl, ?_⟩) HS.out ?_
        rotate_left
        · intro w hSw; (try dsimp only at hSw); go_simp; (try with_reducible rfl)
        (try simp only [Act.put, List.setIfInBounds_toArray, List.set_cons_zero, List.set_cons_succ])
        refine wpHead_take (i := 10) (v := ?_) rfl (by kernel_rfl) (fun _ _ _ h => h) (Or.inl ⟨by rfl, ?_⟩) HS.out ?_
        rotate_left
        · intro w hSw; (try dsimp only at hSw); go_simp; (try with_reducible rfl)
        (try simp only [Act.put, List.setIfInBounds_toArray, List.set_cons_zero, List.set_cons_succ])
        refine wpHead_take (i := 7) (v := ?_) rfl (by kernel_rfl) (fun _ _ _ h => h) (Or.inl ⟨by rfl, ?_⟩) HS.out ?_
        rotate_left
        · intro w hSw; (try dsimp only at hSw); go_simp; (try with_reducible rfl)
        (try simp only [Act.put, List.setIfInBounds_toArray, List.set_cons_zero, List.set_cons_succ])
        refine wpHead_take (i := 11) (v := ?_) rfl (by kernel_rfl) (fun _ _ _ h => h) (Or.inl ⟨by rfl, ?_⟩) HS.out ?_
        rotate_left
        · intro w hSw; (try dsimp only at hSw); go_simp; (try with_reducible rfl)
        (try simp only [Act.put, List.setIfInBounds_toArray, List.set_cons_zero, List.set_cons_succ])
        by_cases hc2 : c1 = 2
        · subst hc2
          obtain rfl : N = 2 := by omega
          refine wpHead_take (i := 2) (v := ?_) rfl (by kernel_rfl) (fun _ _ _ h => h) (Or.inl ⟨by rfl, ?_⟩) HS.out ?_
          rotate_left
          · intro w hSw; (try dsimp only at hSw); go_simp; (try with_reducible rfl)
          (try simp only [Act.put, List.setIfInBounds_toArray, List.set_cons_zero, List.set_cons_succ])
          obtain ⟨ds, Hds⟩ : ∃ ds : List Int, Hid (ds = []) := ⟨_, Lib.hid rfl⟩
          have hdl : ds.length ≤ 12 := by rw [Hds.out]; simp
          replace Hown := Lib.hid (fun u (h : SE w w1.heap.size G w.heap.size A 42 (.slice (some ⟨r, 0, none⟩) 2 2) ys st u) => show Calls Tryd.prog 46 #[.slice (some ⟨r, 0, none⟩) 0 0] u fun e w' => ∃ v : Value, e = .returned v ∧ Own w' u.heap.size w'.heap.size 2 v (ints ds) ∧ Below u.heap.size u w' by
            have h2 := l00OwnT_any (some ⟨r, 0, none⟩) 0 0 [] u (by omega) (by intro h; cases h) ⟨rfl, Nat.le_refl _, Nat.zero_le _, .inl rfl⟩
            rw [Hds.out]; exact h2)
          have HE := HE0
          clear HE0
          refine wpHead_three (i := 3) (j := 12) (k := 17) (by kernel_rfl) (by decide) (by decide) (by decide) rfl rfl rfl (fun K hK => ?_) (fun K hK => ?_) (fun K hK => ?_)
          · go_simp
            have hsz := HE.out.top
            with_reducible refine (Hown.out _ HE.out).mono ?_
            rintro e u1 ⟨vp, rfl, hop, hbp⟩
            obtain ⟨ap, cp, rfl, _⟩ := hop.sliceI
            replace HE := Lib.hid (HE.out.below hbp)
            have HP : Hid (u1.ownsRow (A + 1) 2 1 (.slice ap ds.length cp) ds.length (ints ds)) := Lib.hid (by have h := hop.1; rw [List.length_map] at h; exact owns_mono h hsz)
            replace HS := Lib.hid (se_cells HE.out Hx01 (by rw [HN.out]; exact hy2))
            refine hK.out _ _ HS.out ?_
            clear hK K hop hbp hsz
            (try simp only [Act.put, List.setIfInBounds_toArray, List.set_cons_zero, List.set_cons_succ])
            refine wpHead_two (i := 12) (j := 17) (by kernel_rfl) (by decide) (by decide) rfl rfl (fun K hK => ?_) (fun K hK => ?_)
            · go_simp
              have hbl := (Below.refl u1.heap.size u1).alloc (Nat.le_refl _) (.cells #[.int .i64 x0, .int .i64 x1] 2)
              have HL0 := rv_lit u1 [x0, x1] 2 (n := 2) (cs := #[.int .i64 x0, .int .i64 x1]) rfl rfl (by simp [maxLen])
              obtain ⟨u2, hu⟩ : ∃ x : World, x = u1.alloc (.cells #[.int .i64 x0, .int .i64 x1] 2) := ⟨_, rfl⟩
              rw [← hu] at hbl HL0 ⊢
              clear hu
              obtain ⟨Lb, hLb⟩ : ∃ b, u1.heap.size = b := ⟨_, rfl⟩
              rw [hLb] at HL0 ⊢
              clear hLb
              have HL := Lib.hid HL0
              replace HE := Lib.hid (HE.out.below hbl)
              replace HP := Lib.hid (owns_below HP.out hbl)
              replace HS := Lib.hid (se_cells HE.out Hx01 (by rw [HN.out]; exact hy2))
              refine hK.out _ _ HS.out ?_
              clear hK K hbl HL0
              (try simp only [Act.put, List.setIfInBounds_toArray, List.set_cons_zero, List.set_cons_succ])
              refine wpHead_two (i := 13) (j := 17) (by kernel_rfl) (by decide) (by decide) rfl rfl (fun K hK => ?_) (fun K hK => ?_)
              · refine step_appN rfl _ _ 26 rfl (A + 1) 2 _ 8 Tryd.underlying26 info_i64 (by decide) rfl (.slice ap ds.length cp) ds.length (ints ds) rfl HP.out (some ⟨Lb, 0, none⟩) 2 2 (ints [x0, x1]) rfl HL.out (by intro h; cases h) (by intro u hu; obtain ⟨z, _, rfl⟩ := List.mem_map.1 hu; rfl) (by omega) HE.out.top ?_
                intro v7 u3 ho7 hg7 _
                obtain ⟨a7, c7, rfl⟩ := owns_slice ho7
                replace HE := Lib.hid (HE.out.app HP.out (Nat.le_refl _) hg7)
                have HO : Hid (u3.ownsRow (A + 1) 2 1 (.slice a7 (ds.length + 2) c7) (ds.length + 2) (ints (ds ++ [x0, x1]))) := Lib.hid (by simpa using ho7)
                replace HS := Lib.hid (se_cells HE.out Hx01 (by rw [HN.out]; exact hy2))
                refine hK.out _ _ HS.out ?_
                clear hK K HP HL hg7 ho7
                (try simp only [Act.put, List.setIfInBounds_toArray, List.set_cons_zero, List.set_cons_succ])
                refine wpHead_take (i := 16) (v := ?_) rfl (by kernel_rfl) (fun _ _ _ h => h) (Or.inl ⟨by rfl, ?_⟩) HS.out ?_
                rotate_left
                · intro w hSw; (try dsimp only at hSw); go_simp; (try with_reducible rfl)
                (try simp only [Act.put, List.setIfInBounds_toArray, List.set_cons_zero, List.set_cons_succ])
                refine wpHead_one (i := 17) (by kernel_rfl) (by decide) rfl (fun K hK => ?_)
                go_simp
                have hsz := HE.out.top
                have hbl := (Below.refl u3.heap.size u3).alloc (Nat.le_refl _) (.cells #[.slice none 0 0, .int .i64 0] 28)
                obtain ⟨Bx, hBx⟩ : ∃ b, u3.heap.size = b := ⟨_, rfl⟩
                have HX0 := Blk.box u3 [.slice none 0 0, .int .i64 0] 28 hBx.symm
                have HBA := Lib.hid (show A + 1 ≤ Bx by omega)
                obtain ⟨u4, hu⟩ : ∃ x : World, x = u3.alloc (.cells #[.slice none 0 0, .int .i64 0] 28) := ⟨_, rfl⟩
                rw [← hu] at hbl HX0 ⊢
                rw [hBx] at ⊢
                clear hu hBx
                replace HE := Lib.hid (HE.out.below hbl)
                replace HO := Lib.hid (owns_below HO.out hbl)
                have HX := Lib.hid HX0
                replace HS := Lib.hid (se_cells HE.out Hx01 (by rw [HN.out]; exact hy2))
                refine hK.out _ _ HS.out ?_
                clear hK K hbl HX0 hsz
                (try simp only [Act.put, List.setIfInBounds_toArray, List.set_cons_zero, List.set_cons_succ])
                refine wpHead_done (by kernel_rfl) ?_
                simp only [List.drop_succ_cons, List.drop_zero]
                have d0 := HX.out.cell 0 _ rfl
                have d1 := HX.out.cell 1 _ rfl
                have e0 := HX.out.frozen 0
                have e1 := HX.out.frozen 1
                go_wp2_with fail
                go_meet
                have hsd : SD w w1.heap.size (A + 1) G w.heap.size A Bx 60 (.slice (some ⟨r, 0, none⟩) 2 2) (.slice none 0 0) (.slice a7 (ds.length + 2) c7) ys (ds ++ [x0, x1]) st 0 u4 := by
                  obtain ⟨h1, h2, h3, h4, h5, h6, h7, h8, h9, h10, h11⟩ := HE.out
                  have hBA := HBA.out
                  exact ⟨h1.mono (by omega), h2, h3, h4, h5, HX.out, h6, by simpa using HO.out, h7, by omega, h8, h9, h10, by omega, by omega⟩
                exact ⟨_, _, _, rfl, Lib.hid (hsd.put0.put1 st)⟩
              · go_simp
                have hsz := HE.out.top
                have hbl := (Below.refl u2.heap.size u2).alloc (Nat.le_refl _) (.cells #[.slice none 0 0, .int .i64 0] 28)
                obtain ⟨Bx, hBx⟩ : ∃ b, u2.heap.size = b := ⟨_, rfl⟩
                have HX0 := Blk.box u2 [.slice none 0 0, .int .i64 0] 28 hBx.symm
                have HBA := Lib.hid (show A + 1 ≤ Bx by omega)
                obtain ⟨u3, hu⟩ : ∃ x : World, x = u2.alloc (.cells #[.slice none 0 0, .int .i64 0] 28) := ⟨_, rfl⟩
                rw [← hu] at hbl HX0 ⊢
                rw [hBx] at ⊢
                clear hu hBx
                replace HE := Lib.hid (HE.out.below hbl)
                replace HP := Lib.hid (owns_below HP.out hbl)
                replace HL := Lib.hid (HL.out.below hbl)
                have HX := Lib.hid HX0
                replace HS := Lib.hid (se_cells HE.out Hx01 (by rw [HN.out]; exact hy2))
                refine hK.out _ _ HS.out ?_
                clear hK K hbl HX0 hsz
                (try simp only [Act.put, List.setIfInBounds_toArray, List.set_cons_zero, List.set_cons_succ])
                refine wpHead_one (i := 13) (by kernel_rfl) (by decide) rfl (fun K hK => ?_)
                refine step_appN rfl _ _ 26 rfl (A + 1) 2 _ 8 Tryd.underlying26 info_i64 (by decide) rfl (.slice ap ds.length cp) ds.length (ints ds) rfl HP.out (some ⟨Lb, 0, none⟩) 2 2 (ints [x0, x1]) rfl HL.out (by intro h; cases h) (by intro u hu; obtain ⟨z, _, rfl⟩ := List.mem_map.1 hu; rfl) (by omega) HE.out.top ?_
                intro v7 u4 ho7 hg7 _
                obtain ⟨a7, c7, rfl⟩ := owns_slice ho7
                replace HE := Lib.hid (HE.out.app HP.out (Nat.le_refl _) hg7)
                replace HX := Lib.hid (HX.out.grown hg7 (owns_noblk' HP.out HX.out (by decide)).symm)
                have HO : Hid (u4.ownsRow (A + 1) 2 1 (.slice a7 (ds.length + 2) c7) (ds.length + 2) (ints (ds ++ [x0, x1]))) := Lib.hid (by simpa using ho7)
                replace HS := Lib.hid (se_cells HE.out Hx01 (by rw [HN.out]; exact hy2))
                refine hK.out _ _ HS.out ?_
                clear hK K HP HL hg7 ho7
                (try simp only [Act.put, List.setIfInBounds_toArray, List.set_cons_zero, List.set_cons_succ])
                refine wpHead_take (i := 16) (v := ?_) rfl (by kernel_rfl) (fun _ _ _ h => h) (Or.inl ⟨by rfl, ?_⟩) HS.out ?_
                rotate_left
                · intro w hSw; (try dsimp only at hSw); go_simp; (try with_reducible rfl)
                (try simp only [Act.put, List.setIfInBounds_toArray, List.set_cons_zero, List.set_cons_succ])
                refine wpHead_done (by kernel_rfl) ?_
                simp only [List.drop_succ_cons, List.drop_zero]
                have d0 := HX.out.cell 0 _ rfl
                have d1 := HX.out.cell 1 _ rfl
                have e0 := HX.out.frozen 0
                have e1 := HX.out.frozen 1
                go_wp2_with fail
                go_meet
                have hsd : SD w w1.heap.size (A + 1) G w.heap.size A Bx 60 (.slice (some ⟨r, 0, none⟩) 2 2) (.slice none 0 0) (.slice a7 (ds.length + 2) c7) ys (ds ++ [x0, x1]) st 0 u4 := by
                  obtain ⟨h1, h2, h3, h4, h5, h6, h7, h8, h9, h10, h11⟩ := HE.out
                  have hBA := HBA.out
                  exact ⟨h1.mono (by omega), h2, h3, h4, h5, HX.out, h6, by simpa using HO.out, h7, by omega, h8, h9, h10, by omega, by omega⟩
                exact ⟨_, _, _, rfl, Lib.hid (hsd.put0.put1 st)⟩
            · go_simp
              have hsz := HE.out.top
              have hbl := (Below.refl u1.heap.size u1).alloc (Nat.le_refl _) (.cells #[.slice none 0 0, .int .i64 0] 28)
              obtain ⟨Bx, hBx⟩ : ∃ b, u1.heap.size = b := ⟨_, rfl⟩
              have HX0 := Blk.box u1 [.slice none 0 0, .int .i64 0] 28 hBx.symm
              have HBA := Lib.hid (show A + 1 ≤ Bx by omega)
              obtain ⟨u2, hu⟩ : ∃ x : World, x = u1.alloc (.cells #[.slice none 0 0, .int .i64 0] 28) := ⟨_, rfl⟩
              rw [← hu] at hbl HX0 ⊢
              rw [hBx] at ⊢
              clear hu hBx
              replace HE := Lib.hid (HE.out.below hbl)
              replace HP := Lib.hid (owns_below HP.out hbl)
              have HX := Lib.hid HX0
              replace HS := Lib.hid (se_cells HE.out Hx01 (by rw [HN.out]; exact hy2))
              refine hK.out _ _ HS.out ?_
              clear hK K hbl HX0 hsz
              (try simp only [Act.put, List.setIfInBounds_toArray, List.set_cons_zero, List.set_cons_succ])
              refine wpHead_one (i := 12) (by kernel_rfl) (by decide) rfl (fun K hK => ?_)
              go_simp
              have hbl := (Below.refl u2.heap.size u2).alloc (Nat.le_refl _) (.cells #[.int .i64 x0, .int .i64 x1] 2)
              have HL0 := rv_lit u2 [x0, x1] 2 (n := 2) (cs := #[.int .i64 x0, .int .i64 x1]) rfl rfl (by simp [maxLen])
              obtain ⟨u3, hu⟩ : ∃ x : World, x = u2.alloc (.cells #[.int .i64 x0, .int .i64 x1] 2) := ⟨_, rfl⟩
              rw [← hu] at hbl HL0 ⊢
              clear hu
              obtain ⟨Lb, hLb⟩ : ∃ b, u2.heap.size = b := ⟨_, rfl⟩
              rw [hLb] at HL0 ⊢
              clear hLb
              have HL := Lib.hid HL0
              replace HE := Lib.hid (HE.out.below hbl)
              replace HP := Lib.hid (owns_below HP.out hbl)
              replace HX := Lib.hid (HX.out.below hbl)
              replace HS := Lib.hid (se_cells HE.out Hx01 (by rw [HN.out]; exact hy2))
              refine hK.out _ _ HS.out ?_
              clear hK K hbl HL0
              (try simp only [Act.put, List.setIfInBounds_toArray, List.set_cons_zero, List.set_cons_succ])
              refine wpHead_one (i := 13) (by kernel_rfl) (by decide) rfl (fun K hK => ?_)
              refine step_appN rfl _ _ 26 rfl (A + 1) 2 _ 8 Tryd.underlying26 info_i64 (by decide) rfl (.slice ap ds.length cp) ds.length (ints ds) rfl HP.out (some ⟨Lb, 0, none⟩) 2 2 (ints [x0, x1]) rfl HL.out (by intro h; cases h) (by intro u hu; obtain ⟨z, _, rfl⟩ := List.mem_map.1 hu; rfl) (by omega) HE.out.top ?_
              intro v7 u4 ho7 hg7 _
              obtain ⟨a7, c7, rfl⟩ := owns_slice ho7
              replace HE := Lib.hid (HE.out.app HP.out (Nat.le_refl _) hg7)
              replace HX := Lib.hid (HX.out.grown hg7 (owns_noblk' HP.out HX.out (by decide)).symm)
              have HO : Hid (u4.ownsRow (A + 1) 2 1 (.slice a7 (ds.length + 2) c7) (ds.length + 2) (ints (ds ++ [x0, x1]))) := Lib.hid (by simpa using ho7)
              replace HS := Lib.hid (se_cells HE.out Hx01 (by rw [HN.out]; exact hy2))
              refine hK.out _ _ HS.out ?_
              clear hK K HP HL hg7 ho7
              (try simp only [Act.put, List.setIfInBounds_toArray, List.set_cons_zero, List.set_cons_succ])
              refine wpHead_take (i := 16) (v := ?_) rfl (by kernel_rfl) (fun _ _ _ h => h) (Or.inl ⟨by rfl, ?_⟩) HS.out ?_
              rotate_left
              · intro w hSw; (try dsimp only at hSw); go_simp; (try with_reducible rfl)
              (try simp only [Act.put, List.setIfInBounds_toArray, List.set_cons_zero, List.set_cons_succ])
              refine wpHead_done (by kernel_rfl) ?_
              simp only [List.drop_succ_cons, List.drop_zero]
              have d0 := HX.out.cell 0 _ rfl
              have d1 := HX.out.cell 1 _ rfl
              have e0 := HX.out.frozen 0
              have e1 := HX.out.frozen 1
              go_wp2_with fail
              go_meet
              have hsd : SD w w1.heap.size (A + 1) G w.heap.size A Bx 60 (.slice (some ⟨r, 0, none⟩) 2 2) (.slice none 0 0) (.slice a7 (ds.length + 2) c7) ys (ds ++ [x0, x1]) st 0 u4 := by
                obtain ⟨h1, h2, h3, h4, h5, h6, h7, h8, h9, h10, h11⟩ := HE.out
                have hBA := HBA.out
                exact ⟨h1.mono (by omega), h2, h3, h4, h5, HX.out, h6, by simpa using HO.out, h7, by omega, h8, h9, h10, by omega, by omega⟩
              exact ⟨_, _, _, rfl, Lib.hid (hsd.put0.put1 st)⟩
          · go_simp
            have hbl := (Below.refl u0.heap.size u0).alloc (Nat.le_refl _) (.cells #[.int .i64 x0, .int .i64 x1] 2)
            have HL0 := rv_lit u0 [x0, x1] 2 (n := 2) (cs := #[.int .i64 x0, .int .i64 x1]) rfl rfl (by simp [maxLen])
            obtain ⟨u1, hu⟩ : ∃ x : World, x = u0.alloc (.cells #[.int .i64 x0, .int .i64 x1] 2) := ⟨_, rfl⟩
            rw [← hu] at hbl HL0 ⊢
            clear hu
            obtain ⟨Lb, hLb⟩ : ∃ b, u0.heap.size = b := ⟨_, rfl⟩
            rw [hLb] at HL0 ⊢
            clear hLb
            have HL := Lib.hid HL0
            replace HE := Lib.hid (HE.out.below hbl)
            replace HS := Lib.hid (se_cells HE.out Hx01 (by rw [HN.out]; exact hy2))
            refine hK.out _ _ HS.out ?_
            clear hK K hbl HL0
            (try simp only [Act.put, List.setIfInBounds_toArray, List.set_cons_zero, List.set_cons_succ])
            refine wpHead_two (i := 3) (j := 17) (by kernel_rfl) (by decide) (by decide) rfl rfl (fun K hK => ?_) (fun K hK => ?_)
            · go_simp
              have hsz := HE.out.top
              with_reducible refine (Hown.out _ HE.out).mono ?_
              rintro e u2 ⟨vp, rfl, hop, hbp⟩
              obtain ⟨ap, cp, rfl, _⟩ := hop.sliceI
              replace HE := Lib.hid (HE.out.below hbp)
              have HP : Hid (u2.ownsRow (A + 1) 2 1 (.slice ap ds.length cp) ds.length (ints ds)) := Lib.hid (by have h := hop.1; rw [List.length_map] at h; exact owns_mono h hsz)
              replace HL := Lib.hid (HL.out.below hbp)
              replace HS := Lib.hid (se_cells HE.out Hx01 (by rw [HN.out]; exact hy2))
              refine hK.out _ _ HS.out ?_
              clear hK K hop hbp hsz
              (try simp only [Act.put, List.setIfInBounds_toArray, List.set_cons_zero, List.set_cons_succ])
              refine wpHead_two (i := 13) (j := 17) (by kernel_rfl) (by decide) (by decide) rfl rfl (fun K hK => ?_) (fun K hK => ?_)
              · refine step_appN rfl _ _ 26 rfl (A + 1) 2 _ 8 Tryd.underlying26 info_i64 (by decide) rfl (.slice ap ds.length cp) ds.length (ints ds) rfl HP.out (some ⟨Lb, 0, none⟩) 2 2 (ints [x0, x1]) rfl HL.out (by intro h; cases h) (by intro u hu; obtain ⟨z, _, rfl⟩ := List.mem_map.1 hu; rfl) (by omega) HE.out.top ?_
                intro v7 u3 ho7 hg7 _
                obtain ⟨a7, c7, rfl⟩ := owns_slice ho7
                replace HE := Lib.hid (HE.out.app HP.out (Nat.le_refl _) hg7)
                have HO : Hid (u3.ownsRow (A + 1) 2 1 (.slice a7 (ds.length + 2) c7) (ds.length + 2) (ints (ds ++ [x0, x1]))) := Lib.hid (by simpa using ho7)
                replace HS := Lib.hid (se_cells HE.out Hx01 (by rw [HN.out]; exact hy2))
                refine hK.out _ _ HS.out ?_
                clear hK K HP HL hg7 ho7
                (try simp only [Act.put, List.setIfInBounds_toArray, List.set_cons_zero, List.set_cons_succ])
                refine wpHead_take (i := 16) (v := ?_) rfl (by kernel_rfl) (fun _ _ _ h => h) (Or.inl ⟨by rfl, ?_⟩) HS.out ?_
                rotate_left
                · intro w hSw; (try dsimp only at hSw); go_simp; (try with_reducible rfl)
                (try simp only [Act.put, List.setIfInBounds_toArray, List.set_cons_zero, List.set_cons_succ])
                refine wpHead_one (i := 17) (by kernel_rfl) (by decide) rfl (fun K hK => ?_)
                go_simp
                have hsz := HE.out.top
                have hbl := (Below.refl u3.heap.size u3).alloc (Nat.le_refl _) (.cells #[.slice none 0 0, .int .i64 0] 28)
                obtain ⟨Bx, hBx⟩ : ∃ b, u3.heap.size = b := ⟨_, rfl⟩
                have HX0 := Blk.box u3 [.slice none 0 0, .int .i64 0] 28 hBx.symm
                have HBA := Lib.hid (show A + 1 ≤ Bx by omega)
                obtain ⟨u4, hu⟩ : ∃ x : World, x = u3.alloc (.cells #[.slice none 0 0, .int .i64 0] 28) := ⟨_, rfl⟩
                rw [← hu] at hbl HX0 ⊢
                rw [hBx] at ⊢
                clear hu hBx
                replace HE := Lib.hid (HE.out.below hbl)
                replace HO := Lib.hid (owns_below HO.out hbl)
                have HX := Lib.hid HX0
                replace HS := Lib.hid (se_cells HE.out Hx01 (by rw [HN.out]; exact hy2))
                refine hK.out _ _ HS.out ?_
                clear hK K hbl HX0 hsz
                (try simp only [Act.put, List.setIfInBounds_toArray, List.set_cons_zero, List.set_cons_succ])
                refine wpHead_done (by kernel_rfl) ?_
                simp only [List.drop_succ_cons, List.drop_zero]
                have d0 := HX.out.cell 0 _ rfl
                have d1 := HX.out.cell 1 _ rfl
                have e0 := HX.out.frozen 0
                have e1 := HX.out.frozen 1
                go_wp2_with fail
                go_meet
                have hsd : SD w w1.heap.size (A + 1) G w.heap.size A Bx 60 (.slice (some ⟨r, 0, none⟩) 2 2) (.slice none 0 0) (.slice a7 (ds.length + 2) c7) ys (ds ++ [x0, x1]) st 0 u4 := by
                  obtain ⟨h1, h2, h3, h4, h5, h6, h7, h8, h9, h10, h11⟩ := HE.out
                  have hBA := HBA.out
                  exact ⟨h1.mono (by omega), h2, h3, h4, h5, HX.out, h6, by simpa using HO.out, h7, by omega, h8, h9, h10, by omega, by omega⟩
                exact ⟨_, _, _, rfl, Lib.hid (hsd.put0.put1 st)⟩
              · go_simp
                have hsz := HE.out.top
                have hbl := (Below.refl u2.heap.size u2).alloc (Nat.le_refl _) (.cells #[.slice none 0 0, .int .i64 0] 28)
                obtain ⟨Bx, hBx⟩ : ∃ b, u2.heap.size = b := ⟨_, rfl⟩
                have HX0 := Blk.box u2 [.slice none 0 0, .int .i64 0] 28 hBx.symm
                have HBA := Lib.hid (show A + 1 ≤ Bx by omega)
                obtain ⟨u3, hu⟩ : ∃ x : World, x = u2.alloc (.cells #[.slice none 0 0, .int .i64 0] 28) := ⟨_, rfl⟩
                rw [← hu] at hbl HX0 ⊢
                rw [hBx] at ⊢
                clear hu hBx
                replace HE := Lib.hid (HE.out.below hbl)
                replace HP := Lib.hid (owns_below HP.out hbl)
                replace HL := Lib.hid (HL.out.below hbl)
                have HX := Lib.hid HX0
                replace HS := Lib.hid (se_cells HE.out Hx01 (by rw [HN.out]; exact hy2))
                refine hK.out _ _ HS.out ?_
                clear hK K hbl HX0 hsz
                (try simp only [Act.put, List.setIfInBounds_toArray, List.set_cons_zero, List.set_cons_succ])
                refine wpHead_one (i := 13) (by kernel_rfl) (by decide) rfl (fun K hK => ?_)
                refine step_appN rfl _ _ 26 rfl (A + 1) 2 _ 8 Tryd.underlying26 info_i64 (by decide) rfl (.slice ap ds.length cp) ds.length (ints ds) rfl HP.out (some ⟨Lb, 0, none⟩) 2 2 (ints [x0, x1]) rfl HL.out (by intro h; cases h) (by intro u hu; obtain ⟨z, _, rfl⟩ := List.mem_map.1 hu; rfl) (by omega) HE.out.top ?_
                intro v7 u4 ho7 hg7 _
                obtain ⟨a7, c7, rfl⟩ := owns_slice ho7
                replace HE := Lib.hid (HE.out.app HP.out (Nat.le_refl _) hg7)
                replace HX := Lib.hid (HX.out.grown hg7 (owns_noblk' HP.out HX.out (by decide)).symm)
                have HO : Hid (u4.ownsRow (A + 1) 2 1 (.slice a7 (ds.length + 2) c7) (ds.length + 2) (ints (ds ++ [x0, x1]))) := Lib.hid (by simpa using ho7)
                replace HS := Lib.hid (se_cells HE.out Hx01 (by rw [HN.out]; exact hy2))
                refine hK.out _ _ HS.out ?_
                clear hK K HP HL hg7 ho7
                (try simp only [Act.put, List.setIfInBounds_toArray, List.set_cons_zero, List.set_cons_succ])
                refine wpHead_take (i := 16) (v := ?_) rfl (by kernel_rfl) (fun _ _ _ h => h) (Or.inl ⟨by rfl, ?_⟩) HS.out ?_
                rotate_left
                · intro w hSw; (try dsimp only at hSw); go_simp; (try with_reducible rfl)
                (try simp only [Act.put, List.setIfInBounds_toArray, List.set_cons_zero, List.set_cons_succ])
                refine wpHead_done (by kernel_rfl) ?_
                simp only [List.drop_succ_cons, List.drop_zero]
                have d0 := HX.out.cell 0 _ rfl
                have d1 := HX.out.cell 1 _ rfl
                have e0 := HX.out.frozen 0
                have e1 := HX.out.frozen 1
                go_wp2_with fail
                go_meet
                have hsd : SD w w1.heap.size (A + 1) G w.heap.size A Bx 60 (.slice (some ⟨r, 0, none⟩) 2 2) (.slice none 0 0) (.slice a7 (ds.length + 2) c7) ys (ds ++ [x0, x1]) st 0 u4 := by
                  obtain ⟨h1, h2, h3, h4, h5, h6, h7, h8, h9, h10, h11⟩ := HE.out
                  have hBA := HBA.out
                  exact ⟨h1.mono (by omega), h2, h3, h4, h5, HX.out, h6, by simpa using HO.out, h7, by omega, h8, h9, h10, by omega, by omega⟩
                exact ⟨_, _, _, rfl, Lib.hid (hsd.put0.put1 st)⟩
            · go_simp
              have hsz := HE.out.top
              have hbl := (Below.refl u1.heap.size u1).alloc (Nat.le_refl _) (.cells #[.slice none 0 0, .int .i64 0] 28)
              obtain ⟨Bx, hBx⟩ : ∃ b, u1.heap.size = b := ⟨_, rfl⟩
              have HX0 := Blk.box u1 [.slice none 0 0, .int .i64 0] 28 hBx.symm
              have HBA := Lib.hid (show A + 1 ≤ Bx by omega)
              obtain ⟨u2, hu⟩ : ∃ x : World, x = u1.alloc (.cells #[.slice none 0 0, .int .i64 0] 28) := ⟨_, rfl⟩
              rw [← hu] at hbl HX0 ⊢
              rw [hBx] at ⊢
              clear hu hBx
              replace HE := Lib.hid (HE.out.below hbl)
              replace HL := Lib.hid (HL.out.below hbl)
              have HX := Lib.hid HX0
              replace HS := Lib.hid (se_cells HE.out Hx01 (by rw [HN.out]; exact hy2))
              refine hK.out _ _ HS.out ?_
              clear hK K hbl HX0 hsz
              (try simp only [Act.put, List.setIfInBounds_toArray, List.set_cons_zero, List.set_cons_succ])
              refine wpHead_one (i := 3) (by kernel_rfl) (by decide) rfl (fun K hK => ?_)
              go_simp
              have hsz := HE.out.top
              with_reducible refine (Hown.out _ HE.out).mono ?_
              rintro e u3 ⟨vp, rfl, hop, hbp⟩
              obtain ⟨ap, cp, rfl, _⟩ := hop.sliceI
              replace HE := Lib.hid (HE.out.below hbp)
              have HP : Hid (u3.ownsRow (A + 1) 2 1 (.slice ap ds.length cp) ds.length (ints ds)) := Lib.hid (by have h := hop.1; rw [List.length_map] at h; exact owns_mono h hsz)
              replace HL := Lib.hid (HL.out.below hbp)
              replace HX := Lib.hid (HX.out.below hbp)
              replace HS := Lib.hid (se_cells HE.out Hx01 (by rw [HN.out]; exact hy2))
              refine hK.out _ _ HS.out ?_
              clear hK K hop hbp hsz
              (try simp only [Act.put, List.setIfInBounds_toArray, List.set_cons_zero, List.set_cons_succ])
              refine wpHead_one (i := 13) (by kernel_rfl) (by decide) rfl (fun K hK => ?_)
              refine step_appN rfl _ _ 26 rfl (A + 1) 2 _ 8 Tryd.underlying26 info_i64 (by decide) rfl (.slice ap ds.length cp) ds.length (ints ds) rfl HP.out (some ⟨Lb, 0, none⟩) 2 2 (ints [x0, x1]) rfl HL.out (by intro h; cases h) (by intro u hu; obtain ⟨z, _, rfl⟩ := List.mem_map.1 hu; rfl) (by omega) HE.out.top ?_
              intro v7 u4 ho7 hg7 _
              obtain ⟨a7, c7, rfl⟩ := owns_slice ho7
              replace HE := Lib.hid (HE.out.app HP.out (Nat.le_refl _) hg7)
              replace HX := Lib.hid (HX.out.grown hg7 (owns_noblk' HP.out HX.out (by decide)).symm)
              have HO : Hid (u4.ownsRow (A + 1) 2 1 (.slice a7 (ds.length + 2) c7) (ds.length + 2) (ints (ds ++ [x0, x1]))) := Lib.hid (by simpa using ho7)
              replace HS := Lib.hid (se_cells HE.out Hx01 (by rw [HN.out]; exact hy2))
              refine hK.out _ _ HS.out ?_
              clear hK K HP HL hg7 ho7
              (try simp only [Act.put, List.setIfInBounds_toArray, List.set_cons_zero, List.set_cons_succ])
              refine wpHead_take (i := 16) (v := ?_) rfl (by kernel_rfl) (fun _ _ _ h => h) (Or.inl ⟨by rfl, ?_⟩) HS.out ?_
              rotate_left
              · intro w hSw; (try dsimp only at hSw); go_simp; (try with_reducible rfl)
              (try simp only [Act.put, List.setIfInBounds_toArray, List.set_cons_zero, List.set_cons_succ])
              refine wpHead_done (by kernel_rfl) ?_
              simp only [List.drop_succ_cons, List.drop_zero]
              have d0 := HX.out.cell 0 _ rfl
              have d1 := HX.out.cell 1 _ rfl
              have e0 := HX.out.frozen 0
              have e1 := HX.out.frozen 1
              go_wp2_with fail
              go_meet
              have hsd : SD w w1.heap.size (A + 1) G w.heap.size A Bx 60 (.slice (some ⟨r, 0, none⟩) 2 2) (.slice none 0 0) (.slice a7 (ds.length + 2) c7) ys (ds ++ [x0, x1]) st 0 u4 := by
                obtain ⟨h1, h2, h3, h4, h5, h6, h7, h8, h9, h10, h11⟩ := HE.out
                have hBA := HBA.out
                exact ⟨h1.mono (by omega), h2, h3, h4, h5, HX.out, h6, by simpa using HO.out, h7, by omega, h8, h9, h10, by omega, by omega⟩
              exact ⟨_, _, _, rfl, Lib.hid (hsd.put0.put1 st)⟩
          · go_simp
            have hsz := HE.out.top
            have hbl := (Below.refl u0.heap.size u0).alloc (Nat.le_refl _) (.cells #[.slice none 0 0, .int .i64 0] 28)
            obtain ⟨Bx, hBx⟩ : ∃ b, u0.heap.size = b := ⟨_, rfl⟩
            have HX0 := Blk.box u0 [.slice none 0 0, .int .i64 0] 28 hBx.symm
            have HBA := Lib.hid (show A + 1 ≤ Bx by omega)
            obtain ⟨u1, hu⟩ : ∃ x : World, x = u0.alloc (.cells #[.slice none 0 0, .int .i64 0] 28) := ⟨_, rfl⟩
            rw [← hu] at hbl HX0 ⊢
            rw [hBx] at ⊢
            clear hu hBx
            replace HE := Lib.hid (HE.out.below hbl)
            have HX := Lib.hid HX0
            replace HS := Lib.hid (se_cells HE.out Hx01 (by rw [HN.out]; exact hy2))
            refine hK.out _ _ HS.out ?_
            clear hK K hbl HX0 hsz
            (try simp only [Act.put, List.setIfInBounds_toArray, List.set_cons_zero, List.set_cons_succ])
            refine wpHead_two (i := 3) (j := 12) (by kernel_rfl) (by decide) (by decide) rfl rfl (fun K hK => ?_) (fun K hK => ?_)
            · go_simp
              have hsz := HE.out.top
              with_reducible refine (Hown.out _ HE.out).mono ?_
              rintro e u2 ⟨vp, rfl, hop, hbp⟩
              obtain ⟨ap, cp, rfl, _⟩ := hop.sliceI
              replace HE := Lib.hid (HE.out.below hbp)
              have HP : Hid (u2.ownsRow (A + 1) 2 1 (.slice ap ds.length cp) ds.length (ints ds)) := Lib.hid (by have h := hop.1; rw [List.length_map] at h; exact owns_mono h hsz)
              replace HX := Lib.hid (HX.out.below hbp)
              replace HS := Lib.hid (se_cells HE.out Hx01 (by rw [HN.out]; exact hy2))
              refine hK.out _ _ HS.out ?_
              clear hK K hop hbp hsz
              (try simp only [Act.put, List.setIfInBounds_toArray, List.set_cons_zero, List.set_cons_succ])
              refine wpHead_one (i := 12) (by kernel_rfl) (by decide) rfl (fun K hK => ?_)
              go_simp
              have hbl := (Below.refl u2.heap.size u2).alloc (Nat.le_refl _) (.cells #[.int .i64 x0, .int .i64 x1] 2)
              have HL0 := rv_lit u2 [x0, x1] 2 (n := 2) (cs := #[.int .i64 x0, .int .i64 x1]) rfl rfl (by simp [maxLen])
              obtain ⟨u3, hu⟩ : ∃ x : World, x = u2.alloc (.cells #[.int .i64 x0, .int .i64 x1] 2) := ⟨_, rfl⟩
              rw [← hu] at hbl HL0 ⊢
              clear hu
              obtain ⟨Lb, hLb⟩ : ∃ b, u2.heap.size = b := ⟨_, rfl⟩
              rw [hLb] at HL0 ⊢
              clear hLb
              have HL := Lib.hid HL0
              replace HE := Lib.hid (HE.out.below hbl)
              replace HP := Lib.hid (owns_below HP.out hbl)
              replace HX := Lib.hid (HX.out.below hbl)
              replace HS := Lib.hid (se_cells HE.out Hx01 (by rw [HN.out]; exact hy2))
              refine hK.out _ _ HS.out ?_
              clear hK K hbl HL0
              (try simp only [Act.put, List.setIfInBounds_toArray, List.set_cons_zero, List.set_cons_succ])
              refine wpHead_one (i := 13) (by kernel_rfl) (by decide) rfl (fun K hK => ?_)
              refine step_appN rfl _ _ 26 rfl (A + 1) 2 _ 8 Tryd.underlying26 info_i64 (by decide) rfl (.slice ap ds.length cp) ds.length (ints ds) rfl HP.out (some ⟨Lb, 0, none⟩) 2 2 (ints [x0, x1]) rfl HL.out (by intro h; cases h) (by intro u hu; obtain ⟨z, _, rfl⟩ := List.mem_map.1 hu; rfl) (by omega) HE.out.top ?_
              intro v7 u4 ho7 hg7 _
              obtain ⟨a7, c7, rfl⟩ := owns_slice ho7
              replace HE := Lib.hid (HE.out.app HP.out (Nat.le_refl _) hg7)
              replace HX := Lib.hid (HX.out.grown hg7 (owns_noblk' HP.out HX.out (by decide)).symm)
              have HO : Hid (u4.ownsRow (A + 1) 2 1 (.slice a7 (ds.length + 2) c7) (ds.length + 2) (ints (ds ++ [x0, x1]))) := Lib.hid (by simpa using ho7)
              replace HS := Lib.hid (se_cells HE.out Hx01 (by rw [HN.out]; exact hy2))
              refine hK.out _ _ HS.out ?_
              clear hK K HP HL hg7 ho7
              (try simp only [Act.put, List.setIfInBounds_toArray, List.set_cons_zero, List.set_cons_succ])
              refine wpHead_take (i := 16) (v := ?_) rfl (by kernel_rfl) (fun _ _ _ h => h) (Or.inl ⟨by rfl, ?_⟩) HS.out ?_
              rotate_left
              · intro w hSw; (try dsimp only at hSw); go_simp; (try with_reducible rfl)
              (try simp only [Act.put, List.setIfInBounds_toArray, List.set_cons_zero, List.set_cons_succ])
              refine wpHead_done (by kernel_rfl) ?_
              simp only [List.drop_succ_cons, List.drop_zero]
              have d0 := HX.out.cell 0 _ rfl
              have d1 := HX.out.cell 1 _ rfl
              have e0 := HX.out.frozen 0
              have e1 := HX.out.frozen 1
              go_wp2_with fail
              go_meet
              have hsd : SD w w1.heap.size (A + 1) G w.heap.size A Bx 60 (.slice (some ⟨r, 0, none⟩) 2 2) (.slice none 0 0) (.slice a7 (ds.length + 2) c7) ys (ds ++ [x0, x1]) st 0 u4 := by
                obtain ⟨h1, h2, h3, h4, h5, h6, h7, h8, h9, h10, h11⟩ := HE.out
                have hBA := HBA.out
                exact ⟨h1.mono (by omega), h2, h3, h4, h5, HX.out, h6, by simpa using HO.out, h7, by omega, h8, h9, h10, by omega, by omega⟩
              exact ⟨_, _, _, rfl, Lib.hid (hsd.put0.put1 st)⟩
            · go_simp
              have hbl := (Below.refl u1.heap.size u1).alloc (Nat.le_refl _) (.cells #[.int .i64 x0, .int .i64 x1] 2)
              have HL0 := rv_lit u1 [x0, x1] 2 (n := 2) (cs := #[.int .i64 x0, .int .i64 x1]) rfl rfl (by simp [maxLen])
              obtain ⟨u2, hu⟩ : ∃ x : World, x = u1.alloc (.cells #[.int .i64 x0, .int .i64 x1] 2) := ⟨_, rfl⟩
              rw [← hu] at hbl HL0 ⊢
              clear hu
              obtain ⟨Lb, hLb⟩ : ∃ b, u1.heap.size = b := ⟨_, rfl⟩
              rw [hLb] at HL0 ⊢
              clear hLb
              have HL := Lib.hid HL0
              replace HE := Lib.hid (HE.out.below hbl)
              replace HX := Lib.hid (HX.out.below hbl)
              replace HS := Lib.hid (se_cells HE.out Hx01 (by rw [HN.out]; exact hy2))
              refine hK.out _ _ HS.out ?_
              clear hK K hbl HL0
              (try simp only [Act.put, List.setIfInBounds_toArray, List.set_cons_zero, List.set_cons_succ])
              refine wpHead_one (i := 3) (by kernel_rfl) (by decide) rfl (fun K hK => ?_)
              go_simp
              have hsz := HE.out.top
              with_reducible refine (Hown.out _ HE.out).mono ?_
              rintro e u3 ⟨vp, rfl, hop, hbp⟩
              obtain ⟨ap, cp, rfl, _⟩ := hop.sliceI
              replace HE := Lib.hid (HE.out.below hbp)
              have HP : Hid (u3.ownsRow (A + 1) 2 1 (.slice ap ds.length cp) ds.length (ints ds)) := Lib.hid (by have h := hop.1; rw [List.length_map] at h; exact owns_mono h hsz)
              replace HL := Lib.hid (HL.out.below hbp)
              replace HX := Lib.hid (HX.out.below hbp)
              replace HS := Lib.hid (se_cells HE.out Hx01 (by rw [HN.out]; exact hy2))
              refine hK.out _ _ HS.out ?_
              clear hK K hop hbp hsz
              (try simp only [Act.put, List.setIfInBounds_toArray, List.set_cons_zero, List.set_cons_succ])
              refine wpHead_one (i := 13) (by kernel_rfl) (by decide) rfl (fun K hK => ?_)
              refine step_appN rfl _ _ 26 rfl (A + 1) 2 _ 8 Tryd.underlying26 info_i64 (by decide) rfl (.slice ap ds.length cp) ds.length (ints ds) rfl HP.out (some ⟨Lb, 0, none⟩) 2 2 (ints [x0, x1]) rfl HL.out (by intro h; cases h) (by intro u hu; obtain ⟨z, _, rfl⟩ := List.mem_map.1 hu; rfl) (by omega) HE.out.top ?_
              intro v7 u4 ho7 hg7 _
              obtain ⟨a7, c7, rfl⟩ := owns_slice ho7
              replace HE := Lib.hid (HE.out.app HP.out (Nat.le_refl _) hg7)
              replace HX := Lib.hid (HX.out.grown hg7 (owns_noblk' HP.out HX.out (by decide)).symm)
              have HO : Hid (u4.ownsRow (A + 1) 2 1 (.slice a7 (ds.length + 2) c7) (ds.length + 2) (ints (ds ++ [x0, x1]))) := Lib.hid (by simpa using ho7)
              replace HS := Lib.hid (se_cells HE.out Hx01 (by rw [HN.out]; exact hy2))
              refine hK.out _ _ HS.out ?_
              clear hK K HP HL hg7 ho7
              (try simp only [Act.put, List.setIfInBounds_toArray, List.set_cons_zero, List.set_cons_succ])
              refine wpHead_take (i := 16) (v := ?_) rfl (by kernel_rfl) (fun _ _ _ h => h) (Or.inl ⟨by rfl, ?_⟩) HS.out ?_
              rotate_left
              · intro w hSw; (try dsimp only at hSw); go_simp; (try with_reducible rfl)
              (try simp only [Act.put, List.setIfInBounds_toArray, List.set_cons_zero, List.set_cons_succ])
              refine wpHead_done (by kernel_rfl) ?_
              simp only [List.drop_succ_cons, List.drop_zero]
              have d0 := HX.out.cell 0 _ rfl
              have d1 := HX.out.cell 1 _ rfl
              have e0 := HX.out.frozen 0
              have e1 := HX.out.frozen 1
              go_wp2_with fail
              go_meet
              have hsd : SD w w1.heap.size (A + 1) G w.heap.size A Bx 60 (.slice (some ⟨r, 0, none⟩) 2 2) (.slice none 0 0) (.slice a7 (ds.length + 2) c7) ys (ds ++ [x0, x1]) st 0 u4 := by
                obtain ⟨h1, h2, h3, h4, h5, h6, h7, h8, h9, h10, h11⟩ := HE.out
                have hBA := HBA.out
                exact ⟨h1.mono (by omega), h2, h3, h4, h5, HX.out, h6, by simpa using HO.out, h7, by omega, h8, h9, h10, by omega, by omega⟩
              exact ⟨_, _, _, rfl, Lib.hid (hsd.put0.put1 st)⟩
        · have hcne : (c1 == 2) = false := by simp [hc2]
          refine wpHead_take (i := 2) (v := ?_) rfl (by kernel_rfl) (fun _ _ _ h => h) (Or.inl ⟨by rfl, ?_⟩) HS.out ?_
          rotate_left
          · intro w hSw; (try dsimp only at hSw); go_simp; (try with_reducible rfl)
          (try simp only [Act.put, List.setIfInBounds_toArray, List.set_cons_zero, List.set_cons_succ])
          obtain ⟨ds, Hds⟩ : ∃ ds : List Int, Hid (ds = ys.drop 2) := ⟨_, Lib.hid rfl⟩
          have hdl : ds.length ≤ 12 := by rw [Hds.out, List.length_drop, HN.out]; omega
          replace Hown := Lib.hid (fun u (h : SE w w1.heap.size G w.heap.size A 42 (.slice (some ⟨r, 0, none⟩) N c1) ys st u) => show Calls Tryd.prog 46 #[.slice (some ⟨r, 2, none⟩) (N - 2) (c1 - 2)] u fun e w' => ∃ v : Value, e = .returned v ∧ Own w' u.heap.size w'.heap.size 2 v (ints ds) ∧ Below u.heap.size u w' by
            have h2 := Hown.out u (h.tail (by rw [HN.out]; exact hy2))
            rw [Hds.out]; exact h2)
          have HE := HE0
          clear HE0
          refine wpHead_three (i := 3) (j := 12) (k := 17) (by kernel_rfl) (by decide) (by decide) (by decide) rfl rfl rfl (fun K hK => ?_) (fun K hK => ?_) (fun K hK => ?_)
          · go_simp
            have hsz := HE.out.top
            with_reducible refine (Hown.out _ HE.out).mono ?_
            rintro e u1 ⟨vp, rfl, hop, hbp⟩
            obtain ⟨ap, cp, rfl, _⟩ := hop.sliceI
            replace HE := Lib.hid (HE.out.below hbp)
            have HP : Hid (u1.ownsRow (A + 1) 2 1 (.slice ap ds.length cp) ds.length (ints ds)) := Lib.hid (by have h := hop.1; rw [List.length_map] at h; exact owns_mono h hsz)
            replace HS := Lib.hid (se_cells HE.out Hx01 (by rw [HN.out]; exact hy2))
            refine hK.out _ _ HS.out ?_
            clear hK K hop hbp hsz
            (try simp only [Act.put, List.setIfInBounds_toArray, List.set_cons_zero, List.set_cons_succ])
            refine wpHead_two (i := 12) (j := 17) (by kernel_rfl) (by decide) (by decide) rfl rfl (fun K hK => ?_) (fun K hK => ?_)
            · go_simp
              have hbl := (Below.refl u1.heap.size u1).alloc (Nat.le_refl _) (.cells #[.int .i64 x0, .int .i64 x1] 2)
              have HL0 := rv_lit u1 [x0, x1] 2 (n := 2) (cs := #[.int .i64 x0, .int .i64 x1]) rfl rfl (by simp [maxLen])
              obtain ⟨u2, hu⟩ : ∃ x : World, x = u1.alloc (.cells #[.int .i64 x0, .int .i64 x1] 2) := ⟨_, rfl⟩
              rw [← hu] at hbl HL0 ⊢
              clear hu
              obtain ⟨Lb, hLb⟩ : ∃ b, u1.heap.size = b := ⟨_, rfl⟩
              rw [hLb] at HL0 ⊢
              clear hLb
              have HL := Lib.hid HL0
              replace HE := Lib.hid (HE.out.below hbl)
              replace HP := Lib.hid (owns_below HP.out hbl)
              replace HS := Lib.hid (se_cells HE.out Hx01 (by rw [HN.out]; exact hy2))
              refine hK.out _ _ HS.out ?_
              clear hK K hbl HL0
              (try simp only [Act.put, List.setIfInBounds_toArray, List.set_cons_zero, List.set_cons_succ])
              refine wpHead_two (i := 13) (j := 17) (by kernel_rfl) (by decide) (by decide) rfl rfl (fun K hK => ?_) (fun K hK => ?_)
              · refine step_appN rfl _ _ 26 rfl (A + 1) 2 _ 8 Tryd.underlying26 info_i64 (by decide) rfl (.slice ap ds.length cp) ds.length (ints ds) rfl HP.out (some ⟨Lb, 0, none⟩) 2 2 (ints [x0, x1]) rfl HL.out (by intro h; cases h) (by intro u hu; obtain ⟨z, _, rfl⟩ := List.mem_map.1 hu; rfl) (by omega) HE.out.top ?_
                intro v7 u3 ho7 hg7 _
                obtain ⟨a7, c7, rfl⟩ := owns_slice ho7
                replace HE := Lib.hid (HE.out.app HP.out (Nat.le_refl _) hg7)
                have HO : Hid (u3.ownsRow (A + 1) 2 1 (.slice a7 (ds.length + 2) c7) (ds.length + 2) (ints (ds ++ [x0, x1]))) := Lib.hid (by simpa using ho7)
                replace HS := Lib.hid (se_cells HE.out Hx01 (by rw [HN.out]; exact hy2))
                refine hK.out _ _ HS.out ?_
                clear hK K HP HL hg7 ho7
                (try simp only [Act.put, List.setIfInBounds_toArray, List.set_cons_zero, List.set_cons_succ])
                refine wpHead_take (i := 16) (v := ?_) rfl (by kernel_rfl) (fun _ _ _ h => h) (Or.inl ⟨by rfl, ?_⟩) HS.out ?_
                rotate_left
                · intro w hSw; (try dsimp only at hSw); go_simp; (try with_reducible rfl)
                (try simp only [Act.put, List.setIfInBounds_toArray, List.set_cons_zero, List.set_cons_succ])
                refine wpHead_one (i := 17) (by kernel_rfl) (by decide) rfl (fun K hK => ?_)
                go_simp
                have hsz := HE.out.top
                have hbl := (Below.refl u3.heap.size u3).alloc (Nat.le_refl _) (.cells #[.slice none 0 0, .int .i64 0] 28)
                obtain ⟨Bx, hBx⟩ : ∃ b, u3.heap.size = b := ⟨_, rfl⟩
                have HX0 := Blk.box u3 [.slice none 0 0, .int .i64 0] 28 hBx.symm
                have HBA := Lib.hid (show A + 1 ≤ Bx by omega)
                obtain ⟨u4, hu⟩ : ∃ x : World, x = u3.alloc (.cells #[.slice none 0 0, .int .i64 0] 28) := ⟨_, rfl⟩
                rw [← hu] at hbl HX0 ⊢
                rw [hBx] at ⊢
                clear hu hBx
                replace HE := Lib.hid (HE.out.below hbl)
                replace HO := Lib.hid (owns_below HO.out hbl)
                have HX := Lib.hid HX0
                replace HS := Lib.hid (se_cells HE.out Hx01 (by rw [HN.out]; exact hy2))
                refine hK.out _ _ HS.out ?_
                clear hK K hbl HX0 hsz
                (try simp only [Act.put, List.setIfInBounds_toArray, List.set_cons_zero, List.set_cons_succ])
                refine wpHead_done (by kernel_rfl) ?_
                simp only [List.drop_succ_cons, List.drop_zero]
                have d0 := HX.out.cell 0 _ rfl
                have d1 := HX.out.cell 1 _ rfl
                have e0 := HX.out.frozen 0
                have e1 := HX.out.frozen 1
                go_wp2_with fail
                go_meet
                have hsd : SD w w1.heap.size (A + 1) G w.heap.size A Bx 60 (.slice (some ⟨r, 0, none⟩) N c1) (.slice none 0 0) (.slice a7 (ds.length + 2) c7) ys (ds ++ [x0, x1]) st 0 u4 := by
                  obtain ⟨h1, h2, h3, h4, h5, h6, h7, h8, h9, h10, h11⟩ := HE.out
                  have hBA := HBA.out
                  exact ⟨h1.mono (by omega), h2, h3, h4, h5, HX.out, h6, by simpa using HO.out, h7, by omega, h8, h9, h10, by omega, by omega⟩
                exact ⟨_, _, _, rfl, Lib.hid (hsd.put0.put1 st)⟩
              · go_simp
                have hsz := HE.out.top
                have hbl := (Below.refl u2.heap.size u2).alloc (Nat.le_refl _) (.cells #[.slice none 0 0, .int .i64 0] 28)
                obtain ⟨Bx, hBx⟩ : ∃ b, u2.heap.size = b := ⟨_, rfl⟩
                have HX0 := Blk.box u2 [.slice none 0 0, .int .i64 0] 28 hBx.symm
                have HBA := Lib.hid (show A + 1 ≤ Bx by omega)
                obtain ⟨u3, hu⟩ : ∃ x : World, x = u2.alloc (.cells #[.slice none 0 0, .int .i64 0] 28) := ⟨_, rfl⟩
                rw [← hu] at hbl HX0 ⊢
                rw [hBx] at ⊢
                clear hu hBx
                replace HE := Lib.hid (HE.out.below hbl)
                replace HP := Lib.hid (owns_below HP.out hbl)
                replace HL := Lib.hid (HL.out.below hbl)
                have HX := Lib.hid HX0
                replace HS := Lib.hid (se_cells HE.out Hx01 (by rw [HN.out]; exact hy2))
                refine hK.out _ _ HS.out ?_
                clear hK K hbl HX0 hsz
                (try simp only [Act.put, List.setIfInBounds_toArray, List.set_cons_zero, List.set_cons_succ])
                refine wpHead_one (i := 13) (by kernel_rfl) (by decide) rfl (fun K hK => ?_)
                refine step_appN rfl _ _ 26 rfl (A + 1) 2 _ 8 Tryd.underlying26 info_i64 (by decide) rfl (.slice ap ds.length cp) ds.length (ints ds) rfl HP.out (some ⟨Lb, 0, none⟩) 2 2 (ints [x0, x1]) rfl HL.out (by intro h; cases h) (by intro u hu; obtain ⟨z, _, rfl⟩ := List.mem_map.1 hu; rfl) (by omega) HE.out.top ?_
                intro v7 u4 ho7 hg7 _
                obtain ⟨a7, c7, rfl⟩ := owns_slice ho7
                replace HE := Lib.hid (HE.out.app HP.out (Nat.le_refl _) hg7)
                replace HX := Lib.hid (HX.out.grown hg7 (owns_noblk' HP.out HX.out (by decide)).symm)
                have HO : Hid (u4.ownsRow (A + 1) 2 1 (.slice a7 (ds.length + 2) c7) (ds.length + 2) (ints (ds ++ [x0, x1]))) := Lib.hid (by simpa using ho7)
                replace HS := Lib.hid (se_cells HE.out Hx01 (by rw [HN.out]; exact hy2))
                refine hK.out _ _ HS.out ?_
                clear hK K HP HL hg7 ho7
                (try simp only [Act.put, List.setIfInBounds_toArray, List.set_cons_zero, List.set_cons_succ])
                refine wpHead_take (i := 16) (v := ?_) rfl (by kernel_rfl) (fun _ _ _ h => h) (Or.inl ⟨by rfl, ?_⟩) HS.out ?_
                rotate_left
                · intro w hSw; (try dsimp only at hSw); go_simp; (try with_reducible rfl)
                (try simp only [Act.put, List.setIfInBounds_toArray, List.set_cons_zero, List.set_cons_succ])
                refine wpHead_done (by kernel_rfl) ?_
                simp only [List.drop_succ_cons, List.drop_zero]
                have d0 := HX.out.cell 0 _ rfl
                have d1 := HX.out.cell 1 _ rfl
                have e0 := HX.out.frozen 0
                have e1 := HX.out.frozen 1
                go_wp2_with fail
                go_meet
                have hsd : SD w w1.heap.size (A + 1) G w.heap.size A Bx 60 (.slice (some ⟨r, 0, none⟩) N c1) (.slice none 0 0) (.slice a7 (ds.length + 2) c7) ys (ds ++ [x0, x1]) st 0 u4 := by
                  obtain ⟨h1, h2, h3, h4, h5, h6, h7, h8, h9, h10, h11⟩ := HE.out
                  have hBA := HBA.out
                  exact ⟨h1.mono (by omega), h2, h3, h4, h5, HX.out, h6, by simpa using HO.out, h7, by omega, h8, h9, h10, by omega, by omega⟩
                exact ⟨_, _, _, rfl, Lib.hid (hsd.put0.put1 st)⟩
            · go_simp
              have hsz := HE.out.top
              have hbl := (Below.refl u1.heap.size u1).alloc (Nat.le_refl _) (.cells #[.slice none 0 0, .int .i64 0] 28)
              obtain ⟨Bx, hBx⟩ : ∃ b, u1.heap.size = b := ⟨_, rfl⟩
              have HX0 := Blk.box u1 [.slice none 0 0, .int .i64 0] 28 hBx.symm
              have HBA := Lib.hid (show A + 1 ≤ Bx by omega)
              obtain ⟨u2, hu⟩ : ∃ x : World, x = u1.alloc (.cells #[.slice none 0 0, .int .i64 0] 28) := ⟨_, rfl⟩
              rw [← hu] at hbl HX0 ⊢
              rw [hBx] at ⊢
              clear hu hBx
              replace HE := Lib.hid (HE.out.below hbl)
              replace HP := Lib.hid (owns_below HP.out hbl)
              have HX := Lib.hid HX0
              replace HS := Lib.hid (se_cells HE.out Hx01 (by rw [HN.out]; exact hy2))
              refine hK.out _ _ HS.out ?_
              clear hK K hbl HX0 hsz
              (try simp only [Act.put, List.setIfInBounds_toArray, List.set_cons_zero, List.set_cons_succ])
              refine wpHead_one (i := 12) (by kernel_rfl) (by decide) rfl (fun K hK => ?_)
              go_simp
              have hbl := (Below.refl u2.heap.size u2).alloc (Nat.le_refl _) (.cells #[.int .i64 x0, .int .i64 x1] 2)
              have HL0 := rv_lit u2 [x0, x1] 2 (n := 2) (cs := #[.int .i64 x0, .int .i64 x1]) rfl rfl (by simp [maxLen])
              obtain ⟨u3, hu⟩ : ∃ x : World, x = u2.alloc (.cells #[.int .i64 x0, .int .i64 x1] 2) := ⟨_, rfl⟩
              rw [← hu] at hbl HL0 ⊢
              clear hu
              obtain ⟨Lb, hLb⟩ : ∃ b, u2.heap.size = b := ⟨_, rfl⟩
              rw [hLb] at HL0 ⊢
              clear hLb
              have HL := Lib.hid HL0
              replace HE := Lib.hid (HE.out.below hbl)
              replace HP := Lib.hid (owns_below HP.out hbl)
              replace HX := Lib.hid (HX.out.below hbl)
              replace HS := Lib.hid (se_cells HE.out Hx01 (by rw [HN.out]; exact hy2))
              refine hK.out _ _ HS.out ?_
              clear hK K hbl HL0
              (try simp only [Act.put, List.setIfInBounds_toArray, List.set_cons_zero, List.set_cons_succ])
              refine wpHead_one (i := 13) (by kernel_rfl) (by decide) rfl (fun K hK => ?_)
              refine step_appN rfl _ _ 26 rfl (A + 1) 2 _ 8 Tryd.underlying26 info_i64 (by decide) rfl (.slice ap ds.length cp) ds.length (ints ds) rfl HP.out (some ⟨Lb, 0, none⟩) 2 2 (ints [x0, x1]) rfl HL.out (by intro h; cases h) (by intro u hu; obtain ⟨z, _, rfl⟩ := List.mem_map.1 hu; rfl) (by omega) HE.out.top ?_
              intro v7 u4 ho7 hg7 _
              obtain ⟨a7, c7, rfl⟩ := owns_slice ho7
              replace HE := Lib.hid (HE.out.app HP.out (Nat.le_refl _) hg7)
              replace HX := Lib.hid (HX.out.grown hg7 (owns_noblk' HP.out HX.out (by decide)).symm)
              have HO : Hid (u4.ownsRow (A + 1) 2 1 (.slice a7 (ds.length + 2) c7) (ds.length + 2) (ints (ds ++ [x0, x1]))) := Lib.hid (by simpa using ho7)
              replace HS := Lib.hid (se_cells HE.out Hx01 (by rw [HN.out]; exact hy2))
              refine hK.out _ _ HS.out ?_
              clear hK K HP HL hg7 ho7
              (try simp only [Act.put, List.setIfInBounds_toArray, List.set_cons_zero, List.set_cons_succ])
              refine wpHead_take (i := 16) (v := ?_) rfl (by kernel_rfl) (fun _ _ _ h => h) (Or.inl ⟨by rfl, ?_⟩) HS.out ?_
              rotate_left
              · intro w hSw; (try dsimp only at hSw); go_simp; (try with_reducible rfl)
              (try simp only [Act.put, List.setIfInBounds_toArray, List.set_cons_zero, List.set_cons_succ])
              refine wpHead_done (by kernel_rfl) ?_
              simp only [List.drop_succ_cons, List.drop_zero]
              have d0 := HX.out.cell 0 _ rfl
              have d1 := HX.out.cell 1 _ rfl
              have e0 := HX.out.frozen 0
              have e1 := HX.out.frozen 1
              go_wp2_with fail
              go_meet
              have hsd : SD w w1.heap.size (A + 1) G w.heap.size A Bx 60 (.slice (some ⟨r, 0, none⟩) N c1) (.slice none 0 0) (.slice a7 (ds.length + 2) c7) ys (ds ++ [x0, x1]) st 0 u4 := by
                obtain ⟨h1, h2, h3, h4, h5, h6, h7, h8, h9, h10, h11⟩ := HE.out
                have hBA := HBA.out
                exact ⟨h1.mono (by omega), h2, h3, h4, h5, HX.out, h6, by simpa using HO.out, h7, by omega, h8, h9, h10, by omega, by omega⟩
              exact ⟨_, _, _, rfl, Lib.hid (hsd.put0.put1 st)⟩
          · go_simp
            have hbl := (Below.refl u0.heap.size u0).alloc (Nat.le_refl _) (.cells #[.int .i64 x0, .int .i64 x1] 2)
            have HL0 := rv_lit u0 [x0, x1] 2 (n := 2) (cs := #[.int .i64 x0, .int .i64 x1]) rfl rfl (by simp [maxLen])
            obtain ⟨u1, hu⟩ : ∃ x : World, x = u0.alloc (.cells #[.int .i64 x0, .int .i64 x1] 2) := ⟨_, rfl⟩
            rw [← hu] at hbl HL0 ⊢
            clear hu
            obtain ⟨Lb, hLb⟩ : ∃ b, u0.heap.size = b := ⟨_, rfl⟩
            rw [hLb] at HL0 ⊢
            clear hLb
            have HL := Lib.hid HL0
            replace HE := Lib.hid (HE.out.below hbl)
            replace HS := Lib.hid (se_cells HE.out Hx01 (by rw [HN.out]; exact hy2))
            refine hK.out _ _ HS.out ?_
            clear hK K hbl HL0
            (try simp only [Act.put, List.setIfInBounds_toArray, List.set_cons_zero, List.set_cons_succ])
            refine wpHead_two (i := 3) (j := 17) (by kernel_rfl) (by decide) (by decide) rfl rfl (fun K hK => ?_) (fun K hK => ?_)
            · go_simp
              have hsz := HE.out.top
              with_reducible refine (Hown.out _ HE.out).mono ?_
              rintro e u2 ⟨vp, rfl, hop, hbp⟩
              obtain ⟨ap, cp, rfl, _⟩ := hop.sliceI
              replace HE := Lib.hid (HE.out.below hbp)
              have HP : Hid (u2.ownsRow (A + 1) 2 1 (.slice ap ds.length cp) ds.length (ints ds)) := Lib.hid (by have h := hop.1; rw [List.length_map] at h; exact owns_mono h hsz)
              replace HL := Lib.hid (HL.out.below hbp)
              replace HS := Lib.hid (se_cells HE.out Hx01 (by rw [HN.out]; exact hy2))
              refine hK.out _ _ HS.out ?_
              clear hK K hop hbp hsz
              (try simp only [Act.put, List.setIfInBounds_toArray, List.set_cons_zero, List.set_cons_succ])
              refine wpHead_two (i := 13) (j := 17) (by kernel_rfl) (by decide) (by decide) rfl rfl (fun K hK => ?_) (fun K hK => ?_)
              · refine step_appN rfl _ _ 26 rfl (A + 1) 2 _ 8 Tryd.underlying26 info_i64 (by decide) rfl (.slice ap ds.length cp) ds.length (ints ds) rfl HP.out (some ⟨Lb, 0, none⟩) 2 2 (ints [x0, x1]) rfl HL.out (by intro h; cases h) (by intro u hu; obtain ⟨z, _, rfl⟩ := List.mem_map.1 hu; rfl) (by omega) HE.out.top ?_
                intro v7 u3 ho7 hg7 _
                obtain ⟨a7, c7, rfl⟩ := owns_slice ho7
                replace HE := Lib.hid (HE.out.app HP.out (Nat.le_refl _) hg7)
                have HO : Hid (u3.ownsRow (A + 1) 2 1 (.slice a7 (ds.length + 2) c7) (ds.length + 2) (ints (ds ++ [x0, x1]))) := Lib.hid (by simpa using ho7)
                replace HS := Lib.hid (se_cells HE.out Hx01 (by rw [HN.out]; exact hy2))
                refine hK.out _ _ HS.out ?_
                clear hK K HP HL hg7 ho7
                (try simp only [Act.put, List.setIfInBounds_toArray, List.set_cons_zero, List.set_cons_succ])
                refine wpHead_take (i := 16) (v := ?_) rfl (by kernel_rfl) (fun _ _ _ h => h) (Or.inl ⟨by rfl, ?_⟩) HS.out ?_
                rotate_left
                · intro w hSw; (try dsimp only at hSw); go_simp; (try with_reducible rfl)
                (try simp only [Act.put, List.setIfInBounds_toArray, List.set_cons_zero, List.set_cons_succ])
                refine wpHead_one (i := 17) (by kernel_rfl) (by decide) rfl (fun K hK => ?_)
                go_simp
                have hsz := HE.out.top
                have hbl := (Below.refl u3.heap.size u3).alloc (Nat.le_refl _) (.cells #[.slice none 0 0, .int .i64 0] 28)
                obtain ⟨Bx, hBx⟩ : ∃ b, u3.heap.size = b := ⟨_, rfl⟩
                have HX0 := Blk.box u3 [.slice none 0 0, .int .i64 0] 28 hBx.symm
                have HBA := Lib.hid (show A + 1 ≤ Bx by omega)
                obtain ⟨u4, hu⟩ : ∃ x : World, x = u3.alloc (.cells #[.slice none 0 0, .int .i64 0] 28) := ⟨_, rfl⟩
                rw [← hu] at hbl HX0 ⊢
                rw [hBx] at ⊢
                clear hu hBx
                replace HE := Lib.hid (HE.out.below hbl)
                replace HO := Lib.hid (owns_below HO.out hbl)
                have HX := Lib.hid HX0
                replace HS := Lib.hid (se_cells HE.out Hx01 (by rw [HN.out]; exact hy2))
                refine hK.out _ _ HS.out ?_
                clear hK K hbl HX0 hsz
                (try simp only [Act.put, List.setIfInBounds_toArray, List.set_cons_zero, List.set_cons_succ])
                refine wpHead_done (by kernel_rfl) ?_
                simp only [List.drop_succ_cons, List.drop_zero]
                have d0 := HX.out.cell 0 _ rfl
                have d1 := HX.out.cell 1 _ rfl
                have e0 := HX.out.frozen 0
                have e1 := HX.out.frozen 1
                go_wp2_with fail
                go_meet
                have hsd : SD w w1.heap.size (A + 1) G w.heap.size A Bx 60 (.slice (some ⟨r, 0, none⟩) N c1) (.slice none 0 0) (.slice a7 (ds.length + 2) c7) ys (ds ++ [x0, x1]) st 0 u4 := by
                  obtain ⟨h1, h2, h3, h4, h5, h6, h7, h8, h9, h10, h11⟩ := HE.out
                  have hBA := HBA.out
                  exact ⟨h1.mono (by omega), h2, h3, h4, h5, HX.out, h6, by simpa using HO.out, h7, by omega, h8, h9, h10, by omega, by omega⟩
                exact ⟨_, _, _, rfl, Lib.hid (hsd.put0.put1 st)⟩
              · go_simp
                have hsz := HE.out.top
                have hbl := (Below.refl u2.heap.size u2).alloc (Nat.le_refl _) (.cells #[.slice none 0 0, .int .i64 0] 28)
                obtain ⟨Bx, hBx⟩ : ∃ b, u2.heap.size = b := ⟨_, rfl⟩
                have HX0 := Blk.box u2 [.slice none 0 0, .int .i64 0] 28 hBx.symm
                have HBA := Lib.hid (show A + 1 ≤ Bx by omega)
                obtain ⟨u3, hu⟩ : ∃ x : World, x = u2.alloc (.cells #[.slice none 0 0, .int .i64 0] 28) := ⟨_, rfl⟩
                rw [← hu] at hbl HX0 ⊢
                rw [hBx] at ⊢
                clear hu hBx
                replace HE := Lib.hid (HE.out.below hbl)
                replace HP := Lib.hid (owns_below HP.out hbl)
                replace HL := Lib.hid (HL.out.below hbl)
                have HX := Lib.hid HX0
                replace HS := Lib.hid (se_cells HE.out Hx01 (by rw [HN.out]; exact hy2))
                refine hK.out _ _ HS.out ?_
                clear hK K hbl HX0 hsz
                (try simp only [Act.put, List.setIfInBounds_toArray, List.set_cons_zero, List.set_cons_succ])
                refine wpHead_one (i := 13) (by kernel_rfl) (by decide) rfl (fun K hK => ?_)
                refine step_appN rfl _ _ 26 rfl (A + 1) 2 _ 8 Tryd.underlying26 info_i64 (by decide) rfl (.slice ap ds.length cp) ds.length (ints ds) rfl HP.out (some ⟨Lb, 0, none⟩) 2 2 (ints [x0, x1]) rfl HL.out (by intro h; cases h) (by intro u hu; obtain ⟨z, _, rfl⟩ := List.mem_map.1 hu; rfl) (by omega) HE.out.top ?_
                intro v7 u4 ho7 hg7 _
                obtain ⟨a7, c7, rfl⟩ := owns_slice ho7
                replace HE := Lib.hid (HE.out.app HP.out (Nat.le_refl _) hg7)
                replace HX := Lib.hid (HX.out.grown hg7 (owns_noblk' HP.out HX.out (by decide)).symm)
                have HO : Hid (u4.ownsRow (A + 1) 2 1 (.slice a7 (ds.length + 2) c7) (ds.length + 2) (ints (ds ++ [x0, x1]))) := Lib.hid (by simpa using ho7)
                replace HS := Lib.hid (se_cells HE.out Hx01 (by rw [HN.out]; exact hy2))
                refine hK.out _ _ HS.out ?_
                clear hK K HP HL hg7 ho7
                (try simp only [Act.put, List.setIfInBounds_toArray, List.set_cons_zero, List.set_cons_succ])
                refine wpHead_take (i := 16) (v := ?_) rfl (by kernel_rfl) (fun _ _ _ h => h) (Or.inl ⟨by rfl, ?_⟩) HS.out ?_
                rotate_left
                · intro w hSw; (try dsimp only at hSw); go_simp; (try with_reducible rfl)
                (try simp only [Act.put, List.setIfInBounds_toArray, List.set_cons_zero, List.set_cons_succ])
                refine wpHead_done (by kernel_rfl) ?_
                simp only [List.drop_succ_cons, List.drop_zero]
                have d0 := HX.out.cell 0 _ rfl
                have d1 := HX.out.cell 1 _ rfl
                have e0 := HX.out.frozen 0
                have e1 := HX.out.frozen 1
                go_wp2_with fail
                go_meet
                have hsd : SD w w1.heap.size (A + 1) G w.heap.size A Bx 60 (.slice (some ⟨r, 0, none⟩) N c1) (.slice none 0 0) (.slice a7 (ds.length + 2) c7) ys (ds ++ [x0, x1]) st 0 u4 := by
                  obtain ⟨h1, h2, h3, h4, h5, h6, h7, h8, h9, h10, h11⟩ := HE.out
                  have hBA := HBA.out
                  exact ⟨h1.mono (by omega), h2, h3, h4, h5, HX.out, h6, by simpa using HO.out, h7, by omega, h8, h9, h10, by omega, by omega⟩
                exact ⟨_, _, _, rfl, Lib.hid (hsd.put0.put1 st)⟩
            · go_simp
              have hsz := HE.out.top
              have hbl := (Below.refl u1.heap.size u1).alloc (Nat.le_refl _) (.cells #[.slice none 0 0, .int .i64 0] 28)
              obtain ⟨Bx, hBx⟩ : ∃ b, u1.heap.size = b := ⟨_, rfl⟩
              have HX0 := Blk.box u1 [.slice none 0 0, .int .i64 0] 28 hBx.symm
              have HBA := Lib.hid (show A + 1 ≤ Bx by omega)
              obtain ⟨u2, hu⟩ : ∃ x : World, x = u1.alloc (.cells #[.slice none 0 0, .int .i64 0] 28) := ⟨_, rfl⟩
              rw [← hu] at hbl HX0 ⊢
              rw [hBx] at ⊢
              clear hu hBx
              replace HE := Lib.hid (HE.out.below hbl)
              replace HL := Lib.hid (HL.out.below hbl)
              have HX := Lib.hid HX0
              replace HS := Lib.hid (se_cells HE.out Hx01 (by rw [HN.out]; exact hy2))
              refine hK.out _ _ HS.out ?_
              clear hK K hbl HX0 hsz
              (try simp only [Act.put, List.setIfInBounds_toArray, List.set_cons_zero, List.set_cons_succ])
              refine wpHead_one (i := 3) (by kernel_rfl) (by decide) rfl (fun K hK => ?_)
              go_simp
              have hsz := HE.out.top
              with_reducible refine (Hown.out _ HE.out).mono ?_
              rintro e u3 ⟨vp, rfl, hop, hbp⟩
              obtain ⟨ap, cp, rfl, _⟩ := hop.sliceI
              replace HE := Lib.hid (HE.out.below hbp)
              have HP : Hid (u3.ownsRow (A + 1) 2 1 (.slice ap ds.length cp) ds.length (ints ds)) := Lib.hid (by have h := hop.1; rw [List.length_map] at h; exact owns_mono h hsz)
              replace HL := Lib.hid (HL.out.below hbp)
              replace HX := Lib.hid (HX.out.below hbp)
              replace HS := Lib.hid (se_cells HE.out Hx01 (by rw [HN.out]; exact hy2))
              refine hK.out _ _ HS.out ?_
              clear hK K hop hbp hsz
              (try simp only [Act.put, List.setIfInBounds_toArray, List.set_cons_zero, List.set_cons_succ])
              refine wpHead_one (i := 13) (by kernel_rfl) (by decide) rfl (fun K hK => ?_)
              refine step_appN rfl _ _ 26 rfl (A + 1) 2 _ 8 Tryd.underlying26 info_i64 (by decide) rfl (.slice ap ds.length cp) ds.length (ints ds) rfl HP.out (some ⟨Lb, 0, none⟩) 2 2 (ints [x0, x1]) rfl HL.out (by intro h; cases h) (by intro u hu; obtain ⟨z, _, rfl⟩ := List.mem_map.1 hu; rfl) (by omega) HE.out.top ?_
              intro v7 u4 ho7 hg7 _
              obtain ⟨a7, c7, rfl⟩ := owns_slice ho7
              replace HE := Lib.hid (HE.out.app HP.out (Nat.le_refl _) hg7)
              replace HX := Lib.hid (HX.out.grown hg7 (owns_noblk' HP.out HX.out (by decide)).symm)
              have HO : Hid (u4.ownsRow (A + 1) 2 1 (.slice a7 (ds.length + 2) c7) (ds.length + 2) (ints (ds ++ [x0, x1]))) := Lib.hid (by simpa using ho7)
              replace HS := Lib.hid (se_cells HE.out Hx01 (by rw [HN.out]; exact hy2))
              refine hK.out _ _ HS.out ?_
              clear hK K HP HL hg7 ho7
              (try simp only [Act.put, List.setIfInBounds_toArray, List.set_cons_zero, List.set_cons_succ])
              refine wpHead_take (i := 16) (v := ?_) rfl (by kernel_rfl) (fun _ _ _ h => h) (Or.inl ⟨by rfl, ?_⟩) HS.out ?_
              rotate_left
              · intro w hSw; (try dsimp only at hSw); go_simp; (try with_reducible rfl)
              (try simp only [Act.put, List.setIfInBounds_toArray, List.set_cons_zero, List.set_cons_succ])
              refine wpHead_done (by kernel_rfl) ?_
              simp only [List.drop_succ_cons, List.drop_zero]
              have d0 := HX.out.cell 0 _ rfl
              have d1 := HX.out.cell 1 _ rfl
              have e0 := HX.out.frozen 0
              have e1 := HX.out.frozen 1
              go_wp2_with fail
              go_meet
              have hsd : SD w w1.heap.size (A + 1) G w.heap.size A Bx 60 (.slice (some ⟨r, 0, none⟩) N c1) (.slice none 0 0) (.slice a7 (ds.length + 2) c7) ys (ds ++ [x0, x1]) st 0 u4 := by
                obtain ⟨h1, h2, h3, h4, h5, h6, h7, h8, h9, h10, h11⟩ := HE.out
                have hBA := HBA.out
                exact ⟨h1.mono (by omega), h2, h3, h4, h5, HX.out, h6, by simpa using HO.out, h7, by omega, h8, h9, h10, by omega, by omega⟩
              exact ⟨_, _, _, rfl, Lib.hid (hsd.put0.put1 st)⟩
          · go_simp
            have hsz := HE.out.top
            have hbl := (Below.refl u0.heap.size u0).alloc (Nat.le_refl _) (.cells #[.slice none 0 0, .int .i64 0] 28)
            obtain ⟨Bx, hBx⟩ : ∃ b, u0.heap.size = b := ⟨_, rfl⟩
            have HX0 := Blk.box u0 [.slice none 0 0, .int .i64 0] 28 hBx.symm
            have HBA := Lib.hid (show A + 1 ≤ Bx by omega)
            obtain ⟨u1, hu⟩ : ∃ x : World, x = u0.alloc (.cells #[.slice none 0 0, .int .i64 0] 28) := ⟨_, rfl⟩
            rw [← hu] at hbl HX0 ⊢
            rw [hBx] at ⊢
            clear hu hBx
            replace HE := Lib.hid (HE.out.below hbl)
            have HX := Lib.hid HX0
            replace HS := Lib.hid (se_cells HE.out Hx01 (by rw [HN.out]; exact hy2))
            refine hK.out _ _ HS.out ?_
            clear hK K hbl HX0 hsz
            (try simp only [Act.put, List.setIfInBounds_toArray, List.set_cons_zero, List.set_cons_succ])
            refine wpHead_two (i := 3) (j := 12) (by kernel_rfl) (by decide) (by decide) rfl rfl (fun K hK => ?_) (fun K hK => ?_)
            · go_simp
              have hsz := HE.out.top
              with_reducible refine (Hown.out _ HE.out).mono ?_
              rintro e u2 ⟨vp, rfl, hop, hbp⟩
              obtain ⟨ap, cp, rfl, _⟩ := hop.sliceI
              replace HE := Lib.hid (HE.out.below hbp)
              have HP : Hid (u2.ownsRow (A + 1) 2 1 (.slice ap ds.length cp) ds.length (ints ds)) := Lib.hid (by have h := hop.1; rw [List.length_map] at h; exact owns_mono h hsz)
              replace HX := Lib.hid (HX.out.below hbp)
              replace HS := Lib.hid (se_cells HE.out Hx01 (by rw [HN.out]; exact hy2))
              refine hK.out _ _ HS.out ?_
              clear hK K hop hbp hsz
              (try simp only [Act.put, List.setIfInBounds_toArray, List.set_cons_zero, List.set_cons_succ])
              refine wpHead_one (i := 12) (by kernel_rfl) (by decide) rfl (fun K hK => ?_)
              go_simp
              have hbl := (Below.refl u2.heap.size u2).alloc (Nat.le_refl _) (.cells #[.int .i64 x0, .int .i64 x1] 2)
              have HL0 := rv_lit u2 [x0, x1] 2 (n := 2) (cs := #[.int .i64 x0, .int .i64 x1]) rfl rfl (by simp [maxLen])
              obtain ⟨u3, hu⟩ : ∃ x : World, x = u2.alloc (.cells #[.int .i64 x0, .int .i64 x1] 2) := ⟨_, rfl⟩
              rw [← hu] at hbl HL0 ⊢
              clear hu
              obtain ⟨Lb, hLb⟩ : ∃ b, u2.heap.size = b := ⟨_, rfl⟩
              rw [hLb] at HL0 ⊢
              clear hLb
              have HL := Lib.hid HL0
              replace HE := Lib.hid (HE.out.below hbl)
              replace HP := Lib.hid (owns_below HP.out hbl)
              replace HX := Lib.hid (HX.out.below hbl)
              replace HS := Lib.hid (se_cells HE.out Hx01 (by rw [HN.out]; exact hy2))
              refine hK.out _ _ HS.out ?_
              clear hK K hbl HL0
              (try simp only [Act.put, List.setIfInBounds_toArray, List.set_cons_zero, List.set_cons_succ])
              refine wpHead_one (i := 13) (by kernel_rfl) (by decide) rfl (fun K hK => ?_)
              refine step_appN rfl _ _ 26 rfl (A + 1) 2 _ 8 Tryd.underlying26 info_i64 (by decide) rfl (.slice ap ds.length cp) ds.length (ints ds) rfl HP.out (some ⟨Lb, 0, none⟩) 2 2 (ints [x0, x1]) rfl HL.out (by intro h; cases h) (by intro u hu; obtain ⟨z, _, rfl⟩ := List.mem_map.1 hu; rfl) (by omega) HE.out.top ?_
              intro v7 u4 ho7 hg7 _
              obtain ⟨a7, c7, rfl⟩ := owns_slice ho7
              replace HE := Lib.hid (HE.out.app HP.out (Nat.le_refl _) hg7)
              replace HX := Lib.hid (HX.out.grown hg7 (owns_noblk' HP.out HX.out (by decide)).symm)
              have HO : Hid (u4.ownsRow (A + 1) 2 1 (.slice a7 (ds.length + 2) c7) (ds.length + 2) (ints (ds ++ [x0, x1]))) := Lib.hid (by simpa using ho7)
              replace HS := Lib.hid (se_cells HE.out Hx01 (by rw [HN.out]; exact hy2))
              refine hK.out _ _ HS.out ?_
              clear hK K HP HL hg7 ho7
              (try simp only [Act.put, List.setIfInBounds_toArray, List.set_cons_zero, List.set_cons_succ])
              refine wpHead_take (i := 16) (v := ?_) rfl (by kernel_rfl) (fun _ _ _ h => h) (Or.inl ⟨by rfl, ?_⟩) HS.out ?_
              rotate_left
              · intro w hSw; (try dsimp only at hSw); go_simp; (try with_reducible rfl)
              (try simp only [Act.put, List.setIfInBounds_toArray, List.set_cons_zero, List.set_cons_succ])
              refine wpHead_done (by kernel_rfl) ?_
              simp only [List.drop_succ_cons, List.drop_zero]
              have d0 := HX.out.cell 0 _ rfl
              have d1 := HX.out.cell 1 _ rfl
              have e0 := HX.out.frozen 0
              have e1 := HX.out.frozen 1
              go_wp2_with fail
              go_meet
              have hsd : SD w w1.heap.size (A + 1) G w.heap.size A Bx 60 (.slice (some ⟨r, 0, none⟩) N c1) (.slice none 0 0) (.slice a7 (ds.length + 2) c7) ys (ds ++ [x0, x1]) st 0 u4 := by
                obtain ⟨h1, h2, h3, h4, h5, h6, h7, h8, h9, h10, h11⟩ := HE.out
                have hBA := HBA.out
                exact ⟨h1.mono (by omega), h2, h3, h4, h5, HX.out, h6, by simpa using HO.out, h7, by omega, h8, h9, h10, by omega, by omega⟩
              exact ⟨_, _, _, rfl, Lib.hid (hsd.put0.put1 st)⟩
            · go_simp
              have hbl := (Below.refl u1.heap.size u1).alloc (Nat.le_refl _) (.cells #[.int .i64 x0, .int .i64 x1] 2)
              have HL0 := rv_lit u1 [x0, x1] 2 (n := 2) (cs := #[.int .i64 x0, .int .i64 x1]) rfl rfl (by simp [maxLen])
              obtain ⟨u2, hu⟩ : ∃ x : World, x = u1.alloc (.cells #[.int .i64 x0, .int .i64 x1] 2) := ⟨_, rfl⟩
              rw [← hu] at hbl HL0 ⊢
              clear hu
              obtain ⟨Lb, hLb⟩ : ∃ b, u1.heap.size = b := ⟨_, rfl⟩
              rw [hLb] at HL0 ⊢
              clear hLb
              have HL := Lib.hid HL0
              replace HE := Lib.hid (HE.out.below hbl)
              replace HX := Lib.hid (HX.out.below hbl)
              replace HS := Lib.hid (se_cells HE.out Hx01 (by rw [HN.out]; exact hy2))
              refine hK.out _ _ HS.out ?_
              clear hK K hbl HL0
              (try simp only [Act.put, List.setIfInBounds_toArray, List.set_cons_zero, List.set_cons_succ])
              refine wpHead_one (i := 3) (by kernel_rfl) (by decide) rfl (fun K hK => ?_)
              go_simp
              have hsz := HE.out.top
              with_reducible refine (Hown.out _ HE.out).mono ?_
              rintro e u3 ⟨vp, rfl, hop, hbp⟩
              obtain ⟨ap, cp, rfl, _⟩ := hop.sliceI
              replace HE := Lib.hid (HE.out.below hbp)
              have HP : Hid (u3.ownsRow (A + 1) 2 1 (.slice ap ds.length cp) ds.length (ints ds)) := Lib.hid (by have h := hop.1; rw [List.length_map] at h; exact owns_mono h hsz)
              replace HL := Lib.hid (HL.out.below hbp)
              replace HX := Lib.hid (HX.out.below hbp)
              replace HS := Lib.hid (se_cells HE.out Hx01 (by rw [HN.out]; exact hy2))
              refine hK.out _ _ HS.out ?_
              clear hK K hop hbp hsz
              (try simp only [Act.put, List.setIfInBounds_toArray, List.set_cons_zero, List.set_cons_succ])
              refine wpHead_one (i := 13) (by kernel_rfl) (by decide) rfl (fun K hK => ?_)
              refine step_appN rfl _ _ 26 rfl (A + 1) 2 _ 8 Tryd.underlying26 info_i64 (by decide) rfl (.slice ap ds.length cp) ds.length (ints ds) rfl HP.out (some ⟨Lb, 0, none⟩) 2 2 (ints [x0, x1]) rfl HL.out (by intro h; cases h) (by intro u hu; obtain ⟨z, _, rfl⟩ := List.mem_map.1 hu; rfl) (by omega) HE.out.top ?_
              intro v7 u4 ho7 hg7 _
              obtain ⟨a7, c7, rfl⟩ := owns_slice ho7
              replace HE := Lib.hid (HE.out.app HP.out (Nat.le_refl _) hg7)
              replace HX := Lib.hid (HX.out.grown hg7 (owns_noblk' HP.out HX.out (by decide)).symm)
              have HO : Hid (u4.ownsRow (A + 1) 2 1 (.slice a7 (ds.length + 2) c7) (ds.length + 2) (ints (ds ++ [x0, x1]))) := Lib.hid (by simpa using ho7)
              replace HS := Lib.hid (se_cells HE.out Hx01 (by rw [HN.out]; exact hy2))
              refine hK.out _ _ HS.out ?_
              clear hK K HP HL hg7 ho7
              (try simp only [Act.put, List.setIfInBounds_toArray, List.set_cons_zero, List.set_cons_succ])
              refine wpHead_take (i := 16) (v := ?_) rfl (by kernel_rfl) (fun _ _ _ h => h) (Or.inl ⟨by rfl, ?_⟩) HS.out ?_
              rotate_left
              · intro w hSw; (try dsimp only at hSw); go_simp; (try with_reducible rfl)
              (try simp only [Act.put, List.setIfInBounds_toArray, List.set_cons_zero, List.set_cons_succ])
              refine wpHead_done (by kernel_rfl) ?_
              simp only [List.drop_succ_cons, List.drop_zero]
              have d0 := HX.out.cell 0 _ rfl
              have d1 := HX.out.cell 1 _ rfl
              have e0 := HX.out.frozen 0
              have e1 := HX.out.frozen 1
              go_wp2_with fail
              go_meet
              have hsd : SD w w1.heap.size (A + 1) G w.heap.size A Bx 60 (.slice (some ⟨r, 0, none⟩) N c1) (.slice none 0 0) (.slice a7 (ds.length + 2) c7) ys (ds ++ [x0, x1]) st 0 u4 := by
                obtain ⟨h1, h2, h3, h4, h5, h6, h7, h8, h9, h10, h11⟩ := HE.out
                have hBA := HBA.out
                exact ⟨h1.mono (by omega), h2, h3, h4, h5, HX.out, h6, by simpa using HO.out, h7, by omega, h8, h9, h10, by omega, by omega⟩
              exact ⟨_, _, _, rfl, Lib.hid (hsd.put0.put1 st)⟩
      clear HE
      obtain ⟨B, vb, zs, rfl, HD⟩ := hcut
      obtain ⟨ab, cb, rfl⟩ := owns_slice HD.out.own
      obtain ⟨⟨k0, k1, k2, k3, k4, k5⟩, ⟨q0, q1, q2, q3, q4, q5, q6, q7⟩, ⟨n1, n2, n3, n4, n5, n6, n7, n8, n9⟩⟩ := HD.out.facts
      have n2' := n2.symm
      have n3' := n3.symm
      have n4' := n4.symm
      have n5' := n5.symm
      go_wp2_with fail
      go_region
      go_wp2_with fail
      obtain ⟨⟨o0, o1, o2, o3⟩, p1, p2, p3⟩ := HD.out.fin rfl
      exact bodyPost_ret (v := .tuple #[.agg #[.slice (some ⟨r, 0, none⟩) N c1, .int .i64 st], .agg #[.slice ab zs.length cb, .int .i64 st]]) (by simp [results, Tryd.results14, go_sem, o0, o1, o2, o3]) rfl ⟨_, _, _, _, _, _, rfl, p1, p2, p3⟩
  · go_wp2_with fail
    refine wp_region_head (fun w' => w'.cell? ⟨A, 0, none⟩ = some (.slice a ys.length c1) ∧ w'.cell? ⟨A, 1, none⟩ = some (.int .i64 st)) 3 (by kernel_rfl) (by decide) ?_
    replace HE := Lib.hid (HE.out.below (bdrewN (Below.refl _ _) 1))
    obtain ⟨wq, hwq⟩ : ∃ x : World, x = w3.drew := ⟨_, rfl⟩
    have HE' : Hid (SE w w1.heap.size G w.heap.size A 42 (.slice a ys.length c1) ys st wq) := by rw [hwq]; exact HE
    rw [← hwq]
    clear hwq HE
    have HE := HE'
    clear HE'
    have HS := Lib.hid HE.out.facts.1
    refine wpHead_take (i := 0) (v := ?_) rfl (by kernel_rfl) (fun _ _ _ h => h) (Or.inl ⟨by rfl, ?_⟩) HS.out ?_
    rotate_left
    · intro w hSw; (try dsimp only at hSw); go_simp; (try with_reducible rfl)
    (try simp only [Act.put, List.setIfInBounds_toArray, List.set_cons_zero, List.set_cons_succ])
    refine wpHead_take (i := 1) (v := ?_) rfl (by kernel_rfl) (fun _ _ _ h => h) (Or.inl ⟨by rfl, ?_⟩) HS.out ?_
    rotate_left
    · intro w hSw; (try dsimp only at hSw); go_simp; (try with_reducible rfl)
    (try simp only [Act.put, List.setIfInBounds_toArray, List.set_cons_zero, List.set_cons_succ])
    refine wpHead_one (i := 2) (by kernel_rfl) (by decide) rfl (fun K hK => ?_)
    go_simp
    with_reducible refine (l09Draw_any _ _ _ HE.out.src (by omega)).mono ?_
    rintro e w5 ⟨v5, zs, st5, rfl, hl5, ho5, hs5, hg5⟩
    obtain ⟨a5, c5, rfl, _⟩ := ho5.sliceI
    have HE5 := Lib.hid (HE.out.next hs5 hg5)
    have HS5 := Lib.hid HE5.out.facts.1
    have hzq := HE.out.size
    refine hK.out _ _ HS5.out ?_
    clear hK K HE HS hs5 hg5
    (try simp only [Act.put, List.setIfInBounds_toArray, List.set_cons_zero, List.set_cons_succ])
    refine wpHead_done (by kernel_rfl) ?_
    simp only [List.drop_succ_cons, List.drop_zero]
    obtain ⟨_, ⟨q0, q1, q2, q3, q4, q5, q6, q7⟩, ⟨n1, n2, n3, n4⟩⟩ := HE5.out.facts
    go_wp2_with fail
    obtain ⟨h1, h2, h3, h4, h5, h6, h7, h8, h9, h10, h11⟩ := HE5.out
    obtain ⟨⟨o0, o1, o2, o3⟩, p1, p2, p3⟩ := fin_gen h2 h3 h4 (owns_mono h6.1 (show w.heap.size ≤ _ by omega)) (owns_mono ho5.1 hzq) (Nat.le_refl _) (a := st) (b := st5) rfl
    exact bodyPost_ret (v := .tuple #[.agg #[.slice a ys.length c1, .int .i64 st], .agg #[.slice a5 zs.length c5, .int .i64 st5]]) (by simp [results, Tryd.results14, go_sem, o0, o1, o2, o3]) rfl ⟨_, _, _, _, _, _, rfl, Own.of p1, Own.of p2, p3⟩
end Go.Proofs.YtggbnibdpkblgaaDoor
