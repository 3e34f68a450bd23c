/-
  Regions that draw their order and end in a row of stores that wait for all else: the head under a condition on the world, the tail in the text's order. No program in sight.
-/
import Derived.Test.YtggbnibdpkblgaaDoorKit
import Derived.StillTail
import Derived.Maps.AppendAt
import Derived.Deep.AppendLies
import Derived.Laws.AppendOwnNone
import Derived.Deep.RegionHeld3
namespace Go.Proofs.YtggbnibdpkblgaaDoor
open Go Go.RowKit
set_option linter.unusedVariables false

section
variable {P : Program} {ops : Array Oper} {Q : Exit → Act → World → Prop} {md : Region.Mode} {S : World → Prop} {n : Nat} {L : Act → World → Prop}

/-- Whatever order is picked of the first n operations; S holds behind each; L when all have come up. -/
def wpHead (P : Program) (md : Region.Mode) (ops : Array Oper) (Q : Exit → Act → World → Prop) (S : World → Prop) (n : Nat) (L : Act → World → Prop) : Nat → Array Bool → Act → World → Prop
  | 0, listed, a, w => Region.seqB md ops (ops.size - n) n listed = true ∧ L a w
  | f + 1, listed, a, w => Region.ready md ops listed ≠ [] ∧ ∀ i ∈ Region.ready md ops listed, i < n ∧ wpOp P ops Q i (fun a' w' => S w' ∧ wpHead P md ops Q S n L f (listed.setIfInBounds i true) a' w') a w

theorem wpAny_of_wpHead {l : List Oper} (hl : ops = l.toArray) (hL : ∀ a w, L a w → wpList P ops Q (l.drop n) a w) (hn : n ≤ ops.size) :
    ∀ (f : Nat) (listed : Array Bool) (a : Act) (w : World), wpHead P md ops Q S n L f listed a w → wpAny P md ops Q (f + (ops.size - n)) listed a w
  | 0, listed, a, w, h => by
    have hdl : (l.drop n).length = ops.size - n := by subst hl; simp
    have := wpAny_of_seq (P := P) (ops := ops) (md := md) (Q' := Q) (l.drop n) n listed a w (fun j => by subst hl; simp [List.getElem?_drop]) (by rw [hdl]; exact h.1) (hL _ _ h.2)
    rw [hdl] at this
    rwa [Nat.zero_add]
  | f + 1, listed, a, w, h => by
    rw [show f + 1 + (ops.size - n) = (f + (ops.size - n)) + 1 by omega]
    exact ⟨fun h0 => absurd h0 h.1, fun i hi => wpOp_mono (fun a' w' h' => wpAny_of_wpHead hl hL hn f _ a' w' h'.2) (h.2 i hi).2⟩

theorem wpHead_first {i : Nat} {oi : Oper} {v : Value} (hi : ops[i]? = some oi) (hsel : ∀ (j : Nat) (o : Oper) cs b, ops[j]? = some o → o.op ≠ .select cs b)
    (hs : Region.sinkB md ops n = true) (hc : Region.chainB md ops n = true) (hn : n < ops.size) (hin : i < n)
    (hQ : ∀ c a w, Q (.panic c) (a.put oi.dst v) w → Q (.panic c) a w) :
    ∀ (f : Nat) (listed : Array Bool) (a : Act) (w : World), HeadInv md ops n listed →
      (∀ j oj, ops[j]? = some oj → j ≠ i → listed.getD j true = false → (∀ e ∈ oj.after, Region.binds md e = true → e.on ≠ i) → oi.apart ops oj = true) →
      i ∈ Region.ready md ops listed → YieldsIf P ops S oi v a → S w →
      wpHead P md ops Q S n L f (listed.setIfInBounds i true) (a.put oi.dst v) w → wpHead P md ops Q S n L (f + 1) listed a w := by
  intro f
  induction f with
  | zero =>
    intro listed a w inv _ hr hy hS H
    have hun := (mem_ready.1 hr).1
    refine ⟨fun h => (by rw [h] at hr; cases hr), fun j hj => ?_⟩
    have hjn : j < n := by
      rcases Nat.lt_or_ge j n with h | h
      · exact h
      · exact absurd hj (tail_waits hs hc hn inv _ i rfl hin hun j h)
    refine ⟨hjn, ?_⟩
    by_cases hji : j = i
    · subst hji; exact hy.wpOp hi hS ⟨hS, H⟩
    · have := seqB_ready H.1 j (ready_mono hj hji)
      omega
  | succ f ih =>
    intro listed a w inv hfree hr hy hS H
    have hun := (mem_ready.1 hr).1
    refine ⟨fun h => (by rw [h] at hr; cases hr), fun j hj => ?_⟩
    have hjn : j < n := by
      rcases Nat.lt_or_ge j n with h | h
      · exact h
      · exact absurd hj (tail_waits hs hc hn inv _ i rfl hin hun j h)
    refine ⟨hjn, ?_⟩
    by_cases hji : j = i
    · subst hji; exact hy.wpOp hi hS ⟨hS, H⟩
    · have h1 := (H.2 j (ready_mono hj hji)).2
      obtain ⟨hjun, oj, hoj, hall⟩ := mem_ready.1 hj
      have hnot : ∀ e ∈ oj.after, Region.binds md e = true → e.on ≠ i := fun e he hb heq => by
        have h1 := hall e he hb
        rw [heq, getD_both hun] at h1
        cases h1
      have h2 := wpOp_putIf hoj (hfree j oj hoj hji hjun hnot) (fun cs b => hsel i oi cs b hi) (fun cs b => hsel j oj cs b hoj) hQ hy h1
      have hfree' : ∀ k ok, ops[k]? = some ok → k ≠ i → (listed.setIfInBounds j true).getD k true = false →
          (∀ e ∈ ok.after, Region.binds md e = true → e.on ≠ i) → oi.apart ops ok = true := fun k ok hk hki hun hno => by
        refine hfree k ok hk hki ?_ hno
        by_cases hjk : j = k
        · subst hjk; exact hjun
        · rw [getD_set_ne true hjk] at hun; exact hun
      refine wpOp_mono (fun a' w' h3 => ⟨h3.2.1, ih (listed.setIfInBounds j true) a' w' (inv.set hj hjn) hfree' (ready_mono hr (Ne.symm hji)) h3.1 h3.2.1 ?_⟩) h2
      rw [Array.setIfInBounds_comm _ _ hji]
      exact h3.2.2

/-- what a state of the head must be for a take: all in Bools -/
def headOk (md : Region.Mode) (ops : Array Oper) (n : Nat) (listed : Array Bool) : Bool :=
  decide (listed.size = ops.size) && ((List.range ops.size).all fun j => !listed.getD j false || ((ops[j]?).map (·.after.all fun e => !Region.binds md e || listed.getD e.on false)).getD true) &&
    ((List.range ops.size).all fun t => decide (t < n) || !listed.getD t true)
theorem headOk_inv {listed : Array Bool} (h : headOk md ops n listed = true) : HeadInv md ops n listed := by
  simp only [headOk, Bool.and_eq_true, decide_eq_true_eq, List.all_eq_true, List.mem_range, Bool.or_eq_true, Bool.not_eq_true'] at h
  obtain ⟨⟨h1, h2⟩, h3⟩ := h
  refine ⟨h1, fun j oj hj hl e he hb => ?_, fun t ht ht' => ?_⟩
  · have hlt := (Array.getElem?_eq_some_iff.1 hj).1
    have := h2 j hlt
    rw [hl, hj] at this
    simp only [Bool.true_eq_false, false_or, Option.map_some, Option.getD_some] at this
    have := Array.all_eq_true'.1 this e he
    simp only [Bool.or_eq_true, Bool.not_eq_true'] at this
    rcases this with h | h
    · rw [hb] at h; cases h
    · exact h
  · have := h3 t ht'
    rcases this with h | h
    · omega
    · exact h
/-- take number i first -/
theorem wpHead_take {l : List Oper} {i : Nat} {oi : Oper} {v : Value} {f : Nat} {listed : Array Bool} {a : Act} {w : World} (hi : l[i]? = some oi)
    (hb : (Region.noSelect l.toArray && Region.sinkB md l.toArray n && Region.chainB md l.toArray n && decide (n < l.toArray.size) && decide (i < n) && headOk md l.toArray n listed && Region.free md l.toArray listed i && (Region.ready md l.toArray listed).contains i) = true)
    (hQ : ∀ c a w, Q (.panic c) (a.put oi.dst v) w → Q (.panic c) a w) (hy : YieldsIf P l.toArray S oi v a) (hS : S w)
    (h : wpHead P md l.toArray Q S n L f (listed.setIfInBounds i true) (a.put oi.dst v) w) : wpHead P md l.toArray Q S n L (f + 1) listed a w := by
  have hi' : l.toArray[i]? = some oi := by simpa using hi
  simp only [Bool.and_eq_true, decide_eq_true_eq] at hb
  obtain ⟨⟨⟨⟨⟨⟨⟨b1, b2⟩, b3⟩, b4⟩, b5⟩, b6⟩, b7⟩, b8⟩ := hb
  exact wpHead_first hi' (Region.noSelect_spec b1) b2 b3 b4 b5 hQ f listed a w (headOk_inv b6) (Region.free_spec hi' b7) (by simpa using b8) hy hS h

/-- whichever of two may come up -/
theorem wpHead_two {l : List Oper} {i j : Nat} {oi oj : Oper} {f : Nat} {listed : Array Bool} {a : Act} {w : World} (hr : Region.ready md l.toArray listed = [i, j]) (hin : i < n) (hjn : j < n) (hi : l[i]? = some oi) (hj : l[j]? = some oj)
    (h1 : ∀ K' : Act → World → Prop, Shut (∀ a w, S w → wpHead P md l.toArray Q S n L f (listed.setIfInBounds i true) a w → K' a w) → if Region.wanted oi (yielded l.toArray a.tmps) = true then Oper.wp P oi a w K' Q else K' (a.put oi.dst undef) w)
    (h2 : ∀ K' : Act → World → Prop, Shut (∀ a w, S w → wpHead P md l.toArray Q S n L f (listed.setIfInBounds j true) a w → K' a w) → if Region.wanted oj (yielded l.toArray a.tmps) = true then Oper.wp P oj a w K' Q else K' (a.put oj.dst undef) w) : wpHead P md l.toArray Q S n L (f + 1) listed a w := by
  refine ⟨by rw [hr]; simp, fun k hk => ?_⟩
  rw [hr] at hk
  simp only [List.mem_cons, List.not_mem_nil, or_false] at hk
  rcases hk with rfl | rfl
  · exact ⟨hin, wpOp_step (by simpa using hi) (fun K' hK => h1 K' (fun a w hS hW => hK a w ⟨hS, hW⟩))⟩
  · exact ⟨hjn, wpOp_step (by simpa using hj) (fun K' hK => h2 K' (fun a w hS hW => hK a w ⟨hS, hW⟩))⟩
/-- one alone may come up -/
theorem wpHead_one {l : List Oper} {i : Nat} {oi : Oper} {f : Nat} {listed : Array Bool} {a : Act} {w : World} (hr : Region.ready md l.toArray listed = [i]) (hin : i < n) (hi : l[i]? = some oi)
    (h1 : ∀ K' : Act → World → Prop, Shut (∀ a w, S w → wpHead P md l.toArray Q S n L f (listed.setIfInBounds i true) a w → K' a w) → if Region.wanted oi (yielded l.toArray a.tmps) = true then Oper.wp P oi a w K' Q else K' (a.put oi.dst undef) w) : wpHead P md l.toArray Q S n L (f + 1) listed a w := by
  refine ⟨by rw [hr]; simp, fun k hk => ?_⟩
  rw [hr] at hk
  simp only [List.mem_cons, List.not_mem_nil, or_false] at hk
  subst hk
  exact ⟨hin, wpOp_step (by simpa using hi) (fun K' hK => h1 K' (fun a w hS hW => hK a w ⟨hS, hW⟩))⟩
/-- all have come up: the tail -/
theorem wpHead_done {l : List Oper} {listed : Array Bool} {a : Act} {w : World} (hs : Region.seqB md l.toArray (l.toArray.size - n) n listed = true) (h : L a w) : wpHead P md l.toArray Q S n L 0 listed a w := ⟨hs, h⟩
end

/-- the beginning -/
theorem wp_region_head {P : Program} {id : Nat} {l : List Oper} {Q : Exit → Act → World → Prop} {a : Act} {w : World} (S : World → Prop) (n : Nat) (hm : P.follows .mixedOrders = true) (hn : n ≤ l.length)
    (h : wpHead P .any l.toArray Q S n (fun a w => wpList P l.toArray Q (l.drop n) a w) n (Array.replicate l.length false) a w.drew) : (Code.region id l.toArray true).wp P Q a w := by
  refine wp_region_any hm ?_
  have := wpAny_of_wpHead (P := P) (md := .any) (Q := Q) (S := S) (n := n) rfl (fun a w h => h) (by simpa using hn) n (Array.replicate l.length false) a w.drew h
  rw [show n + (l.toArray.size - n) = l.toArray.size by simp; omega] at this
  simpa using this

/-! ### an invariant of all orders -/
def unl (listed : Array Bool) : Nat := (listed.toList.filter (fun b => !b)).length
theorem unl_set {listed : Array Bool} {i : Nat} (h : listed.getD i true = false) : unl (listed.setIfInBounds i true) + 1 = unl listed := by
  have hi : i < listed.size := by
    rcases Nat.lt_or_ge i listed.size with h' | h'
    · exact h'
    · simp [Array.getElem?_eq_none h'] at h
  obtain ⟨l⟩ := listed
  have hi' : i < l.length := hi
  have hv : l[i] = false := by simpa [Array.getD, hi'] using h
  simp only [unl, List.setIfInBounds_toArray]
  clear h hi
  induction l generalizing i with
  | nil => simp at hi'
  | cons b l ih =>
    cases i with
    | zero => simp at hv; subst hv; simp
    | succ i =>
      have := ih (i := i) (by simpa using hi') (by simpa using hv)
      cases b <;> simp <;> omega
/-- A condition on the state that every operation which may come up keeps. -/
theorem wpAny_inv {P : Program} {md : Region.Mode} {ops : Array Oper} {Q : Exit → Act → World → Prop} (I : Array Bool → Act → World → Prop)
    (hend : ∀ listed a w, I listed a w → Region.ready md ops listed = [] → Q .normal a w)
    (hstep : ∀ i o, ops[i]? = some o → ∀ listed a w, I listed a w → listed.getD i true = false → (∀ e ∈ o.after, Region.binds md e = true → listed.getD e.on false = true) →
      ∀ K' : Act → World → Prop, Shut (∀ a w, I (listed.setIfInBounds i true) a w → K' a w) → if Region.wanted o (yielded ops a.tmps) = true then Oper.wp P o a w K' Q else K' (a.put o.dst undef) w) :
    ∀ (f : Nat) (listed : Array Bool) (a : Act) (w : World), I listed a w → unl listed ≤ f → wpAny P md ops Q f listed a w
  | 0, listed, a, w, h, hf => by
    have hr : Region.ready md ops listed = [] := by
      apply List.eq_nil_iff_forall_not_mem.2
      intro i hi
      have := unl_set (mem_ready.1 hi).1
      omega
    exact ⟨hr, hend _ _ _ h hr⟩
  | f + 1, listed, a, w, h, hf => by
    refine ⟨fun hr => hend _ _ _ h hr, fun i hi => ?_⟩
    obtain ⟨hun, oi, hoi, hall⟩ := mem_ready.1 hi
    have hu := unl_set hun
    exact wpOp_step hoi (fun K' hK => hstep i oi hoi listed a w h hun (fun e he hb => hall e he hb) K' (fun a w hI => hK a w (wpAny_inv I hend hstep f _ _ _ hI (by omega))))
theorem wp_region_inv {P : Program} {id : Nat} {l : List Oper} {Q : Exit → Act → World → Prop} {a : Act} {w : World} (I : Act → Array Bool → Act → World → Prop) (hm : P.follows .mixedOrders = true)
    (h0 : I a (Array.replicate l.length false) a w.drew)
    (hend : ∀ listed x w, I a listed x w → Region.ready .any l.toArray listed = [] → Q .normal x w)
    (hstep : ∀ i o, l[i]? = some o → ∀ listed x w, I a listed x w → listed.getD i true = false → (∀ e ∈ o.after, Region.binds .any e = true → listed.getD e.on false = true) →
      ∀ K' : Act → World → Prop, Shut (∀ x w, I a (listed.setIfInBounds i true) x w → K' x w) → if Region.wanted o (yielded l.toArray x.tmps) = true then Oper.wp P o x w K' Q else K' (x.put o.dst undef) w) :
    (Code.region id l.toArray true).wp P Q a w := by
  refine wp_region_any hm ?_
  have hu : unl (Array.replicate l.length false) ≤ l.toArray.size := by simp [unl]
  have := wpAny_inv (P := P) (md := .any) (ops := l.toArray) (Q := Q) (I a) hend (fun i o hi => hstep i o (by simpa using hi)) l.toArray.size _ a w.drew h0 hu
  simpa using this

/-! ### cells and owned rows behind what a region does -/
theorem pend1 {V w1 : World} {u : Value} {e : TypeId} (hb : Below (V.alloc (.cells #[u] e)).heap.size (V.alloc (.cells #[u] e)) w1) : w1.cell? ⟨V.heap.size, 0, none⟩ = some u :=
  (hb.cell (p := ⟨V.heap.size, 0, none⟩) (by simp)).trans (by simp [go_sem])
theorem pend2 {V w1 : World} {u : Value} {e : TypeId} {o : Obj} (hb : Below ((V.alloc (.cells #[u] e)).alloc o).heap.size ((V.alloc (.cells #[u] e)).alloc o) w1) : w1.cell? ⟨V.heap.size, 0, none⟩ = some u :=
  pend1 (((Below.refl _ _).alloc (Nat.le_refl _) o).trans (hb.mono (by simp)))

theorem pend1d {V w1 : World} {u : Value} {e : TypeId} (hb : Below (V.alloc (.cells #[u] e)).drew.heap.size (V.alloc (.cells #[u] e)).drew w1) : w1.cell? ⟨V.heap.size, 0, none⟩ = some u := pend1 (bundrew hb)
theorem pend2d {V w1 : World} {u : Value} {e : TypeId} {o : Obj} (hb : Below ((V.alloc (.cells #[u] e)).alloc o).drew.heap.size ((V.alloc (.cells #[u] e)).alloc o).drew w1) : w1.cell? ⟨V.heap.size, 0, none⟩ = some u := pend2 (bundrew hb)

/-- an append of one element, at a step of a region that draws its order; where the row lies -/
theorem step_app1a {P : Program} {W : World} {ops : Array Oper} {o : Oper} {a : Act} {K : Act → World → Prop} {Q : Exit → Act → World → Prop} {E : Prop} (hgd : o.guard = none) (s x : Operand) (t : TypeId)
    (ho : o.op = .call { callee := .builtin .append, args := #[s, x], argTypes := #[t, t] })
    (base : Nat) (e : TypeId) (z : Value) (bytes : Nat) (ht : P.underlying t = some (.slice e)) (hinfo : (P.info? e).map (fun i => (i.zero, i.size, i.bytes)) = some (some z, 1, bytes)) (hby : bytes ≤ 64) (hzs : z.cells.size = 1)
    (v : Value) (n : Nat) (xs : List Value) (hs : a.eval s = v) (hown : W.ownsRow base e 1 v n xs)
    (g : Nat) (u : Value) (hx : a.eval x = .slice (some ⟨g, 0, none⟩) 1 1) (hg : W.cell? ⟨g, 0, none⟩ = some u) (h1 : u.oneCell' = true) (hn : n < 2147483648) (hbase : base ≤ W.heap.size)
    (hK : ∀ g' cap w', w'.ownsRow base e 1 (.slice (some ⟨g', 0, none⟩) (n + 1) cap) (n + 1) (xs ++ [u]) → W.grownBy w' v.ownBlock → (v.ownBlock = some g' ∨ g' = W.heap.size) → K (a.put o.dst (.slice (some ⟨g', 0, none⟩) (n + 1) cap)) w') :
    if Region.wanted o (yielded ops a.tmps) = true then Oper.wp P o a W K Q else E := by
  obtain ⟨i, hi, hz, hsz, hb⟩ := info_parts hinfo
  refine step_append_lies _ hgd s x t ho base e i z 1 bytes ht hi hz hsz hb hzs (by decide) v n xs hs hown ⟨g, 0, none⟩ 1 1 [u] hx rfl ?_ ?_ (by decide) ?_ ?_ hbase _ rfl ?_
  · intro j y hy
    match j, hy with
    | 0, hy => simp at hy; subst hy; simpa [Addr.add] using hg
  · intro y hy
    simp at hy; subst hy; exact h1
  · unfold maxLen; omega
  · have : (n + 1) * bytes ≤ 2147483648 * 64 := Nat.mul_le_mul (by omega) hby
    omega
  · intro g' cap w' h2 h3 h4 _
    exact hK g' cap w' h2 h3 h4
/-- an append of a whole slice, at a step of a region that draws its order -/
theorem step_appN {P : Program} {W : World} {ops : Array Oper} {o : Oper} {a : Act} {K : Act → World → Prop} {Q : Exit → Act → World → Prop} {E : Prop} (hgd : o.guard = none) (s x : Operand) (t : TypeId)
    (ho : o.op = .call { callee := .builtin .append, args := #[s, x], argTypes := #[t, t] })
    (base : Nat) (e : TypeId) (z : Value) (bytes : Nat) (ht : P.underlying t = some (.slice e)) (hinfo : (P.info? e).map (fun i => (i.zero, i.size, i.bytes)) = some (some z, 1, bytes)) (hby : bytes ≤ 64) (hzs : z.cells.size = 1)
    (v : Value) (n : Nat) (xs : List Value) (hs : a.eval s = v) (hown : W.ownsRow base e 1 v n xs)
    (ad : Option Addr) (m c : Nat) (us : List Value) (hx : a.eval x = .slice ad m c) (hr : RV W ad m c us) (hnil : ad = none → m = 0 ∧ c = 0) (h1 : ∀ u ∈ us, u.oneCell' = true) (hn : n + m < 2147483648) (hbase : base ≤ W.heap.size)
    (hK : ∀ v' w', w'.ownsRow base e 1 v' (n + m) (xs ++ us) → W.grownBy w' v.ownBlock → (v'.ownBlock = v.ownBlock ∨ v'.ownBlock = some W.heap.size) → K (a.put o.dst v') w') :
    if Region.wanted o (yielded ops a.tmps) = true then Oper.wp P o a W K Q else E := by
  have hw : Region.wanted o (yielded ops a.tmps) = true := by simp [Region.wanted, hgd]
  rw [if_pos hw]
  obtain ⟨i, hi, hz, hsz, hb⟩ := info_parts hinfo
  cases ad with
  | none =>
    obtain ⟨rfl, rfl⟩ := hnil rfl
    have hus : us = [] := List.eq_nil_of_length_eq_zero hr.1
    subst hus
    have hrun := run_append_owned_none (P := P) (w := W) base t o.type e i 1 ht hi v n xs hown
    have hk := hK v W (by simpa using hown) (World.grownBy.refl _ _) (.inl rfl)
    unfold Oper.wp
    simp [execOp, ho, resolve, invoke, builtin, hs, hx, hrun, Result.andThen]
    exact hk
  | some ad =>
  obtain ⟨v', w', hrun, h2, h3, h4, h5⟩ := run_append_own_at (P := P) W base t o.type e i z 1 bytes ht hi hz hsz hb hzs (by decide) v n xs hown ad m c us (by rw [hr.1, Nat.mul_one]) (by
    intro j y hy
    by_cases hm : m = 0
    · have hus : us = [] := List.eq_nil_of_length_eq_zero (hr.1.trans hm)
      subst hus; simp at hy
    · obtain ⟨b, o, ha, _, hc⟩ := hr.cellv hm
      cases ha
      have h := hc j y hy
      by_cases hj0 : j = 0
      · subst hj0; simpa [Addr.add] using h
      · simpa [Addr.add, hj0] using h) h1 (by unfold maxLen; omega) (by
    have : (n + m) * bytes ≤ 2147483648 * 64 := Nat.mul_le_mul (by omega) hby
    omega) hbase
  unfold Oper.wp execOp
  simp only [ho, resolve, invoke, builtin, Sem.run_bind, Sem.run_pure, Result.andThen_ok, List.map_toArray, List.map_cons, List.map_nil, hs, hx, hrun]
  exact hK _ _ h2 h3 h5

/-- an append of a whole slice to a row of the call's own -/
theorem wpList_appN {P : Program} {W : World} {ops : Array Oper} {rest : List Oper} {o : Oper} {a : Act} {Q : Exit → Act → World → Prop} (hgd : o.guard = none) (s x : Operand) (t : TypeId)
    (ho : o.op = .call { callee := .builtin .append, args := #[s, x], argTypes := #[t, t] })
    (base : Nat) (e : TypeId) (z : Value) (bytes : Nat) (ht : P.underlying t = some (.slice e)) (hinfo : (P.info? e).map (fun i => (i.zero, i.size, i.bytes)) = some (some z, 1, bytes)) (hby : bytes ≤ 64) (hzs : z.cells.size = 1)
    (v : Value) (n : Nat) (xs : List Value) (hs : a.eval s = v) (hown : W.ownsRow base e 1 v n xs)
    (ad : Option Addr) (m c : Nat) (us : List Value) (hx : a.eval x = .slice ad m c) (hr : RV W ad m c us) (hnil : ad = none → m = 0 ∧ c = 0) (h1 : ∀ u ∈ us, u.oneCell' = true) (hn : n + m < 2147483648) (hbase : base ≤ W.heap.size)
    (hK : ∀ v' w', w'.ownsRow base e 1 v' (n + m) (xs ++ us) → W.grownBy w' v.ownBlock → (v'.ownBlock = v.ownBlock ∨ v'.ownBlock = some W.heap.size) → wpList P ops Q rest (a.put o.dst v') w') : wpList P ops Q (o :: rest) a W := by
  obtain ⟨i, hi, hz, hsz, hb⟩ := info_parts hinfo
  cases ad with
  | none =>
    obtain ⟨rfl, rfl⟩ := hnil rfl
    have hus : us = [] := List.eq_nil_of_length_eq_zero hr.1
    subst hus
    refine wpList_append_own_none hgd s x t ho base e i 1 ht hi v n xs hs hown hx ?_
    have := hK v W (by simpa using hown) (World.grownBy.refl _ _) (.inl rfl)
    exact this
  | some ad =>
    refine wpList_append_own_at _ hgd s x t ho base e i z 1 bytes ht hi hz hsz hb hzs (by decide) v n xs hs hown ad m c us hx (by rw [hr.1, Nat.mul_one]) ?_ h1 ?_ ?_ hbase ?_
    · intro j y hy
      by_cases hm : m = 0
      · have hus : us = [] := List.eq_nil_of_length_eq_zero (hr.1.trans hm)
        subst hus; simp at hy
      · obtain ⟨b, o, ha, _, hc⟩ := hr.cellv hm
        cases ha
        have h := hc j y hy
        by_cases hj0 : j = 0
        · subst hj0; simpa [Addr.add] using h
        · simpa [Addr.add, hj0] using h
    · unfold maxLen; omega
    · have : (n + m) * bytes ≤ 2147483648 * 64 := Nat.mul_le_mul (by omega) hby
      omega
    · intro v' w' h2 h3 _ h5
      exact hK v' w' h2 h3 h5
end Go.Proofs.YtggbnibdpkblgaaDoor
