/-
  Bends: what lies over a rod, by walks.
-/
import Derived.Test.YtcpacfedmppaeaaDoorBend3
namespace Go.Proofs.YtcpacfedmppaeaaDoor
open Go.RowKit
set_option linter.unusedVariables false

/-! ### an iterator beside a row of the call's own -/
theorem iter_grown (w : World) (g : Nat) (s : ByteArray) (pos : Nat) : w.grownBy (w.iterAt g s pos) (some g) :=
  ⟨rfl, rfl, rfl, by rw [Lib.iterAt_size]; exact Nat.le_refl _, fun i _ hne => Lib.iterAt_other w g i s pos (fun e => hne (by rw [e]))⟩
theorem owns_noiter {w : World} {base g : Nat} {e : TypeId} {size : Nat} {v : Value} {n : Nat} {xs : List Value} {s : ByteArray} {p : Nat} (h : w.ownsRow base e size v n xs) (hi : w.heap[g]? = some (.stringIter s p)) : v.ownBlock ≠ some g := by
  intro e1
  rcases h.2 with ⟨rfl, _⟩ | ⟨g', cap, cur, rfl, _, hg, _⟩
  · simp [Value.ownBlock] at e1
  · simp [Value.ownBlock] at e1
    subst e1
    rw [hi] at hg
    cases hg
theorem owns_iter {w : World} {base g : Nat} {e : TypeId} {size : Nat} {v : Value} {n : Nat} {xs : List Value} {s : ByteArray} {p : Nat} (h : w.ownsRow base e size v n xs) (hi : w.heap[g]? = some (.stringIter s p)) (p' : Nat) : (w.iterAt g s p').ownsRow base e size v n xs :=
  h.kept (iter_grown w g s p') (.inr (owns_noiter h hi))

/-- a list result alone: it is owned -/
def RetO (w : World) (e : TypeId) (xs : List Int) (en : Ending) (w' : World) : Prop :=
  ∃ v : Value, en = .returned v ∧ Own w' w.heap.size w'.heap.size e v (ints xs) ∧ Below w.heap.size w w'

set_option maxHeartbeats 2000000 in
theorem coversOf_any (s : ByteArray) (st k : Int) (w : World) (h2 : two 98 102 s.data.toList = true) (h8 : s.size ≤ 8) (hst : 1 ≤ st ∧ st ≤ 40) (hk : 0 ≤ k ∧ k ≤ 40) :
    Calls Tryd.prog 43 #[.string s, .int .i64 st, .int .i64 k] w fun e w' => RetO w 2 (coversW s.data.toList st k) e w' := by
  obtain ⟨l, Hl⟩ : ∃ l, Hid (l = s.data.toList) := ⟨_, rfl⟩
  have Hll := Lib.hid (show l.length = s.size by rw [Hl.out, size_list])
  rw [← Hl.out] at h2 ⊢
  have Hg := Lib.hid (fun j (hj : j < s.size) => show (s[j]'hj).toNat = bat l j by rw [Hl.out]; exact bat_get hj)
  have Hasc := Lib.hid (fun j (hj : j < s.size) => show (s[j]'hj).toNat < 128 by
    rw [Hg.out j hj]
    rcases two_at (k := j) h2 (by rw [Hll.out]; exact hj) with h | h <;> rw [h] <;> decide)
  have hz : st ≠ 0 := by omega
  clear h2
  go_enter Tryd.func43, Tryd.ntmps43
  go_wp2
  go_loopw [7] (fun v wr => ∃ j : Nat, j ≤ s.size ∧ Hid (wr.heap[w.heap.size + 1]? = some (.stringIter s j)) ∧ ∃ pre, Hid (pre = coversTo l st k j) ∧ pre.length ≤ j ∧ Hid (wr.ownsRow w.heap.size 2 1 v pre.length (ints pre)) ∧ Hid (Below w.heap.size w wr)) (fun _ wr => s.size - wr.iterPos (w.heap.size + 1))
  case atStart =>
    refine ⟨0, Nat.zero_le _, Lib.hid ?_, [], Lib.hid (by simp [coversTo]), by simp, Lib.hid ?_, Lib.hid ?_⟩
    · have h := World.iter_heap (w.alloc (.cells #[] 2)) s 0
      simp only [World.size_alloc] at h
      exact h
    · exact (owns_empty (w := w) (e := 2) (size := 1) rfl (Nat.le_refl _)).alloc _
    · exact ((Below.refl _ _).alloc (Nat.le_refl _) _).alloc (by simp) _
  case round =>
    obtain ⟨j, hj, Hit, pre, Hp, hpl, Hown, Hb⟩ := hrel
    obtain ⟨a', c', rfl⟩ := owns_slice Hown.out
    have Hgs := Lib.hid (show w.heap.size + 1 < wr.heap.size from (Array.getElem?_eq_some_iff.1 Hit.out).1)
    by_cases hlt : j < s.size
    · obtain ⟨W2, HW2⟩ : ∃ W2, Hid (wr.iterAt (w.heap.size + 1) s (j + 1) = W2) := ⟨_, rfl⟩
      have hnx : ∀ ty, (Instr.next (.pointer (some ⟨w.heap.size + 1, 0, none⟩)) true ty).run Tryd.prog wr = _ := fun ty => Lib.run_next_ascii_at wr (w.heap.size + 1) s j ty Hit.out hlt (Hasc.out j hlt)
      rw [HW2.out] at hnx
      have Hit2 := Lib.hid (show W2.heap[w.heap.size + 1]? = some (.stringIter s (j + 1)) by rw [← HW2.out]; exact Lib.iterAt_heap wr _ s j (j + 1) Hit.out)
      have hown2 : W2.ownsRow w.heap.size 2 1 (.slice a' pre.length c') pre.length (ints pre) := by rw [← HW2.out]; exact owns_iter Hown.out Hit.out (j + 1)
      have Hb2 := Lib.hid (show Below w.heap.size w W2 by rw [← HW2.out]; exact Lib.below_iterAt Hb.out (by omega) s (j + 1))
      have hpos : wr.iterPos (w.heap.size + 1) = j := by unfold World.iterPos; rw [Hit.out]
      have Hpos := Lib.hid hpos
      have hsz2 : w.heap.size + 1 < W2.heap.size := (Array.getElem?_eq_some_iff.1 Hit2.out).1
      have Hno := Lib.hid (owns_noiter hown2 Hit2.out)
      clear hpos
      by_cases hc : (s[j]'hlt).toNat = 98
      · have e1 : (((s[j]'hlt).toNat : Int) == 98) = true := by rw [hc]; rfl
        have e1' : ((s[j]'hlt).toNat == 98) = true := by rw [hc]; rfl
        have q1 := Int.emod_nonneg (k + j + 1) hz
        have q2 := Int.emod_lt_of_pos (k + j + 1) (show 0 < st by omega)
        have q3 : (k + j + 1).tmod st = (k + j + 1) % st := Int.tmod_eq_emod_of_nonneg (by omega)
        obtain ⟨x, hx⟩ : ∃ x, (k + j + 1) % st = x := ⟨_, rfl⟩
        have Hst := Lib.hid (show coversTo l st k (j + 1) = coversTo l st k j ++ [x] by
          rw [coversTo_step, hx, show (bat l j == 98) = true by rw [← Hg.out j hlt, hc]; rfl, if_pos rfl])
        rw [hx] at q1 q2 q3
        clear hx hc
        go_wp2_with (at_builtin; refine wpList_app1 rfl _ _ 32 rfl w.heap.size 2 _ 8 Tryd.underlying32 info_i64 (by decide) rfl _ pre.length _ rfl (hown2.alloc _) W2.heap.size (.int .i64 x) rfl ?c1 rfl ?c2 ?c3 ?_)
        case c1 => exact cell_boxed rfl
        case c2 => omega
        case c3 => simp; omega
        intro v1 w1 hown1 hgrow
        have Hb1 := Lib.hid (below_app (Hb2.out.alloc (by omega) _) (hown2.alloc _) hgrow (Nat.le_refl _) (by simp; omega))
        have Hit1 := Lib.hid (show w1.heap[w.heap.size + 1]? = some (.stringIter s (j + 1)) by
          rw [hgrow.block _ (by simp; omega) (fun e => Hno.out e.symm)]
          exact (Below.block ((Below.refl W2.heap.size W2).alloc (Nat.le_refl _) _) _ hsz2).trans Hit2.out)
        have Hown1 := Lib.hid hown1
        clear hown2 hgrow hown1
        go_wp2
        go_roundw
        case rel =>
          have hpre : pre ++ [x] = coversTo l st k (j + 1) := by rw [Hst.out, Hp.out]
          exact ⟨j + 1, by omega, Hit1, pre ++ [x], Lib.hid hpre, by simp; omega, Lib.hid (by simpa using Hown1.out), Hb1⟩
        case measure =>
          have h1 := Hpos.out
          have h2 : w1.iterPos (w.heap.size + 1) = j + 1 := by unfold World.iterPos; rw [Hit1.out]
          omega
      · have e1 : (((s[j]'hlt).toNat : Int) == 98) = false := by simp; omega
        have e1' : ((s[j]'hlt).toNat == 98) = false := by simp [hc]
        have Hst := Lib.hid (show coversTo l st k (j + 1) = coversTo l st k j by
          rw [coversTo_step, show (bat l j == 98) = false by rw [← Hg.out j hlt]; simp [hc]]; simp)
        have Hown2 := Lib.hid hown2
        clear hc hown2
        go_wp2
        go_roundw
        case rel => exact ⟨j + 1, by omega, Hit2, pre, Lib.hid (by rw [Hst.out, Hp.out]), by omega, Hown2, Hb2⟩
        case measure =>
          have h1 := Hpos.out
          have h2 : W2.iterPos (w.heap.size + 1) = j + 1 := by unfold World.iterPos; rw [Hit2.out]
          omega
    · have hnx : ∀ ty, (Instr.next (.pointer (some ⟨w.heap.size + 1, 0, none⟩)) true ty).run Tryd.prog wr = _ := fun ty => Lib.run_next_end_at wr (w.heap.size + 1) s j ty Hit.out hlt
      have Hf := Lib.hid (show pre = coversW l st k by rw [Hp.out, coversW, Hll.out]; congr 1; omega)
      go_wp2
      go_ret
      have e1 := Hf.out
      subst e1
      exact ⟨_, rfl, Own.of Hown.out, Hb.out⟩

set_option maxHeartbeats 2000000 in
theorem l11Covers_any (s : ByteArray) (st k : Int) (w : World) (h8 : s.size ≤ 8) (hst : 1 ≤ st ∧ st ≤ 40) (hk : 0 ≤ k ∧ k ≤ 40) :
    Calls Tryd.prog 45 #[.string s, .int .i64 st, .int .i64 k] w fun e w' => RetO w 2 (coversW s.data.toList st k) e w' := by
  obtain ⟨l, Hl⟩ : ∃ l, Hid (l = s.data.toList) := ⟨_, rfl⟩
  have Hll := Lib.hid (show l.length = s.size by rw [Hl.out, size_list])
  rw [← Hl.out]
  have Hg := Lib.hid (fun j (hj : j < s.size) => show (s[j]'hj).toNat = bat l j by rw [Hl.out]; exact bat_get hj)
  have hz : st ≠ 0 := by omega
  go_enter Tryd.func45, Tryd.ntmps45
  go_wp2
  go_loopw [7, 8] (fun v i wr => ∃ j : Nat, j ≤ s.size ∧ i = .int .i64 j ∧ ∃ pre, Hid (pre = coversTo l st k j) ∧ pre.length ≤ j ∧ wr.ownsRow w.heap.size 2 1 v pre.length (ints pre) ∧ Hid (Below w.heap.size w wr)) (fun _ i _ => s.size - (intOf i).toNat)
  case atStart => exact ⟨0, Nat.zero_le _, rfl, [], Lib.hid (by simp [coversTo]), by simp, owns_empty rfl (Nat.le_refl _), Lib.hid ((Below.refl _ _).alloc (Nat.le_refl _) _)⟩
  case round =>
    obtain ⟨j, hj, rfl, pre, Hp, hpl, hown, Hb⟩ := hrel
    obtain ⟨a', c', rfl⟩ := owns_slice hown
    have hsz := Hb.out.size
    by_cases hlt : j < s.size
    · by_cases hc : (s[j]'hlt).toNat = 98
      · have e1 : (((s[j]'hlt).toNat : Int) == 98) = true := by rw [hc]; rfl
        have e1' : ((s[j]'hlt).toNat == 98) = true := by rw [hc]; rfl
        have q1 := Int.emod_nonneg (k + j + 1) hz
        have q2 := Int.emod_lt_of_pos (k + j + 1) (show 0 < st by omega)
        have q3 : (k + j + 1).tmod st = (k + j + 1) % st := Int.tmod_eq_emod_of_nonneg (by omega)
        obtain ⟨x, hx⟩ : ∃ x, (k + j + 1) % st = x := ⟨_, rfl⟩
        have Hst := Lib.hid (show coversTo l st k (j + 1) = coversTo l st k j ++ [x] by
          rw [coversTo_step, hx, show (bat l j == 98) = true by rw [← Hg.out j hlt, hc]; rfl, if_pos rfl])
        rw [hx] at q1 q2 q3
        clear hx hc
        go_wp2_with (at_builtin; refine wpList_app1 rfl _ _ 32 rfl w.heap.size 2 _ 8 Tryd.underlying32 info_i64 (by decide) rfl _ pre.length _ rfl (hown.alloc _) wr.heap.size (.int .i64 x) rfl ?c1 rfl ?c2 ?c3 ?_)
        case c1 => exact cell_boxed rfl
        case c2 => omega
        case c3 => simp; omega
        intro v1 w1 hown1 hgrow
        have Hb1 := Lib.hid (below_app (Hb.out.alloc (by omega) _) (hown.alloc _) hgrow (Nat.le_refl _) (by simp; omega))
        have Hown1 := Lib.hid hown1
        clear hown hgrow hown1
        go_wp2
        go_roundw
        case rel =>
          have hpre : pre ++ [x] = coversTo l st k (j + 1) := by rw [Hst.out, Hp.out]
          exact ⟨j + 1, by omega, by go_num, pre ++ [x], Lib.hid hpre, by simp; omega, by simpa using Hown1.out, Hb1⟩
        case measure => simp [intOf]; omega
      · have e1 : (((s[j]'hlt).toNat : Int) == 98) = false := by simp; omega
        have e1' : ((s[j]'hlt).toNat == 98) = false := by simp [hc]
        have Hst := Lib.hid (show coversTo l st k (j + 1) = coversTo l st k j by
          rw [coversTo_step, show (bat l j == 98) = false by rw [← Hg.out j hlt]; simp [hc]]; simp)
        have Hown := Lib.hid hown
        clear hc hown
        go_wp2
        go_roundw
        case rel => exact ⟨j + 1, by omega, by go_num, pre, Lib.hid (by rw [Hst.out, Hp.out]), by omega, Hown.out, Hb⟩
        case measure => simp [intOf]; omega
    · have Hf := Lib.hid (show pre = coversW l st k by rw [Hp.out, coversW, Hll.out]; congr 1; omega)
      have Hown := Lib.hid hown
      clear hown
      go_wp2
      go_ret
      have e1 := Hf.out
      subst e1
      exact ⟨_, rfl, Own.of Hown.out, Hb.out⟩

def coversR (l : List UInt8) (st k : Int) : List Int × Int := if codeB l st k = 0 then (coversW l st k, 0) else ([], codeB l st k)
theorem coversR_len (l : List UInt8) (st k : Int) : (coversR l st k).1.length ≤ 1000000 := by
  unfold coversR
  split
  · next h =>
    have h8 := (vB_iff.1 (codeB_ok h).1).2.1
    have := coversTo_len l st k l.length
    show (coversTo l st k l.length).length ≤ 1000000
    omega
  · simp

set_option maxHeartbeats 1000000 in
theorem coversOfE_any (s : ByteArray) (st k : Int) (w : World) (hs : s.size ≤ maxLen) :
    Calls Tryd.prog 12 #[.string s, .int .i64 st, .int .i64 k] w fun e w' => RetL w 2 (coversR s.data.toList st k) e w' := by
  obtain ⟨l, Hl⟩ : ∃ l, Hid (l = s.data.toList) := ⟨_, rfl⟩
  have Hll := Lib.hid (show l.length = s.size by rw [Hl.out, size_list])
  have Hv := Lib.hid (fun W => bendCode_any s st k W hs)
  rw [← Hl.out] at Hv ⊢
  by_cases hc : codeB l st k = 0
  · obtain ⟨hv, hst, hk⟩ := codeB_ok hc
    have h8 := vB_iff.1 hv
    have Hco := Lib.hid (fun W => coversOf_any s st k W (by rw [← Hl.out]; exact h8.2.2) (by have := h8.2.1; rw [Hll.out] at this; exact this) (by omega) (by omega))
    rw [← Hl.out] at Hco
    rw [show coversR l st k = (coversW l st k, 0) by rw [coversR, if_pos hc]]
    rw [hc] at Hv
    clear hc hv h8
    go_enter Tryd.func12, Tryd.ntmps12
    go_wp2_with (first | (go_at_call 36; refine (Hv.out _).mono ?_; rintro e w1 ⟨rfl, hb⟩) | (go_at_call 43; refine (Hco.out _).mono ?_; rintro e w2 ⟨v, rfl, ho, hb2⟩; have Ho := Lib.hid ho; have Hb2 := Lib.hid hb2; obtain ⟨a1, c1, rfl, hr1⟩ := ho.sliceI; clear hr1 ho hb2))
    go_ret2
    exact ⟨_, rfl, Ho.out.mono hb.size (Nat.le_refl _), bstep hb Hb2.out (Nat.le_refl _)⟩
  · rw [show coversR l st k = ([], codeB l st k) by rw [coversR, if_neg hc]]
    have hc2 : (codeB l st k == 0) = false := by simp [hc]
    have hc3 : (codeB l st k != 0) = true := by simp [hc]
    obtain ⟨C, hC⟩ : ∃ C, codeB l st k = C := ⟨_, rfl⟩
    rw [hC] at Hv hc hc2 hc3 ⊢
    go_enter Tryd.func12, Tryd.ntmps12
    go_wp2_with (go_at_call 36; refine (Hv.out _).mono ?_; rintro e w1 ⟨rfl, hb⟩)
    go_ret2
    exact ⟨_, rfl, Own.nil _ _ _ _, hb⟩

set_option maxHeartbeats 1000000 in
theorem specCoversOf_any (s : ByteArray) (st k : Int) (w : World) (hs : s.size ≤ maxLen) :
    Calls Tryd.prog 13 #[.string s, .int .i64 st, .int .i64 k] w fun e w' => RetL w 2 (coversR s.data.toList st k) e w' := by
  obtain ⟨l, Hl⟩ : ∃ l, Hid (l = s.data.toList) := ⟨_, rfl⟩
  have Hll := Lib.hid (show l.length = s.size by rw [Hl.out, size_list])
  have Hv := Lib.hid (fun W => l11Code_any s st W hs)
  rw [← Hl.out] at Hv ⊢
  have hcs := codeB_codeS l st k
  by_cases hc : codeB l st k = 0
  · obtain ⟨hv, hst, hk⟩ := codeB_ok hc
    have h8 := (vB_iff.1 hv).2.1
    rw [Hll.out] at h8
    have hin : inB k 0 (st - 1) = true := inB_iff.2 (by omega)
    have hs0 : codeS l st = 0 := by rw [codeS, if_pos hv, inB_iff.2 hst]; rfl
    have Hco := Lib.hid (fun W => l11Covers_any s st k W h8 (by omega) (by omega))
    rw [← Hl.out] at Hco
    rw [show coversR l st k = (coversW l st k, 0) by rw [coversR, if_pos hc]]
    rw [hs0] at Hv
    clear hc hv hs0 hcs
    go_enter Tryd.func13, Tryd.ntmps13
    go_wp2_with (first | (go_at_call 38; refine (Hv.out _).mono ?_; rintro e w1 ⟨rfl, q, rfl⟩) | (go_at_call 44; refine (l00In_any _ _ _ _).mono ?_; rintro e w2 ⟨rfl, rfl⟩) | (go_at_call 45; refine (Hco.out _).mono ?_; rintro e w2 ⟨v, rfl, ho, hb2⟩; have Ho := Lib.hid ho; have Hb2 := Lib.hid hb2; obtain ⟨a1, c1, rfl, hr1⟩ := ho.sliceI; clear hr1 ho hb2))
    go_ret2
    exact ⟨_, rfl, Ho.out, ⟨Hb2.out.os, Hb2.out.tape, Hb2.out.output, Hb2.out.size, Hb2.out.block⟩⟩
  · rw [show coversR l st k = ([], codeB l st k) by rw [coversR, if_neg hc]]
    by_cases h0 : codeS l st = 0
    · rw [if_pos h0] at hcs
      have hst2 := (codeS_ok h0).2
      cases hin : inB k 0 (st - 1)
      · rw [hin] at hcs
        rw [show codeB l st k = 2 by rw [hcs]; rfl]
        rw [h0] at Hv
        clear h0 hcs hc
        go_enter Tryd.func13, Tryd.ntmps13
        go_wp2_with (first | (go_at_call 38; refine (Hv.out _).mono ?_; rintro e w1 ⟨rfl, q, rfl⟩) | (go_at_call 44; refine (l00In_any _ _ _ _).mono ?_; rintro e w2 ⟨rfl, rfl⟩))
        go_ret2
        exact ⟨_, rfl, Own.nil _ _ _ _, bdrewN (Below.refl _ _) q⟩
      · rw [hin] at hcs; exact absurd hcs hc
    · rw [if_neg h0] at hcs
      rw [hcs]
      have hc2 : (codeS l st == 0) = false := by simp [h0]
      have hc3 : (codeS l st != 0) = true := by simp [h0]
      obtain ⟨C, hC⟩ : ∃ C, codeS l st = C := ⟨_, rfl⟩
      rw [hC] at Hv h0 hc2 hc3 ⊢
      clear hcs hc
      go_enter Tryd.func13, Tryd.ntmps13
      go_wp2_with (go_at_call 38; refine (Hv.out _).mono ?_; rintro e w1 ⟨rfl, q, rfl⟩)
      go_ret2
      exact ⟨_, rfl, Own.nil _ _ _ _, bdrewN (Below.refl _ _) q⟩
end Go.Proofs.YtcpacfedmppaeaaDoor
