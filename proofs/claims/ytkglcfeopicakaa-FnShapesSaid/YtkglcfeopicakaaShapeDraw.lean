/-
  Drawn shapes.
-/
import Derived.Test.YtkglcfeopicakaaShapeP
import Derived.Test.YtkglcfeopicakaaSrc
import Derived.Test.YtkglcfeopicakaaA2
namespace Go.Proofs.Ytkglcfeopicakaa
open Go Go.RowKit
set_option linter.unusedVariables false

theorem gpast {w a b : World} {g : Nat} {row : Option Nat} (h : w.grownBy a (some g)) (k : a.grownBy b row) (hr : ∀ i, row = some i → w.heap.size ≤ i) : w.grownBy b (some g) :=
  ⟨k.os.trans h.os, k.tape.trans h.tape, k.output.trans h.output, Nat.le_trans h.size k.size, fun i hi hne => (k.block i (Nat.lt_of_lt_of_le hi h.size) (fun e => by have := hr i e.symm; omega)).trans (h.block i hi hne)⟩

set_option maxHeartbeats 2000000 in
theorem l08Draw_any (g K : Nat) (w : World) (h : Src w g K) (hK : K ≤ 100000) :
    Calls Try.prog 24 #[.pointer (some ⟨g, 0, none⟩)] w fun e w' => ∃ (v : Value) (l : List Int), e = .returned v ∧ (1 ≤ l.length ∧ l.length ≤ 7) ∧ (∀ x ∈ l, 20 ≤ x ∧ x ≤ 2500) ∧ Own w' w.heap.size w'.heap.size 2 v (ints l) ∧ w.grownBy w' (some g) := by
  have hgw := h.lt
  have hs := h.alloc (.cells #[] 2)
  have hg := World.grownBy_alloc w (.cells #[] 2) (some g)
  have hown : (w.alloc (.cells #[] 2)).ownsRow w.heap.size 2 1 (.slice (some ⟨w.heap.size, 0, none⟩) 0 0) 0 (ints []) := owns_empty rfl (Nat.le_refl _)
  clear h
  go_enter Try.func24, Try.ntmps24
  go_wp2_with fail
  refine (pick_any _ _ _ _ hs (by omega) (by omega)).mono ?_
  rintro e w2 ⟨x, rfl, hx0, hx1, _, hs2, hg2⟩
  have hx2 := hx1 (by omega)
  replace hown := hown.kept hg2 (.inr (by simp [Value.ownBlock]; omega))
  replace hg := gtrans hg hg2
  clear hg2 hx1 hs
  go_wp2_with fail
  refine (pick_any _ _ _ _ hs2 (by omega) (by omega)).mono ?_
  rintro e w3 ⟨y, rfl, hy0, hy1, _, hs3, hg3⟩
  have hy2 := hy1 (by omega)
  replace hown := hown.kept hg3 (.inr (by simp [Value.ownBlock]; omega))
  replace hg := gtrans hg hg3
  clear hg3 hy1 hs2
  obtain ⟨j, rfl⟩ := Int.eq_ofNat_of_zero_le hy0
  have hj6 : j ≤ 6 := by omega
  have HS := Lib.hid hs3
  have HO := Lib.hid hown
  have HG := Lib.hid hg
  clear hs3 hown hg hy0 hy2
  go_wp2
  go_loopw [3, 4, 5] (fun v a i wr => ∃ (j : Nat) (at_ : Int) (pre : List Int), i = .int .i64 j ∧ a = .int .i64 at_ ∧ j + pre.length ≤ 7 ∧ 1 ≤ j + pre.length ∧ 20 ≤ at_ ∧ at_ ≤ 1180 + 180 * pre.length ∧ Hid (∀ x ∈ pre, 20 ≤ x ∧ x ≤ 2500) ∧ Hid (Src wr g (K + 24 - 2 * j)) ∧ Hid (wr.ownsRow w.heap.size 2 1 v pre.length (ints pre)) ∧ Hid (w.grownBy wr (some g))) (fun _ _ i _ => (intOf i).toNat)
  case atStart => exact ⟨j + 1, 200 + 20 * x, [], by congr 1; omega, by first | rfl | (congr 1; omega), by simp; omega, by simp, by omega, by simp; omega, Lib.hid (by simp), Lib.hid (HS.out.mono (by omega)), HO, HG⟩
  case round =>
    obtain ⟨j, at_, pre, rfl, rfl, hj7, hj1, ha1, ha2, Hpre, Hs, Ho, Hg⟩ := hrel
    generalize wr = wx at *
    obtain ⟨a', c', rfl⟩ := owns_slice Ho.out
    by_cases hj0 : j = 0
    · subst hj0
      go_wp2
      go_ret
      exact ⟨_, pre, rfl, ⟨by omega, by omega⟩, Hpre.out, Own.of Ho.out, Hg.out⟩
    · have hd : decide (0 < (j : Int)) = true := by simp; omega
      have hd' : decide (0 < j) = true := by simp; omega
      have hgz := Hg.out.size
      have hown := Ho.out
      go_wp2_with (at_builtin; refine wpList_app1 rfl _ _ 24 rfl w.heap.size 2 _ 8 Try.underlying24 info_i64 (by decide) rfl _ pre.length _ rfl (hown.alloc _) wx.heap.size (.int .i64 at_) rfl ?c1 rfl ?c2 ?c3 ?_)
      case c1 => exact cell_boxed rfl
      case c2 => omega
      case c3 => simp; omega
      intro v1 w4 hown1 hgrow
      have hlt := fun k hk => ((hown.alloc (.cells #[.int .i64 at_] 2)).lt k hk).1
      have hz1 := hgrow.size
      simp only [World.size_alloc] at hz1
      have hg4 : w.grownBy w4 (some g) := gpast (gtrans Hg.out (World.grownBy_alloc wx (.cells #[.int .i64 at_] 2) (some g))) hgrow (fun k hk => hlt k hk)
      have hb2 : Below w.heap.size wx w4 := below_app (B := w.heap.size) ((Below.refl w.heap.size wx).alloc hgz _) (hown.alloc _) hgrow (Nat.le_refl _) (by simp; omega)
      have hs4 := Hs.out.keptB hb2 hgw
      clear hown hgrow hb2 hlt
      go_wp2_with fail
      refine (pick_any _ _ _ _ hs4 (by omega) (by omega)).mono ?_
      rintro e w5 ⟨z, rfl, hz0, hz1', _, hs5, hg5⟩
      have hz2 := hz1' (by omega)
      have ho5 : w5.ownsRow w.heap.size 2 1 v1 (pre.length + 1) (ints (pre ++ [at_])) := by
        have h5 := hown1.kept hg5 (by
          cases hv : v1.ownBlock with
          | none => exact .inl rfl
          | some k =>
            have := (hown1.lt k hv).1
            exact .inr (by simp; omega))
        simpa using h5
      have HO5 := Lib.hid ho5
      have HS5 := Lib.hid hs5
      have HG5 := Lib.hid (gtrans hg4 hg5)
      have Hpre2 : Hid (∀ x ∈ pre ++ [at_], 20 ≤ x ∧ x ≤ 2500) := Lib.hid (by
        intro y hy
        rcases List.mem_append.1 hy with h | h
        · exact Hpre.out y h
        · simp at h; omega)
      have hpl : (pre ++ [at_]).length = pre.length + 1 := by simp
      clear hz1' hg5 hg4 hs4 hs5 ho5 hown1 Hpre Hs Ho Hg
      go_wp2_with (go_at_call 45; refine (l00Max_any _ _ _).mono ?_; rintro e w' ⟨rfl, rfl⟩)
      go_roundw
      case rel =>
        refine ⟨j - 1, _, pre ++ [at_], congrArg (Value.int .i64) (by omega), rfl, by omega, by omega, by omega, by omega, Hpre2, Lib.hid (HS5.out.mono (by omega)), by rw [hpl]; exact HO5, HG5⟩
      case measure => simp [intOf]; omega

theorem A2Shape_any (p : Option Addr) (n c : Nat) (xs : List Int) (w : World) (hr : RV w p n c (xs.map (.int .u8))) (hb : ∀ x ∈ xs, 0 ≤ x ∧ x ≤ 255) :
    Calls Try.prog 7 #[.slice p n c] w fun e w' => ∃ (v : Value) (l : List Int), e = .returned v ∧ (1 ≤ l.length ∧ l.length ≤ 7) ∧ (∀ x ∈ l, 20 ≤ x ∧ x ≤ 2500) ∧ Own w' w.heap.size w'.heap.size 2 v (ints l) ∧ Below w.heap.size w w' := by
  go_enter Try.func7, Try.ntmps7
  go_wp2_with fail
  refine (l00From_any _ _ _ _ _ hr hb).mono ?_
  rintro e w1 ⟨rfl, hs, hB⟩
  have hz := hs.lt
  go_wp2_with fail
  refine (l08Draw_any _ _ _ hs (by omega)).mono ?_
  rintro e w2 ⟨v, l, rfl, hl, hx, ho, hg⟩
  go_wp2
  go_ret
  exact ⟨_, l, rfl, hl, hx, ho.mono (by omega) (Nat.le_refl _), hB.grown hg hB.size (by intro k hk; simp at hk; omega)⟩
end Go.Proofs.Ytkglcfeopicakaa
