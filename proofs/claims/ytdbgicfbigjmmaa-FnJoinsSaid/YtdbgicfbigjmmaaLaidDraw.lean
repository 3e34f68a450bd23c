/-
  Drawn rods that can be laid; sums of rods; what the numbers of stakes for rods are.
-/
import Derived.Test.YtdbgicfbigjmmaaLaid9
import Derived.Test.YtdbgicfbigjmmaaSrc
import Derived.Test.YtdbgicfbigjmmaaA2
namespace Go.Proofs.Ytdbgicfbigjmmaa
open Go.RowKit
set_option linter.unusedVariables false


set_option maxHeartbeats 1000000 in
theorem A2Laid_any (p : Option Addr) (n c : Nat) (xs : List Int) (w : World) (hr : RV w p n c (xs.map (.int .u8))) (hb : ∀ x ∈ xs, 0 ≤ x ∧ x ≤ 255) :
    Calls Try.prog 15 #[.slice p n c] w fun e w' => ∃ (v : Value) (l : List Int), e = .returned v ∧ okRods l = true ∧ Own w' w.heap.size w'.heap.size 2 v (ints l) ∧ Below w.heap.size w w' := by
  go_enter Try.func15, Try.ntmps15
  go_wp2_with fail
  refine (l00From_any _ _ _ _ _ hr hb).mono ?_
  rintro e w1 ⟨rfl, hs, hB⟩
  have hsz1 : w.heap.size < w1.heap.size := hs.lt
  obtain ⟨g, Hg⟩ : ∃ g, Hid (g = w.heap.size) := ⟨_, rfl⟩
  rw [← Hg.out] at hs hB hsz1 ⊢
  clear hr hb
  replace hs := hs.alloc (.cells #[] 2)
  replace hB := hB.alloc (by omega) (.cells #[] 2)
  go_wp2_with fail
  refine (pick_any _ _ _ _ hs (by omega) (by omega)).mono ?_
  rintro e w2 ⟨x, rfl, hx0, hx1, _, hs2, hg2⟩
  have hx2 := hx1 (by omega)
  have hz2 := hg2.size
  simp only [World.size_alloc] at hz2
  have hown : w2.ownsRow (g + 1) 2 1 (.slice (some ⟨w1.heap.size, 0, none⟩) 0 0) 0 (ints []) :=
    (owns_empty (w := w1) (base := g + 1) (e := 2) (size := 1) rfl (by omega)).kept hg2 (.inr (by simp [Value.ownBlock]; omega))
  replace hB := hB.grown hg2 (by simp; omega) (by intro k hk; simp at hk; omega)
  obtain ⟨j, rfl⟩ := Int.eq_ofNat_of_zero_le hx0
  have hj6 : j ≤ 6 := by omega
  clear hx1 hg2 hs
  go_wp2
  go_loopw [4, 5] (fun v i wr => ∃ j : Nat, j ≤ 6 ∧ i = .int .i64 j ∧ ∃ pre : List Int, j + pre.length ≤ 6 ∧ Hid (∀ x ∈ pre, 1 ≤ x ∧ x ≤ 16) ∧ Hid (Src wr g (16 - 2 * j)) ∧ wr.ownsRow (g + 1) 2 1 v pre.length (ints pre) ∧ Below g w wr ∧ g < wr.heap.size) (fun _ i _ => (intOf i).toNat)
  case atStart => exact ⟨j, hj6, rfl, [], by simpa using hj6, Lib.hid (by simp), Lib.hid (hs2.mono (by omega)), hown, hB, by omega⟩
  case round =>
    obtain ⟨j, hj6, rfl, pre, hpl, Hpre, Hs, hown, hbel, hsz⟩ := hrel
    obtain ⟨a', c', rfl⟩ := owns_slice hown
    by_cases hj0 : j = 0
    · subst hj0
      have Hown := Lib.hid hown
      have Hbel := Lib.hid hbel
      clear hown hbel
      go_wp2
      go_ret
      rw [← Hg.out]
      refine ⟨_, pre, rfl, okRods_iff.2 ⟨fun x hx => ?_, by omega⟩, ?_, Hbel.out⟩
      · have := Hpre.out x hx; omega
      · exact (Own.of Hown.out).mono (by omega) (by simp)
    · have hd : decide (0 < (j : Int)) = true := by simp; omega
      have hd' : decide (0 < j) = true := by simp; omega
      have Hown := Lib.hid hown
      have Hbel := Lib.hid hbel
      clear hown hbel
      go_wp2_with fail
      refine (pick_any _ _ _ _ Hs.out (by omega) (by omega)).mono ?_
      rintro e w3 ⟨x, rfl, hx0, hx1, _, hs3, hg3⟩
      have hx2 := hx1 (by omega)
      have hsz3 := hg3.size
      have hown : w3.ownsRow (g + 1) 2 1 (.slice a' pre.length c') pre.length (ints pre) := by
        refine Hown.out.kept hg3 ?_
        cases hv : (Value.slice a' pre.length c').ownBlock with
        | none => exact .inl rfl
        | some k =>
          have := (Hown.out.lt k hv).1
          exact .inr (by simp; omega)
      have hbel : Below g w w3 := Hbel.out.grown hg3 (by omega) (by intro k hk; simp at hk; omega)
      have Hs3 := Lib.hid hs3
      clear hg3 hx1 hs3
      go_wp2_with (at_builtin; refine wpList_app1 rfl _ _ 22 rfl (g + 1) 2 _ 8 Try.underlying22 info_i64 (by decide) rfl _ pre.length _ rfl (hown.alloc _) w3.heap.size (.int .i64 (1 + x)) rfl ?c1 rfl ?c2 ?c3 ?_)
      case c1 => exact cell_boxed rfl
      case c2 => omega
      case c3 => simp; omega
      intro v1 w4 hown1 hgrow
      have hb1 := below_app (B := g) (hbel.alloc (by omega) _) (hown.alloc _) hgrow (by omega) (by simp; omega)
      have hb2 := below_app (B := g + 1) ((Below.refl (g + 1) w3).alloc (by omega) _) (hown.alloc _) hgrow (Nat.le_refl _) (by simp; omega)
      have Hs4 := Lib.hid (Hs3.out.keptB hb2 (by omega))
      have hsz4 := hgrow.size
      simp only [World.size_alloc] at hsz4
      clear hown hgrow hb2
      go_wp2
      go_roundw
      case measure => simp [intOf]; omega
      case rel =>
        refine ⟨j - 1, by omega, congrArg (Value.int .i64) (by omega), pre ++ [1 + x], by simp; omega, Lib.hid ?_, Lib.hid (Hs4.out.mono (by omega)), by simpa using hown1, hb1, by omega⟩
        intro y hy
        rcases List.mem_append.1 hy with h | h
        · exact Hpre.out y h
        · simp at h; omega

/-! ### what is told of the numbers of stakes -/
theorem goodTo_mem {l : List Int} {be : Int} {k : Nat} {v : Int} : v ∈ goodTo l be k ↔ ∃ j : Nat, j < k ∧ rodSt l be j = true ∧ v = 3 + (j : Int) := by
  simp only [goodTo, List.mem_map, List.mem_filter, List.mem_range]
  constructor
  · rintro ⟨j, ⟨h1, h2⟩, rfl⟩; exact ⟨j, h1, h2, rfl⟩
  · rintro ⟨j, h1, h2, rfl⟩; exact ⟨j, ⟨h1, h2⟩, rfl⟩
theorem goodTo_sorted (l : List Int) (be : Int) (k : Nat) : (goodTo l be k).Pairwise (· < ·) := by
  unfold goodTo
  rw [List.pairwise_map]
  refine (List.Pairwise.filter _ List.pairwise_lt_range).imp ?_
  intro a b h; omega
theorem pairwise_at {l : List Int} (h : l.Pairwise (· < ·)) {k : Nat} (hk : k + 1 < l.length) : l.getD k 0 < l.getD (k + 1) 0 := by
  have := List.pairwise_iff_getElem.1 h k (k + 1) (by omega) hk (by omega)
  simpa [List.getD_eq_getElem?_getD, List.getElem?_eq_getElem hk, List.getElem?_eq_getElem (show k < l.length by omega)] using this
end Go.Proofs.Ytdbgicfbigjmmaa
