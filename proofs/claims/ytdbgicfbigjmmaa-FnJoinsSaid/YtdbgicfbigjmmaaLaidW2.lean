/-
  The reference's search from the start; the reference's orders and fewest joins.
-/
import Derived.Test.YtdbgicfbigjmmaaLaidW
namespace Go.Proofs.Ytdbgicfbigjmmaa
open Go.RowKit
set_option linter.unusedVariables false

set_option maxHeartbeats 1000000 in
theorem l10All_any (st be : Int) (a : Option Addr) (n c : Nat) (xs : List Int) (w : World) (hst : 3 ≤ st ∧ st ≤ 60) (hok : okRods xs = true) (hr : RV w a n c (ints xs)) :
    Calls Try.prog 24 #[.int .i64 st, .slice a n c, .int .i64 be] w fun e w' => e = .returned (.pointer (some ⟨w.heap.size, 0, none⟩)) ∧ WI w' w.heap.size st be a n c (srchAll st xs be) ∧ Below w.heap.size w w' := by
  have hn := hr.lenI
  subst hn
  obtain ⟨W1, hW1⟩ : ∃ W1, W1 = w.alloc (.cells #[.int .i64 st, .slice a xs.length c, .int .i64 be, .slice none 0 0, .int .i64 (-1)] 40) := ⟨_, rfl⟩
  have hb1 : Blk W1 w.heap.size [.int .i64 st, .slice a xs.length c, .int .i64 be, .slice none 0 0, .int .i64 (-1)] 40 := by subst hW1; exact Blk.box _ _ _ rfl
  have hz1 : W1.heap.size = w.heap.size + 1 := by subst hW1; simp
  have hB1 : Below w.heap.size w W1 := by subst hW1; exact (Below.refl _ _).alloc (Nat.le_refl _) _
  have hI : WI W1 w.heap.size st be a xs.length c ([], -1) := ⟨_, hb1, Own.nil _ _ _ _, by decide, by decide, by decide⟩
  have h2 := hI.below ((Below.refl _ _).alloc (Nat.le_refl _) (.cells #[] 2))
  have h3 := h2.below ((Below.refl _ _).alloc (Nat.le_refl _) (.cells #[] 2))
  have hB3 : Below w.heap.size w ((W1.alloc (.cells #[] 2)).alloc (.cells #[] 2)) := (hB1.alloc (by omega) _).alloc (by simp; omega) _
  have ho : Own ((W1.alloc (.cells #[] 2)).alloc (.cells #[] 2)) (w.heap.size + 1) ((W1.alloc (.cells #[] 2)).alloc (.cells #[] 2)).heap.size 2 (.slice (some ⟨w.heap.size + 1, 0, none⟩) 0 0) (ints (nats [])) :=
    own_of_row ((owns_empty (w := W1) (base := w.heap.size + 1) (e := 2) (size := 1) (g := w.heap.size + 1) hz1.symm (Nat.le_refl _)).alloc _) rfl (Nat.le_refl _)
  have hl : Own ((W1.alloc (.cells #[] 2)).alloc (.cells #[] 2)) (w.heap.size + 1) ((W1.alloc (.cells #[] 2)).alloc (.cells #[] 2)).heap.size 2 (.slice (some ⟨w.heap.size + 1 + 1, 0, none⟩) 0 0) (ints (laidIn xs [])) :=
    own_of_row (owns_empty (w := W1.alloc (.cells #[] 2)) (base := w.heap.size + 1) (e := 2) (size := 1) (g := w.heap.size + 1 + 1) (by simp; omega) (by omega)) rfl (Nat.le_refl _)
  have Hwk := Lib.hid (walk_any w st be a xs.length c xs hst hok hr w.heap.size (Nat.le_refl _) xs.length [] ([], -1) _ _ _ (by simp) (by simp) hB3 h3 ho hl)
  have HB3 := Lib.hid hB3
  subst hW1
  clear hb1 hz1 hB1 hI h2 h3 hB3 ho hl hr hok
  go_enter Try.func24, Try.ntmps24
  go_wp2_with (go_at_call 36; (with_reducible refine Hwk.out.mono ?_); rintro e w2 ⟨rfl, hW2, hg2⟩; have HW2 := Lib.hid hW2; have Hg2 := Lib.hid hg2; clear hW2 hg2)
  go_ret
  exact ⟨rfl, HW2.out, HB3.out.grown Hg2.out HB3.out.size (by intro k hk; cases hk; exact Nat.le_refl _)⟩

def fewR (st : Int) (l : List Int) (be : Int) : Int × Int := if laidC st l be = 0 then ((srchAll st l be).2, 0) else (0, laidC st l be)
def orderR (st : Int) (l : List Int) (be : Int) : List Int × Int := if laidC st l be = 0 then if (srchAll st l be).2 = 0 then (nats (srchAll st l be).1, 0) else ([], 3) else ([], laidC st l be)

theorem specFewest_any (st be : Int) (a : Option Addr) (n c : Nat) (xs : List Int) (w : World) (ha : RV w a n c (ints xs)) :
    Calls Try.prog 6 #[.int .i64 st, .slice a n c, .int .i64 be] w fun e w' => e = rt2 (fewR st xs be) ∧ Below w.heap.size w w' := by
  by_cases hc : laidC st xs be = 0
  · obtain ⟨hst, hok⟩ := laidC_ok hc
    rw [show fewR st xs be = ((srchAll st xs be).2, 0) by simp [fewR, hc]]
    have hcode := fun W h => l10Code_any st be a n c xs W h
    rw [hc] at hcode
    have Hall := Lib.hid (l10All_any st be a n c xs w hst hok ha)
    generalize srchAll st xs be = S at *
    go_enter Try.func6, Try.ntmps6
    go_wp2_with (first | (go_at_call 23; refine (hcode _ ha).mono ?_; rintro e w' ⟨rfl, rfl⟩) | (go_at_call 24; refine Hall.out.mono ?_; rintro e w1 ⟨rfl, hW, hb⟩; obtain ⟨bv, hblk, _⟩ := hW; have c4 := hblk.cell 4 _ rfl; have HB := Lib.hid hb; clear hblk hb))
    go_ret2
    exact ⟨rfl, HB.out⟩
  · rw [show fewR st xs be = (0, laidC st xs be) by simp [fewR, hc]]
    go_enter Try.func6, Try.ntmps6
    go_wp2_with (go_at_call 23; refine (l10Code_any _ _ _ _ _ _ _ ha).mono ?_; rintro e w' ⟨rfl, rfl⟩)
    go_ret2
    exact ⟨rfl, Below.refl _ _⟩

theorem specOrder_any (st be : Int) (a : Option Addr) (n c : Nat) (xs : List Int) (w : World) (ha : RV w a n c (ints xs)) :
    Calls Try.prog 10 #[.int .i64 st, .slice a n c, .int .i64 be] w (RetL w 2 (orderR st xs be)) := by
  by_cases hc : laidC st xs be = 0
  · obtain ⟨hst, hok⟩ := laidC_ok hc
    have hcode := fun W h => l10Code_any st be a n c xs W h
    rw [hc] at hcode
    have Hall := Lib.hid (l10All_any st be a n c xs w hst hok ha)
    by_cases h0 : (srchAll st xs be).2 = 0
    · rw [show orderR st xs be = (nats (srchAll st xs be).1, 0) by simp [orderR, hc, h0]]
      generalize srchAll st xs be = S at *
      have t0 : (S.2 != 0) = false := by simp [h0]
      clear h0
      go_enter Try.func10, Try.ntmps10
      go_wp2_with (first | (go_at_call 23; refine (hcode _ ha).mono ?_; rintro e w' ⟨rfl, rfl⟩) | (go_at_call 24; refine Hall.out.mono ?_; rintro e w1 ⟨rfl, hW, hb⟩; obtain ⟨bv, hblk, hbo, _⟩ := hW; have c4 := hblk.cell 4 _ rfl; have c3 := hblk.cell 3 _ rfl; have HB := Lib.hid hb; have Hbo := Lib.hid hbo; clear hblk hb hbo))
      go_ret2
      exact ⟨_, rfl, Hbo.out.mono (by omega) (Nat.le_refl _), HB.out⟩
    · rw [show orderR st xs be = ([], 3) by simp [orderR, hc, h0]]
      generalize srchAll st xs be = S at *
      have t0 : (S.2 != 0) = true := by simp [h0]
      clear h0
      go_enter Try.func10, Try.ntmps10
      go_wp2_with (first | (go_at_call 23; refine (hcode _ ha).mono ?_; rintro e w' ⟨rfl, rfl⟩) | (go_at_call 24; refine Hall.out.mono ?_; rintro e w1 ⟨rfl, hW, hb⟩; obtain ⟨bv, hblk, hbo, _⟩ := hW; have c4 := hblk.cell 4 _ rfl; have c3 := hblk.cell 3 _ rfl; have HB := Lib.hid hb; have Hbo := Lib.hid hbo; clear hblk hb hbo))
      go_ret2
      exact ⟨_, rfl, Own.nil _ _ _ _, HB.out⟩
  · rw [show orderR st xs be = ([], laidC st xs be) by simp [orderR, hc]]
    have hne : (laidC st xs be != 0) = true := by simp [hc]
    go_enter Try.func10, Try.ntmps10
    go_wp2_with (go_at_call 23; refine (l10Code_any _ _ _ _ _ _ _ ha).mono ?_; rintro e w' ⟨rfl, rfl⟩)
    go_ret2
    exact ⟨_, rfl, Own.nil _ _ _ _, Below.refl _ _⟩
end Go.Proofs.Ytdbgicfbigjmmaa
