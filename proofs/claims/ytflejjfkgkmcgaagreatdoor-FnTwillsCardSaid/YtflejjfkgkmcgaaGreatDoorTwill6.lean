/-
  Twills, on: repeats and the share in front, by walks.
-/
import Derived.Test.YtflejjfkgkmcgaaGreatDoorTwill5
namespace Go.Proofs.YtflejjfkgkmcgaaGreatDoor
open Go.RowKit
set_option linter.unusedVariables false

/-- what a valid twill's row is like -/
theorem row_facts {xs : List Int} {st : Int} (hv : vTwill xs st = true) : eachIn xs 1 12 = true ∧ xs.length ≤ 12 ∧ 2 ≤ (rowW xs).length ∧ (rowW xs).length ≤ 12 ∧ 1 ≤ st ∧ st ≤ ((rowW xs).length : Int) - 1 := by
  obtain ⟨he, h2, _, h4, h5, h6, h7⟩ := vTwill_iff hv
  have hrl := rowW_len he
  exact ⟨he, h7, by omega, by omega, h5, by omega⟩

set_option maxHeartbeats 1000000 in
theorem repeatOf_any (a : Option Addr) (n c : Nat) (xs : List Int) (st : Int) (w : World) (ha : RV w a n c (ints xs)) :
    Calls Tryz.prog 8 #[.agg #[.slice a n c, .int .i64 st]] w fun e w' => e = rt3t (periodR xs st) ∧ Below w.heap.size w w' := by
  have hA0 := TwAt.boxed st 26 ha
  have hB0 : Below w.heap.size w (w.alloc (.cells #[.slice a n c, .int .i64 st] 26)) := (Below.refl _ _).alloc (Nat.le_refl _) _
  have HA := Lib.hid hA0
  have HB := Lib.hid hB0
  cases hv : vTwill xs st
  · rw [show periodR xs st = (0, 0, 1) by simp [periodR, hv]]
    have Hvt := Lib.hid (by
      have h := fun W h => validTwill_any a n c xs st W h
      rw [hv] at h
      exact h)
    clear ha hA0 hB0 hv
    go_enter Tryz.func8, Tryz.ntmps8
    go_wp2_with (go_at_call 19; refine (Hvt.out _ (by exact HA.out.2.2)).mono ?_; rintro e w1 ⟨rfl, hb⟩)
    go_ret3
    exact ⟨rfl, bstep HB.out hb (by simp)⟩
  · obtain ⟨he, h7, hN0, hN1, hst0, hst1⟩ := row_facts hv
    obtain ⟨l, Hl⟩ : ∃ l, Hid (l = rowW xs) := ⟨_, rfl⟩
    rw [← Hl.out] at hN0 hN1 hst1
    obtain ⟨s, Hs⟩ : ∃ s, Hid (s = str l) := ⟨_, rfl⟩
    have hsl : s.data.toList = l := by rw [Hs.out, str_list]
    have hsN : s.size = l.length := by rw [Hs.out, str_size]
    obtain ⟨p, Hp⟩ : ∃ p, Hid (p = period l) := ⟨_, rfl⟩
    have hpb := period_bd (l := l) (by omega)
    rw [← Hp.out] at hpb
    obtain ⟨q1, q2, q3, q4, q5⟩ := againN_spec (n := p) (st := st) (by omega) hst0
    obtain ⟨M, HM⟩ : ∃ M, Hid (M = againN p st) := ⟨_, rfl⟩
    obtain ⟨G, HG⟩ : ∃ G, Hid (G = gcdI p st) := ⟨_, rfl⟩
    rw [← HM.out, ← HG.out] at q1
    rw [← HM.out] at q2 q3
    rw [← HG.out] at q4 q5
    have q1' : (p : Int) / G = (M : Int) := by rw [← Int.tdiv_eq_ediv_of_nonneg (by omega)]; exact q1
    rw [show periodR xs st = ((p : Int), (M : Int), 0) by unfold periodR; rw [if_pos hv, ← Hl.out, ← Hp.out, ← HM.out]]
    have Hvt := Lib.hid (by
      have h := fun W h => validTwill_any a n c xs st W h
      rw [hv] at h
      exact h)
    have Hrow := Lib.hid (by
      have h := fun W h => rowOf_any a n c xs st W he h7 h
      rw [← Hl.out, ← Hs.out] at h
      exact h)
    have Hper := Lib.hid (by
      have h := fun W => periodOf_any s W (by omega) (by omega)
      rw [hsl, ← Hp.out] at h
      exact h)
    have Hdv := Lib.hid (by
      have h := fun W => divisor_any p st W (by omega) (by omega) (by omega) (by omega)
      rw [← HG.out] at h
      exact h)
    have hGz : G ≠ 0 := by omega
    have hwM : IntKind.i64.wrap (M : Int) = (M : Int) := IntWalk.i64_in _ (by omega)
    clear ha hA0 hB0 hv he h7 hsl hsN
    go_enter Tryz.func8, Tryz.ntmps8
    go_wp2_with (first | (go_at_call 19; refine (Hvt.out _ (by exact HA.out.2.2)).mono ?_; rintro e w1 ⟨rfl, hb1⟩; have hca := (hb1.cell (p := ⟨w.heap.size, 0, none⟩) (by simp)).trans HA.out.1; have hcb := (hb1.cell (p := ⟨w.heap.size, 1, none⟩) (by simp)).trans HA.out.2.1; have HRV := Lib.hid (HA.out.2.2.below hb1); have HB1 := Lib.hid (bstep HB.out hb1 (by simp)); have hz1 : w.heap.size < w1.heap.size := (by have := hb1.size; simp at this; omega); clear hb1) | (go_at_call 30; refine (Hrow.out _ (by exact HRV.out)).mono ?_; rintro e w2 ⟨rfl, hb2⟩; have hcb2 := (hb2.cell (p := ⟨w.heap.size, 1, none⟩) hz1).trans hcb; have HB2 := Lib.hid (bstep HB1.out hb2 (Nat.le_refl _)); have hz2 : w.heap.size < w2.heap.size := (by have := hb2.size; omega); clear hb2) | (go_at_call 36; refine (Hper.out _).mono ?_; rintro e w3 ⟨rfl, hb3⟩; have hcb3 := (hb3.cell (p := ⟨w.heap.size, 1, none⟩) hz2).trans hcb2; have HB3 := Lib.hid (bstep HB2.out hb3 (Nat.le_refl _)); clear hb3))
    go_quiet ((go_at_call 37; exact Calls.quiet_of (Hdv.out _)))
    go_wp2
    go_ret3
    exact ⟨rfl, bdrewN HB3.out _⟩

set_option maxHeartbeats 1000000 in
theorem specRepeatOf_any (a : Option Addr) (n c : Nat) (xs : List Int) (st : Int) (w : World) (ha : RV w a n c (ints xs)) :
    Calls Tryz.prog 9 #[.agg #[.slice a n c, .int .i64 st]] w fun e w' => e = rt3t (periodR xs st) ∧ Below w.heap.size w w' := by
  have hA0 := TwAt.boxed st 26 ha
  have hB0 : Below w.heap.size w (w.alloc (.cells #[.slice a n c, .int .i64 st] 26)) := (Below.refl _ _).alloc (Nat.le_refl _) _
  have HA := Lib.hid hA0
  have HB := Lib.hid hB0
  cases hv : vTwill xs st
  · rw [show periodR xs st = (0, 0, 1) by simp [periodR, hv]]
    have Hvt := Lib.hid (by
      have h := fun W h => l09Ok_any w.heap.size a n c xs st W h
      rw [hv] at h
      exact h)
    clear ha hA0 hB0 hv
    go_enter Tryz.func9, Tryz.ntmps9
    go_wp2_with (go_at_call 32; refine (Hvt.out _ (by exact HA.out)).mono ?_; rintro e w1 ⟨rfl, q, rfl⟩)
    go_ret3
    exact ⟨rfl, bdrewN HB.out q⟩
  · obtain ⟨he, h7, hN0, hN1, hst0, hst1⟩ := row_facts hv
    obtain ⟨l, Hl⟩ : ∃ l, Hid (l = rowW xs) := ⟨_, rfl⟩
    rw [← Hl.out] at hN0 hN1 hst1
    obtain ⟨s, Hs⟩ : ∃ s, Hid (s = str l) := ⟨_, rfl⟩
    have hsl : s.data.toList = l := by rw [Hs.out, str_list]
    have hsN : s.size = l.length := by rw [Hs.out, str_size]
    obtain ⟨p, Hp⟩ : ∃ p, Hid (p = period l) := ⟨_, rfl⟩
    have hpb := period_bd (l := l) (by omega)
    rw [← Hp.out] at hpb
    obtain ⟨q1, q2, q3, q4, q5⟩ := againN_spec (n := p) (st := st) (by omega) hst0
    obtain ⟨M, HM⟩ : ∃ M, Hid (M = againN p st) := ⟨_, rfl⟩
    obtain ⟨G, HG⟩ : ∃ G, Hid (G = gcdI p st) := ⟨_, rfl⟩
    rw [← HM.out, ← HG.out] at q1
    rw [← HM.out] at q2 q3
    rw [← HG.out] at q4 q5
    have q1' : (p : Int) / G = (M : Int) := by rw [← Int.tdiv_eq_ediv_of_nonneg (by omega)]; exact q1
    rw [show periodR xs st = ((p : Int), (M : Int), 0) by unfold periodR; rw [if_pos hv, ← Hl.out, ← Hp.out, ← HM.out]]
    have Hvt := Lib.hid (by
      have h := fun W h => l09Ok_any w.heap.size a n c xs st W h
      rw [hv] at h
      exact h)
    have Hrow := Lib.hid (by
      have h := fun W h => l09Row_any w.heap.size a n c xs st W he h7 h
      rw [← Hl.out, ← Hs.out] at h
      exact h)
    have Hper := Lib.hid (by
      have h := fun W => l09Period_any s W (by omega) (by omega)
      rw [hsl, ← Hp.out] at h
      exact h)
    have Hdv := Lib.hid (by
      have h := fun W => l00Gcd_any p st W (by omega) (by omega) (by omega) (by omega)
      rw [← HG.out] at h
      exact h)
    have hGz : G ≠ 0 := by omega
    have hwM : IntKind.i64.wrap (M : Int) = (M : Int) := IntWalk.i64_in _ (by omega)
    clear ha hA0 hB0 hv he h7 hsl hsN
    go_enter Tryz.func9, Tryz.ntmps9
    go_wp2_with (first | (go_at_call 32; refine (Hvt.out _ (by exact HA.out)).mono ?_; rintro e w1 ⟨rfl, q0, rfl⟩) | (go_at_call 34; refine (Hrow.out _ (by exact HA.out)).mono ?_; rintro e w2 ⟨rfl, rfl⟩) | (go_at_call 38; refine (Hper.out _).mono ?_; rintro e w3 ⟨rfl, q9, rfl⟩))
    obtain ⟨W4, hW4⟩ : ∃ W4, (w.alloc (.cells #[.slice a n c, .int .i64 st] 26)).drewN (q0 + q9) = W4 := ⟨_, rfl⟩
    have hcb : W4.cell? ⟨w.heap.size, 1, none⟩ = some (.int .i64 st) := by rw [← hW4]; exact HA.out.2.1
    have HB4 := Lib.hid (show Below w.heap.size w W4 by rw [← hW4]; exact bdrewN HB.out _)
    rw [hW4]
    clear hW4
    go_quiet ((go_at_call 39; exact Calls.quiet_of_same ((Hdv.out _).mono fun e w' ⟨h1, h2⟩ => ⟨h1, h2.symm⟩)))
    go_wp2
    go_ret3
    exact ⟨rfl, bdrewN HB4.out _⟩
end Go.Proofs.YtflejjfkgkmcgaaGreatDoor
