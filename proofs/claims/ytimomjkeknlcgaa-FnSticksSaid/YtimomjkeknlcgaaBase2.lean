/-
  Bases, on: the listed functions of the program and of the reference, each with the result that BasePlain names.
-/
import Derived.Test.YtimomjkeknlcgaaBase
namespace Go.Proofs.Ytimomjkeknlcgaa
open Go.RowKit
set_option linter.unusedVariables false

abbrev ret2 (p : Int × Int) : Ending := .returned (.tuple #[.int .i64 p.1, .int .i64 p.2])

theorem EndsOf_any (t s r k : Int) (w : World) : Calls Try.prog 11 #[.agg #[.int .i64 t, .int .i64 s, .int .i64 r, .int .i64 k]] w fun e w' => e = ret2 (endsOfR t s r k) ∧ Below w.heap.size w w' := by
  cases hv : vBase t s r k
  · have e1 : endsOfR t s r k = (0, 1) := by simp [endsOfR, hv]
    rw [e1]
    go_enter Try.func11, Try.ntmps11
    go_wp2_with (go_at_call 17; refine (validBase_any _ _ _ _ _).mono ?_; rintro e w1 ⟨rfl, hb1⟩)
    go_ret2
    exact ⟨rfl, bstep ((Below.refl _ _).alloc (Nat.le_refl _) _) hb1 (Nat.le_refl _)⟩
  · have e1 : endsOfR t s r k = (ends t s, 0) := by simp [endsOfR, hv]
    rw [e1]
    go_enter Try.func11, Try.ntmps11
    go_wp2_with (first | (go_at_call 17; refine (validBase_any _ _ _ _ _).mono ?_; rintro e w1 ⟨rfl, hb1⟩; obtain ⟨hc1, hf1⟩ := bcell hb1) | (go_at_call 21; refine (endsOf_any _ _ _ _ _ hv).mono ?_; rintro e w2 ⟨rfl, hb2⟩))
    go_ret2
    exact ⟨rfl, bstep (bstep ((Below.refl _ _).alloc (Nat.le_refl _) _) hb1 (Nat.le_refl _)) hb2 (Nat.le_refl _)⟩

theorem specEndsOf_any (t s r k : Int) (w : World) : Calls Try.prog 12 #[.agg #[.int .i64 t, .int .i64 s, .int .i64 r, .int .i64 k]] w fun e w' => e = ret2 (endsOfR t s r k) ∧ Below w.heap.size w w' := by
  have hB := BaseAt.boxed w t s r k 25
  cases hv : vBase t s r k
  · have e1 : endsOfR t s r k = (0, 1) := by simp [endsOfR, hv]
    rw [e1]
    go_enter Try.func12, Try.ntmps12
    go_wp2_with (go_at_call 31; refine (l07Ok_any _ _ _ _ _ _ hB).mono ?_; rintro e w1 ⟨rfl, rfl⟩)
    go_ret2
    exact ⟨rfl, (Below.refl _ _).alloc (Nat.le_refl _) _⟩
  · have e1 : endsOfR t s r k = (ends t s, 0) := by simp [endsOfR, hv]
    rw [e1]
    go_enter Try.func12, Try.ntmps12
    go_wp2_with (first | (go_at_call 31; refine (l07Ok_any _ _ _ _ _ _ hB).mono ?_; rintro e w1 ⟨rfl, rfl⟩) | (go_at_call 25; refine (l07Ends_any _ _ _ _ _ _ hB hv).mono ?_; rintro e w2 ⟨rfl, m, rfl⟩))
    go_ret2
    exact ⟨rfl, bdrewN ((Below.refl _ _).alloc (Nat.le_refl _) _) _⟩




theorem over7_any (x : Int) (w : World) (h : 0 ≤ x) (h' : x ≤ 100000000) : Calls Try.prog 40 #[.int .i64 (44 * x), .int .i64 7] w fun e w' => e = .returned (.int .i64 (ringLen x)) ∧ w = w' := by
  have hx := ringLen_over x h
  generalize ringLen x = R at *
  by_cases hm : 0 < (44 * x) % 7
  · rw [if_pos hm] at hx
    have Hx := Lib.hid hx
    clear hx
    go_enter Try.func40, Try.ntmps40
    go_wp2
    go_ret
    exact ⟨ret_int Hx.out, rfl⟩
  · rw [if_neg hm] at hx
    have Hx := Lib.hid hx
    clear hx
    go_enter Try.func40, Try.ntmps40
    go_wp2
    go_ret
    exact ⟨ret_int Hx.out, rfl⟩
theorem ringLength_any (x : Int) (w : World) (h : 0 ≤ x) (h' : x ≤ 100000) : Calls Try.prog 33 #[.int .i64 x] w fun e w' => e = .returned (.int .i64 (ringLen x)) ∧ w = w' := by
  go_enter Try.func33, Try.ntmps33
  go_wp2_with (go_at_call 40; refine (over7_any _ _ h (by omega)).mono ?_; rintro e w1 ⟨rfl, rfl⟩)
  go_ret
  exact ⟨rfl, rfl⟩
theorem l07Length_any (x : Int) (w : World) (h : 0 ≤ x) (h' : x ≤ 100000) : Calls Try.prog 34 #[.int .i64 x] w fun e w' => e = .returned (.int .i64 (ringLen x)) ∧ w = w' := by
  go_enter Try.func34, Try.ntmps34
  go_wp2
  go_ret
  exact ⟨rfl, rfl⟩


end Go.Proofs.Ytimomjkeknlcgaa
