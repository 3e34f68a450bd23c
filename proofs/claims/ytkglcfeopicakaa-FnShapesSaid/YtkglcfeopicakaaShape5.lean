/-
  Shapes, on: the spacing of stakes at a level.
-/
import Derived.Test.YtkglcfeopicakaaShape
import Derived.Test.YtkglcfeopicakaaNumPlain
namespace Go.Proofs.Ytkglcfeopicakaa
open Go.RowKit
set_option linter.unusedVariables false

abbrev rtF (p : Int × Int × Int) : Ending := .returned (.tuple #[.agg #[.int .i64 p.1, .int .i64 p.2.1], .int .i64 p.2.2])
def spacingR (l : List Int) (st i : Int) : Int × Int × Int :=
  if vShape l then
    if areSt st && inB i 0 ((l.length : Int) - 1) then (lowN (l.getD i.toNat 0) st, lowD (l.getD i.toNat 0) st, 0) else (0, 0, 2)
  else (0, 0, 1)



theorem spacingAt_any (a : Option Addr) (n c : Nat) (xs : List Int) (st i : Int) (w : World) (ha : RV w a n c (ints xs)) :
    Calls Try.prog 12 #[.slice a n c, .int .i64 st, .int .i64 i] w fun e w' => e = rtF (spacingR xs st i) ∧ Below w.heap.size w w' := by
  have Ha := Lib.hid ha
  have hbx := (Below.refl w.heap.size w).alloc (Nat.le_refl _) (.cells #[.int .i64 0, .int .i64 0] 34)
  cases hv : vShape xs
  · rw [show spacingR xs st i = (0, 0, 1) by simp [spacingR, hv]]
    clear ha
    go_enter Try.func12, Try.ntmps12
    go_wp2_with (first | (go_at_call 34; refine (validShape_any _ _ _ _ _ (Ha.out.below hbx)).mono ?_; rintro e w' ⟨rfl, rfl⟩) | (go_at_call 35; refine (areStakes_any _ _).mono ?_; rintro e w' ⟨rfl, rfl⟩) | (go_at_call 32; refine (within_any _ _ _ _).mono ?_; rintro e w' ⟨rfl, rfl⟩))
    refine bodyPost_ret (v := .tuple #[.agg #[.int .i64 0, .int .i64 0], .int .i64 1]) (by simp [results, Try.results12, go_sem]) rfl ⟨rfl, ?_⟩
    exact (by repeat' (first | (with_reducible exact hbx) | (with_reducible exact Below.refl _ _) | (with_reducible refine bdrewN ?_ _) | (with_reducible refine Below.drew ?_) | (with_reducible refine Below.setCell ?_ ?_ _) | (with_reducible refine Below.alloc ?_ ?_ _) | omega | (simp; done) | (simp; omega)))
  · obtain ⟨hx, h1, h2⟩ := vShape_iff.1 hv
    have hl := ha.lenI
    have h3 : 1 ≤ n ∧ n ≤ 12 := by rw [hl] at h1 h2; exact ⟨h1, h2⟩
    cases hs : areSt st
    · rw [show spacingR xs st i = (0, 0, 2) by simp [spacingR, hv, hs]]
      clear ha hl h1 h2 hx
      go_enter Try.func12, Try.ntmps12
      go_wp2_with (first | (go_at_call 34; refine (validShape_any _ _ _ _ _ (Ha.out.below hbx)).mono ?_; rintro e w' ⟨rfl, rfl⟩) | (go_at_call 35; refine (areStakes_any _ _).mono ?_; rintro e w' ⟨rfl, rfl⟩) | (go_at_call 32; refine (within_any _ _ _ _).mono ?_; rintro e w' ⟨rfl, rfl⟩))
      refine bodyPost_ret (v := .tuple #[.agg #[.int .i64 0, .int .i64 0], .int .i64 2]) (by simp [results, Try.results12, go_sem]) rfl ⟨rfl, ?_⟩
      exact (by repeat' (first | (with_reducible exact hbx) | (with_reducible exact Below.refl _ _) | (with_reducible refine bdrewN ?_ _) | (with_reducible refine Below.drew ?_) | (with_reducible refine Below.setCell ?_ ?_ _) | (with_reducible refine Below.alloc ?_ ?_ _) | omega | (simp; done) | (simp; omega)))
    · cases hi : inB i 0 ((n : Int) - 1)
      · rw [show spacingR xs st i = (0, 0, 2) by simp [spacingR, hv, hs, hl, hi]]
        clear ha hl h1 h2 hx
        have hw := IntWalk.i64_in ((n : Int) - 1) (by omega)
        go_enter Try.func12, Try.ntmps12
        go_wp2_with (first | (go_at_call 34; refine (validShape_any _ _ _ _ _ (Ha.out.below hbx)).mono ?_; rintro e w' ⟨rfl, rfl⟩) | (go_at_call 35; refine (areStakes_any _ _).mono ?_; rintro e w' ⟨rfl, rfl⟩) | (go_at_call 32; refine (within_any _ _ _ _).mono ?_; rintro e w' ⟨rfl, rfl⟩))
        refine bodyPost_ret (v := .tuple #[.agg #[.int .i64 0, .int .i64 0], .int .i64 2]) (by simp [results, Try.results12, go_sem]) rfl ⟨rfl, ?_⟩
        exact (by repeat' (first | (with_reducible exact hbx) | (with_reducible exact Below.refl _ _) | (with_reducible refine bdrewN ?_ _) | (with_reducible refine Below.drew ?_) | (with_reducible refine Below.setCell ?_ ?_ _) | (with_reducible refine Below.alloc ?_ ?_ _) | omega | (simp; done) | (simp; omega)))
      · have hi2 := inB_iff.1 hi
        obtain ⟨j, rfl⟩ := Int.eq_ofNat_of_zero_le hi2.1
        have hj : j < n := by omega
        obtain ⟨b, o, x, rfl, hb, hx, Hx⟩ := ha.at hj
        have hx2 := vShape_at hv (k := j) (by omega)
        rw [← Hx.out] at hx2
        have hst := inB_iff.1 hs
        rw [show spacingR xs st j = (lowN x st, lowD x st, 0) by simp only [spacingR, hv, hs, hl, hi, if_true, Int.toNat_natCast, Bool.and_self, Hx.out]]
        have e1 : (w.alloc (.cells #[.int .i64 0, .int .i64 0] 34)).cell? ⟨b, o + j, none⟩ = some (.int .i64 x) := (hbx.cell (p := ⟨b, o + j, none⟩) hb).trans hx
        have hw := IntWalk.i64_in ((n : Int) - 1) (by omega)
        clear ha hl h1 h2
        go_enter Try.func12, Try.ntmps12
        go_wp2_with (first | (go_at_call 34; refine (validShape_any _ _ _ _ _ (Ha.out.below hbx)).mono ?_; rintro e w' ⟨rfl, rfl⟩) | (go_at_call 35; refine (areStakes_any _ _).mono ?_; rintro e w' ⟨rfl, rfl⟩) | (go_at_call 32; refine (within_any _ _ _ _).mono ?_; rintro e w' ⟨rfl, rfl⟩) | (go_at_call 36; refine (lowest_exact _ _ _ (by omega) (by omega) (by omega) (by omega)).mono ?_; rintro e w' ⟨rfl, m, rfl⟩))
        refine bodyPost_ret (v := .tuple #[.agg #[.int .i64 (lowN x st), .int .i64 (lowD x st)], .int .i64 0]) (by simp [results, Try.results12, go_sem]) rfl ⟨rfl, ?_⟩
        exact (by repeat' (first | (with_reducible exact hbx) | (with_reducible exact Below.refl _ _) | (with_reducible refine bdrewN ?_ _) | (with_reducible refine Below.drew ?_) | (with_reducible refine Below.setCell ?_ ?_ _) | (with_reducible refine Below.alloc ?_ ?_ _) | omega | (simp; done) | (simp; omega)))

end Go.Proofs.Ytkglcfeopicakaa
