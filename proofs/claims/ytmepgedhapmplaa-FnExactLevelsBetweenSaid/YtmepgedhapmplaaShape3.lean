/-
  Shapes, on: turned (the reference), levels between.
-/
import Derived.Test.YtmepgedhapmplaaShape2
namespace Go.Proofs.Ytmepgedhapmplaa
open Go.RowKit
set_option linter.unusedVariables false

theorem rev_step {xs : List Int} {f : Nat} (h : f < xs.length) : xs.reverse.take (xs.length - (f + 1)) ++ [xs.getD f 0] = xs.reverse.take (xs.length - f) := by
  rw [show xs.length - f = (xs.length - (f + 1)) + 1 by omega, List.take_succ_eq_append_getElem (by simp; omega)]
  have e : xs.length - 1 - (xs.length - (f + 1)) = f := by omega
  simp [List.getElem_reverse, e, h]

theorem specTurned_any (a : Option Addr) (n c : Nat) (xs : List Int) (w : World) (ha : RV w a n c (ints xs)) :
    Calls Try.prog 36 #[.slice a n c] w fun e w' => RetL w 2 (turnedR xs) e w' := by
  have Ha := Lib.hid ha
  cases hv : vShape xs
  · rw [show turnedR xs = ([], 1) by simp [turnedR, hv]]
    clear ha
    go_enter Try.func36, Try.ntmps36
    go_wp2_with (go_at_call 41; refine (l08Ok_any _ _ _ _ _ Ha.out).mono ?_; rintro e w' ⟨rfl, rfl⟩)
    go_ret2
    exact ⟨_, rfl, Own.nil _ _ _ _, Below.refl _ _⟩
  · rw [show turnedR xs = (xs.reverse, 0) by simp [turnedR, hv]]
    obtain ⟨_, h1, h2⟩ := vShape_iff.1 hv
    have Hl := Lib.hid ha.lenI
    have h3 : 1 ≤ n ∧ n ≤ 12 := by rw [ha.lenI] at h1 h2; exact ⟨h1, h2⟩
    clear ha h1 h2
    go_enter Try.func36, Try.ntmps36
    go_wp2_with (go_at_call 41; refine (l08Ok_any _ _ _ _ _ Ha.out).mono ?_; rintro e w' ⟨rfl, rfl⟩)
    go_loopg [4, 5] n (fun f v i wr => ∃ (pre : List Int) (q : Int), i = .int .i64 q ∧ Hid (q + 1 = f) ∧ -1 ≤ q ∧ q < n ∧ Hid (pre = xs.reverse.take (n - f)) ∧ pre.length ≤ 12 ∧ wr.ownsRow w.heap.size 2 1 v pre.length (ints pre) ∧ Below w.heap.size w wr)
    case atStart =>
      exact ⟨[], _, rfl, Lib.hid (by omega), by omega, by omega, Lib.hid (by simp), by simp, owns_empty rfl (Nat.le_refl _), (Below.refl _ _).alloc (Nat.le_refl _) _⟩
    case round =>
      obtain ⟨pre, q, rfl, Hq, hq1, hq2, Hp, hpl, hown, hbel⟩ := hrel
      obtain ⟨a', c', rfl⟩ := owns_slice hown
      have hsz := hbel.size
      by_cases h0 : 0 ≤ q
      · obtain ⟨k, rfl⟩ := Int.eq_ofNat_of_zero_le h0
        have hkn : k < n := by omega
        obtain ⟨b, o, rfl, hb, hc⟩ := Ha.out.cell (by omega)
        have e1 : wr.cell? ⟨b, o + k, none⟩ = some (.int .i64 (xs.getD k 0)) := (hbel.cell (p := ⟨b, o + k, none⟩) hb).trans (hc k hkn)
        clear hc
        have Hs := Lib.hid (rev_step (xs := xs) (f := k) (by have := Hl.out; omega))
        generalize xs.getD k 0 = u at *
        go_wp2_with (at_builtin; refine wpList_app1 rfl _ _ 22 rfl w.heap.size 2 _ 8 Try.underlying22 info_i64 (by decide) rfl _ pre.length _ rfl (hown.alloc _) wr.heap.size (.int .i64 u) rfl ?c1 rfl ?c2 ?c3 ?_)
        case c1 => exact cell_boxed rfl
        case c2 => omega
        case c3 => simp; omega
        intro v' w' hown' hgrow
        have hb' := below_app (hbel.alloc (by omega) _) (hown.alloc _) hgrow (Nat.le_refl _) (by simp; omega)
        clear hown hgrow
        go_wp2
        go_roundg k
        case measure => have := Hq.out; omega
        case rel =>
          have hpre : pre ++ [u] = xs.reverse.take (n - k) := by
            have e1 := Hs.out; have e2 := Hp.out; have e3 := Hq.out; have e4 := Hl.out
            rw [e2, ← e4, ← e1]
            rw [show gk = k + 1 by omega]
          have hln : (pre ++ [u]).length ≤ 12 := by rw [hpre, List.length_take]; omega
          exact ⟨pre ++ [u], _, rfl, Lib.hid (by have := Hq.out; omega), by omega, by omega, Lib.hid hpre, hln, by simpa using hown', hb'⟩
      · go_wp2
        go_ret2
        have hfin : pre = xs.reverse := by
          rw [Hp.out, List.take_of_length_le]
          have := Hl.out; have := Hq.out; simp; omega
        subst hfin
        exact ⟨_, rfl, Own.of hown, hbel⟩
end Go.Proofs.Ytmepgedhapmplaa
