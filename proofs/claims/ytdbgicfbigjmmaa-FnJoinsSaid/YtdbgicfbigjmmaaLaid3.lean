/-
  Laid rods, on: the places of joins.
-/
import Derived.Test.YtdbgicfbigjmmaaLaid
namespace Go.Proofs.Ytdbgicfbigjmmaa
open Go.RowKit
set_option linter.unusedVariables false

set_option maxHeartbeats 1000000 in
theorem placesOf_any (a : Option Addr) (n c : Nat) (xs : List Int) (w : World) (hok : okRods xs = true) (ha : RV w a n c (ints xs)) :
    Calls Try.prog 32 #[.slice a n c] w fun e w' => ∃ v : Value, e = .returned v ∧ Own w' w.heap.size w'.heap.size 2 v (ints (places xs)) ∧ Below w.heap.size w w' := by
  have hm := ha.small
  have Hl := Lib.hid ha.lenI
  have h7 : n ≤ 7 := by have := (okRods_iff.1 hok).2; rw [ha.lenI] at this; exact this
  have Hb := Lib.hid (fun k (hk : k ≤ n) => psum_bd hok k (by rw [ha.lenI]; exact hk))
  have Hx := Lib.hid (fun k (hk : k < n) => okRods_at hok (k := k) (by rw [ha.lenI]; exact hk))
  have Ha := Lib.hid ha
  clear ha hok
  go_enter Try.func32, Try.ntmps32
  go_wp2
  go_loopw [3, 4, 10] (fun v q i wr => ∃ (k : Nat), i = .int .i64 k ∧ k ≤ n ∧ q = .int .i64 (psum xs k) ∧ ∃ pre, Hid (pre = placesTo xs (min k (n - 1))) ∧ pre.length ≤ 7 ∧ wr.ownsRow w.heap.size 2 1 v pre.length (ints pre) ∧ Below w.heap.size w wr) (fun _ _ i _ => n - (intOf i).toNat)
  case atStart =>
    exact ⟨0, rfl, by omega, rfl, [], Lib.hid (by simp [placesTo]), by simp, owns_empty rfl (Nat.le_refl _), (Below.refl _ _).alloc (Nat.le_refl _) _⟩
  case round =>
    obtain ⟨k, rfl, hk, rfl, pre, Hp, hpl, hown, hbel⟩ := hrel
    obtain ⟨a', c', rfl⟩ := owns_slice hown
    have hsz := hbel.size
    by_cases hlt : k < n
    · obtain ⟨b, o, rfl, hb, hc⟩ := Ha.out.cell (by omega)
      have e1 : wr.cell? ⟨b, o + k, none⟩ = some (.int .i64 (xs.getD k 0)) := (hbel.cell (p := ⟨b, o + k, none⟩) hb).trans (hc k hlt)
      have b1 := Hb.out k hk
      have b2 := Hx.out k hlt
      have Hs := Lib.hid (show psum xs (k + 1) = psum xs k + xs.getD k 0 from rfl)
      have Hst := Lib.hid (placesTo_step xs k)
      clear hc
      generalize psum xs k = s at *
      generalize xs.getD k 0 = u at *
      have hw := IntWalk.i64_in ((n : Int) - 1) (by omega)
      by_cases hlast : k < n - 1
      · have hd : decide ((k : Int) < (n : Int) - 1) = true := by simp; omega
        go_wp2_with (at_builtin; refine wpList_app1 rfl _ _ 22 rfl w.heap.size 2 _ 8 Try.underlying22 info_i64 (by decide) rfl _ pre.length _ rfl (hown.alloc _) wr.heap.size (.int .i64 (s + u)) rfl ?c1 rfl ?c2 ?c3 ?_)
        case c1 => exact cell_boxed rfl
        case c2 => omega
        case c3 => simp; omega
        intro v1 w1 hown1 hgrow
        have hb1 := below_app (hbel.alloc (by omega) _) (hown.alloc _) hgrow (Nat.le_refl _) (by simp; omega)
        clear hown hgrow
        go_wp2
        go_roundw
        case measure => simp [intOf]; omega
        case rel =>
          have hpre : pre ++ [s + u] = placesTo xs (min (k + 1) (n - 1)) := by
            rw [show min (k + 1) (n - 1) = k + 1 by omega, Hst.out, Hs.out, Hp.out, show min k (n - 1) = k by omega]
          exact ⟨k + 1, by go_num, by omega, by rw [Hs.out], pre ++ [s + u], Lib.hid hpre, by rw [hpre, placesTo_len]; omega, by simpa using hown1, hb1⟩
      · have hd : decide ((k : Int) < (n : Int) - 1) = false := by simp; omega
        have Hown := Lib.hid hown
        have Hbel := Lib.hid hbel
        clear hown hbel
        go_wp2
        go_roundw
        case measure => simp [intOf]; omega
        case rel => exact ⟨k + 1, by go_num, by omega, by rw [Hs.out], pre, Lib.hid (by rw [Hp.out]; congr 1; omega), hpl, Hown.out, Hbel.out⟩
    · go_wp2
      go_ret
      have hfin : pre = places xs := by
        rw [Hp.out, places, Hl.out]; congr 1; omega
      subst hfin
      exact ⟨_, rfl, Own.of hown, hbel⟩

set_option maxHeartbeats 1000000 in
theorem l10Joins_any (a : Option Addr) (n c : Nat) (xs : List Int) (w : World) (hok : okRods xs = true) (ha : RV w a n c (ints xs)) :
    Calls Try.prog 41 #[.slice a n c] w fun e w' => ∃ v : Value, e = .returned v ∧ Own w' w.heap.size w'.heap.size 2 v (ints (places xs)) ∧ Below w.heap.size w w' := by
  have hm := ha.small
  have Hl := Lib.hid ha.lenI
  have h7 : n ≤ 7 := by have := (okRods_iff.1 hok).2; rw [ha.lenI] at this; exact this
  have Hb := Lib.hid (fun k (hk : k ≤ n) => psum_bd hok k (by rw [ha.lenI]; exact hk))
  have Hx := Lib.hid (fun k (hk : k < n) => okRods_at hok (k := k) (by rw [ha.lenI]; exact hk))
  have Ha := Lib.hid ha
  clear ha hok
  go_enter Try.func41, Try.ntmps41
  go_wp2
  go_loopw [3, 4, 5] (fun v q i wr => ∃ (k : Nat), i = .int .i64 k ∧ k ≤ n - 1 ∧ q = .int .i64 (psum xs k) ∧ ∃ pre, Hid (pre = placesTo xs k) ∧ pre.length ≤ 7 ∧ wr.ownsRow w.heap.size 2 1 v pre.length (ints pre) ∧ Below w.heap.size w wr) (fun _ _ i _ => n - (intOf i).toNat)
  case atStart =>
    exact ⟨0, rfl, by omega, rfl, [], Lib.hid (by simp [placesTo]), by simp, owns_empty rfl (Nat.le_refl _), (Below.refl _ _).alloc (Nat.le_refl _) _⟩
  case round =>
    obtain ⟨k, rfl, hk, rfl, pre, Hp, hpl, hown, hbel⟩ := hrel
    obtain ⟨a', c', rfl⟩ := owns_slice hown
    have hsz := hbel.size
    by_cases hlt : k + 1 < n
    · obtain ⟨b, o, rfl, hb, hc⟩ := Ha.out.cell (by omega)
      have e1 : wr.cell? ⟨b, o + k, none⟩ = some (.int .i64 (xs.getD k 0)) := (hbel.cell (p := ⟨b, o + k, none⟩) hb).trans (hc k (by omega))
      have b1 := Hb.out k (by omega)
      have b2 := Hx.out k (by omega)
      have Hs := Lib.hid (show psum xs (k + 1) = psum xs k + xs.getD k 0 from rfl)
      have Hst := Lib.hid (placesTo_step xs k)
      clear hc
      generalize psum xs k = s at *
      generalize xs.getD k 0 = u at *
      have hlk : k < n := by omega
      have hd : decide ((k : Int) + 1 < (n : Int)) = true := by simp; omega
      go_wp2_with (at_builtin; refine wpList_app1 rfl _ _ 22 rfl w.heap.size 2 _ 8 Try.underlying22 info_i64 (by decide) rfl _ pre.length _ rfl (hown.alloc _) wr.heap.size (.int .i64 (s + u)) rfl ?c1 rfl ?c2 ?c3 ?_)
      case c1 => exact cell_boxed rfl
      case c2 => omega
      case c3 => simp; omega
      intro v1 w1 hown1 hgrow
      have hb1 := below_app (hbel.alloc (by omega) _) (hown.alloc _) hgrow (Nat.le_refl _) (by simp; omega)
      clear hown hgrow
      go_wp2
      go_roundw
      case measure => simp [intOf]; omega
      case rel =>
        have hpre : pre ++ [s + u] = placesTo xs (k + 1) := by rw [Hst.out, Hs.out, Hp.out]
        exact ⟨k + 1, by go_num, by omega, by rw [Hs.out], pre ++ [s + u], Lib.hid hpre, by rw [hpre, placesTo_len]; omega, by simpa using hown1, hb1⟩
    · have hd : decide ((k : Int) + 1 < (n : Int)) = false := by simp; omega
      have Hown := Lib.hid hown
      have Hbel := Lib.hid hbel
      clear hown hbel
      go_wp2
      go_ret
      have hfin : pre = places xs := by
        rw [Hp.out, places, Hl.out]; congr 1; omega
      subst hfin
      exact ⟨_, rfl, Own.of Hown.out, Hbel.out⟩
end Go.Proofs.Ytdbgicfbigjmmaa
