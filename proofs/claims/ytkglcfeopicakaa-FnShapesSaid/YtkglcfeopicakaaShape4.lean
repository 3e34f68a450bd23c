/-
  Shapes, on: levels between.
-/
import Derived.Test.YtkglcfeopicakaaShape3
namespace Go.Proofs.Ytkglcfeopicakaa
open Go.RowKit
set_option linter.unusedVariables false

/-- the first k levels, and one between each two -/
def betw (l : List Int) : Nat → List Int
  | 0 => []
  | 1 => [l.getD 0 0]
  | k + 2 => betw l (k + 1) ++ [(l.getD k 0 + l.getD (k + 1) 0) / 2] ++ [l.getD (k + 1) 0]
theorem betw_length (l : List Int) : ∀ k, (betw l k).length = 2 * k - 1 := by
  intro k
  induction k with
  | zero => rfl
  | succ k ih =>
    cases k with
    | zero => rfl
    | succ k => simp only [betw, List.length_append, List.length_cons, List.length_nil, ih]; omega
theorem owns_lit {w : World} {base g : Nat} {e : TypeId} {xs : List Value} {n : Nat} {cs : Array Value} (hcs : cs = xs.toArray) (hb : base ≤ w.heap.size) (hm : xs.length ≤ maxLen) (hg : g = w.heap.size := by rfl) (hn : n = xs.length := by rfl) : (w.alloc (.cells cs e)).ownsRow base e 1 (.slice (some ⟨g, 0, none⟩) n n) n xs := by
  subst hg hcs hn
  exact ⟨by simp, .inr ⟨w.heap.size, xs.length, xs.toArray, rfl, hb, heap_alloc_new w _, Nat.le_refl _, hm, by simp, by simp⟩⟩
def betweenR (l : List Int) : List Int × Int := if vShape l then if 6 < l.length then ([], 5) else (betw l l.length, 0) else ([], 1)
theorem betweenR_len (l : List Int) : (betweenR l).1.length ≤ 1000000 := by
  unfold betweenR; split
  · split
    · simp
    · rw [betw_length]; omega
  · simp

set_option maxHeartbeats 1000000 in
theorem levelsBetween_any (a : Option Addr) (n c : Nat) (xs : List Int) (w : World) (ha : RV w a n c (ints xs)) :
    Calls Try.prog 18 #[.slice a n c] w fun e w' => RetL w 2 (betweenR xs) e w' := by
  have Ha := Lib.hid ha
  cases hv : vShape xs
  · rw [show betweenR xs = ([], 1) by simp [betweenR, hv]]
    clear ha
    go_enter Try.func18, Try.ntmps18
    go_wp2_with (go_at_call 34; refine (validShape_any _ _ _ _ _ Ha.out).mono ?_; rintro e w' ⟨rfl, rfl⟩)
    go_ret2
    exact ⟨_, rfl, Own.nil _ _ _ _, Below.refl _ _⟩
  · obtain ⟨hx, h1, h2⟩ := vShape_iff.1 hv
    have Hl := Lib.hid ha.lenI
    have h3 : 1 ≤ n ∧ n ≤ 12 := by rw [ha.lenI] at h1 h2; exact ⟨h1, h2⟩
    have Hx := Lib.hid (fun k (hk : k < n) => vShape_at hv (k := k) (by rw [ha.lenI]; exact hk))
    by_cases h6 : 6 < n
    · rw [show betweenR xs = ([], 5) by simp [betweenR, hv, ha.lenI, h6]]
      clear ha h1 h2 hx
      have hd : decide (12 < 2 * (n : Int) - 1) = true := by simp; omega
      go_enter Try.func18, Try.ntmps18
      go_wp2_with (go_at_call 34; refine (validShape_any _ _ _ _ _ Ha.out).mono ?_; rintro e w' ⟨rfl, rfl⟩)
      go_ret2
      exact ⟨_, rfl, Own.nil _ _ _ _, Below.refl _ _⟩
    · rw [show betweenR xs = (betw xs n, 0) by simp [betweenR, hv, ha.lenI, h6]]
      clear ha h1 h2 hx
      have hd : decide (12 < 2 * (n : Int) - 1) = false := by simp; omega
      go_enter Try.func18, Try.ntmps18
      go_wp2_with (go_at_call 34; refine (validShape_any _ _ _ _ _ Ha.out).mono ?_; rintro e w' ⟨rfl, rfl⟩)
      clear hd
      go_loopw [4, 18] (fun v i wr => ∃ (k : Nat), i = .int .i64 k ∧ k ≤ n ∧ ∃ pre, Hid (pre = betw xs k) ∧ pre.length ≤ 12 ∧ wr.ownsRow w.heap.size 2 1 v pre.length (ints pre) ∧ Below w.heap.size w wr) (fun _ i _ => n - (intOf i).toNat)
      case atStart =>
        exact ⟨0, rfl, by omega, [], rfl, by simp, owns_empty rfl (Nat.le_refl _), (Below.refl _ _).alloc (Nat.le_refl _) _⟩
      case round =>
        obtain ⟨k, rfl, hk, pre, Hp, hpl, hown, hbel⟩ := hrel
        obtain ⟨a', c', rfl⟩ := owns_slice hown
        have hsz := hbel.size
        by_cases hlt : k < n
        · obtain ⟨b, o, rfl, hb, hc⟩ := Ha.out.cell (by omega)
          have e1 : wr.cell? ⟨b, o + k, none⟩ = some (.int .i64 (xs.getD k 0)) := (hbel.cell (p := ⟨b, o + k, none⟩) hb).trans (hc k hlt)
          have b1 := Hx.out k hlt
          cases k with
          | zero =>
            have e0 : wr.cell? ⟨b, o, none⟩ = some (.int .i64 (xs.getD 0 0)) := e1
            clear hc
            generalize hu : xs.getD 0 0 = u at *
            have Hu := Lib.hid hu
            clear hu
            go_wp2_with (at_builtin; refine wpList_app1 rfl _ _ 24 rfl w.heap.size 2 _ 8 Try.underlying24 info_i64 (by decide) rfl _ pre.length _ rfl (hown.alloc _) wr.heap.size (.int .i64 u) rfl ?c1 rfl ?c2 ?c3 ?_)
            case c1 => exact cell_boxed rfl
            case c2 => omega
            case c3 => simp; omega
            intro v' w' hown' hgrow
            have hb' := below_app (hbel.alloc (by omega) _) (hown.alloc _) hgrow (Nat.le_refl _) (by simp; omega)
            clear hown hgrow
            go_wp2
            go_roundw
            case measure => simp [intOf]; omega
            case rel =>
              have hpre : pre = [] := Hp.out
              subst hpre
              exact ⟨1, by go_num, by omega, [u], Lib.hid (by simp [betw]; simpa using Hu.out.symm), by simp, by simpa using hown', hb'⟩
          | succ j =>
            have e2 : wr.cell? ⟨b, o + j, none⟩ = some (.int .i64 (xs.getD j 0)) := (hbel.cell (p := ⟨b, o + j, none⟩) hb).trans (hc j (by omega))
            have b2 := Hx.out j (by omega)
            have Hs := Lib.hid (show betw xs (j + 1 + 1) = betw xs (j + 1) ++ [(xs.getD j 0 + xs.getD (j + 1) 0) / 2] ++ [xs.getD (j + 1) 0] from rfl)
            obtain ⟨k, hkj⟩ : ∃ k, k = j + 1 := ⟨_, rfl⟩
            rw [← hkj] at e1 hlt hk b1
            have hcast : ((j + 1 : Nat) : Int) = (k : Int) := by rw [hkj]
            simp only [hcast]
            have hw1 : IntKind.i64.wrap ((k : Int) - 1) = (j : Int) := by rw [IntWalk.i64_in _ (by omega)]; omega
            rw [show xs.getD (j + 1) 0 = xs.getD k 0 by rw [hkj]] at Hs
            have Hkj := Lib.hid hkj
            have hjn : j < n := by omega
            have hkp : 0 < k := by omega
            have hl2 := betw_length xs k
            have Hl2 := Lib.hid (show pre.length = 2 * k - 1 by rw [Hp.out, hkj, ← hkj, hl2])
            have hpl2 : pre.length ≤ 9 := by have := Hl2.out; omega
            clear hkj hcast hc hl2
            generalize xs.getD k 0 = u at *
            generalize xs.getD j 0 = v at *
            go_wp2_with (at_builtin; refine wpList_app1 rfl _ _ 24 rfl w.heap.size 2 _ 8 Try.underlying24 info_i64 (by decide) rfl _ pre.length _ rfl (hown.alloc _) wr.heap.size (.int .i64 ((v + u) / 2)) rfl ?c1 rfl ?c2 ?c3 ?_)
            case c1 => exact cell_boxed rfl
            case c2 => omega
            case c3 => simp; omega
            intro v1 w1 hown1 hgrow
            have hb1 := below_app (hbel.alloc (by omega) _) (hown.alloc _) hgrow (Nat.le_refl _) (by simp; omega)
            have hsz1 := hb1.size
            obtain ⟨a1, c1, rfl⟩ := owns_slice hown1
            clear hown hgrow
            go_wp2_with (at_builtin; refine wpList_app1 rfl _ _ 24 rfl w.heap.size 2 _ 8 Try.underlying24 info_i64 (by decide) rfl _ (pre.length + 1) _ rfl (hown1.alloc _) w1.heap.size (.int .i64 u) rfl ?c1 rfl ?c2 ?c3 ?_)
            case c1 => exact cell_boxed rfl
            case c2 => omega
            case c3 => simp; omega
            intro v2 w2 hown2 hgrow
            have hb2 := below_app (hb1.alloc (by omega) _) (hown1.alloc _) hgrow (Nat.le_refl _) (by simp; omega)
            clear hown1 hgrow
            go_wp2
            go_roundw
            case measure => simp [intOf]; omega
            case rel =>
              refine ⟨k + 1, by go_num, by omega, pre ++ [(v + u) / 2] ++ [u], Lib.hid (by rw [Hp.out, Hkj.out, Hs.out]), by simp; omega, ?_, hb2⟩
              simpa using hown2
        · go_wp2
          go_ret2
          have hkn : k = n := by omega
          have hfin : pre = betw xs n := by rw [Hp.out, hkn]
          subst hfin
          exact ⟨_, rfl, Own.of hown, hbel⟩

end Go.Proofs.Ytkglcfeopicakaa
