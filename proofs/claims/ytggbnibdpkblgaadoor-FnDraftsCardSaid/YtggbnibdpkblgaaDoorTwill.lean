/-
  Twills: sizes, copies, equality, validity, by walks.
-/
import Derived.Test.YtggbnibdpkblgaaDoorTwillPlain
namespace Go.Proofs.YtggbnibdpkblgaaDoor
open Go.RowKit
set_option linter.unusedVariables false

/-- a twill's list as it lies in memory, with what it holds; its cells in block b -/
def TwAt (w : World) (b : Nat) (a : Option Addr) (n c : Nat) (xs : List Int) (st : Int) : Prop :=
  w.cell? ⟨b, 0, none⟩ = some (.slice a n c) ∧ w.cell? ⟨b, 1, none⟩ = some (.int .i64 st) ∧ RV w a n c (ints xs)
theorem TwAt.boxed {w : World} {a : Option Addr} {n c : Nat} {xs : List Int} (st : Int) (e : TypeId) (h : RV w a n c (ints xs)) : TwAt (w.alloc (.cells #[.slice a n c, .int .i64 st] e)) w.heap.size a n c xs st := by
  refine ⟨?_, ?_, h.below ((Below.refl _ _).alloc (Nat.le_refl _) _)⟩ <;> simp [go_sem]



/-- a twill of the call's own as a result -/
def RetT (w : World) (e : TypeId) (xs : List Int) (st : Int) (en : Ending) (w' : World) : Prop :=
  ∃ v : Value, en = .returned (.agg #[v, .int .i64 st]) ∧ Own w' w.heap.size w'.heap.size e v (ints xs) ∧ Below w.heap.size w w'




/-! ### equality -/
theorem take_eq_step {xs ys : List Int} {k : Nat} (hl : xs.length = ys.length) (h : xs.take k = ys.take k) (hk : k < xs.length) (he : xs.getD k 0 = ys.getD k 0) : xs.take (k + 1) = ys.take (k + 1) := by
  rw [take_snoc' (d := 0) hk, take_snoc' (d := 0) (hl ▸ hk), h, he]
theorem ne_of_get {xs ys : List Int} {k : Nat} (he : xs.getD k 0 ≠ ys.getD k 0) : xs ≠ ys := fun e => he (by rw [e])

set_option maxHeartbeats 1000000 in
theorem l00Same_any (a a' : Option Addr) (n n' c c' : Nat) (xs ys : List Int) (w : World) (ha : RV w a n c (ints xs)) (hb : RV w a' n' c' (ints ys)) :
    Calls Tryd.prog 50 #[.slice a n c, .slice a' n' c'] w fun e w' => e = .returned (.bool (decide (xs = ys))) ∧ ∃ q, w' = w.drewN q := by
  have hm := ha.small
  have hl := ha.lenI
  have hl' := hb.lenI
  by_cases hnn : n = n'
  · subst hnn
    have Hl := Lib.hid hl
    have Hl' := Lib.hid hl'
    have Ha := Lib.hid ha
    have Hb := Lib.hid hb
    clear ha hb hl hl'
    go_enter Tryd.func50, Tryd.ntmps50
    go_wp2
    go_loopw [5] (fun i wr => ∃ k : Nat, k ≤ n ∧ i = .int .i64 k ∧ Hid (xs.take k = ys.take k) ∧ ∃ q, Hid (wr = w.drewN q)) (fun i _ => n - (intOf i).toNat)
    case atStart => exact ⟨0, Nat.zero_le _, rfl, Lib.hid (by simp), 0, Lib.hid rfl⟩
    case round =>
      obtain ⟨k, hk, rfl, Ht, q, Hw⟩ := hrel
      by_cases hlt : k < n
      · have Ha' : RV wr a n c (ints xs) := by rw [Hw.out]; exact Ha.out.drewN q
        have Hb' : RV wr a' n c' (ints ys) := by rw [Hw.out]; exact Hb.out.drewN q
        obtain ⟨b, o, x, rfl, hb, hx, Hx⟩ := Ha'.at hlt
        obtain ⟨b', o', y, rfl, hb', hy, Hy⟩ := Hb'.at hlt
        clear Ha' Hb'
        have hlt' : (k : Int) < n := by omega
        by_cases hxy : x = y
        · have Hxy := Lib.hid hxy
          subst hxy
          go_wp2
          go_quiet (fail)
          go_wp2
          go_roundw
          case rel => exact ⟨k + 1, by omega, by go_num, Lib.hid (take_eq_step (by rw [Hl.out, Hl'.out]) Ht.out (by rw [Hl.out]; exact hlt) (by rw [← Hx.out, ← Hy.out])), q + nq, Lib.hid (by rw [Hw.out, World.drewN_drewN])⟩
          case measure => simp [intOf]; omega
        · have hd : (x != y) = true := by simp [hxy]
          have hd' : (x == y) = false := by simp [hxy]
          have Hne := Lib.hid (show xs ≠ ys from ne_of_get (k := k) (by rw [← Hx.out, ← Hy.out]; exact hxy))
          clear hxy
          go_wp2
          go_quiet (fail)
          go_wp2
          go_ret
          exact ⟨ret_bool (by simp [Hne.out]), q + nq, by rw [Hw.out, World.drewN_drewN]⟩
      · go_wp2
        go_ret
        have h3 := Ht.out
        rw [List.take_of_length_le (by have := Hl.out; omega), List.take_of_length_le (by have := Hl'.out; omega)] at h3
        exact ⟨ret_bool (by simp [h3]), q, Hw.out⟩
  · have hd : ((n : Int) != n') = true := by simp; omega
    have hd' : ((n : Int) == n') = false := by simp; omega
    have hne : xs ≠ ys := fun e => hnn (by rw [← hl, ← hl', e])
    have Hne := Lib.hid hne
    clear hl hl' hne ha hb
    go_enter Tryd.func50, Tryd.ntmps50
    go_wp2
    go_ret
    exact ⟨ret_bool (by simp [Hne.out]), 0, rfl⟩

end Go.Proofs.YtggbnibdpkblgaaDoor
