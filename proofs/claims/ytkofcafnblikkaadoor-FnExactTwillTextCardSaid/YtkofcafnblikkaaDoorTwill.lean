/-
  Twills: sizes, copies, equality, validity, by walks.
-/
import Derived.Test.YtkofcafnblikkaaDoorTwillPlain
namespace Go.Proofs.YtkofcafnblikkaaDoor
open Go.RowKit
set_option linter.unusedVariables false

/-- a twill's list as it lies in memory, with what it holds; its cells in block b -/
def TwAt (w : World) (b : Nat) (a : Option Addr) (n c : Nat) (xs : List Int) (st : Int) : Prop :=
  w.cell? ⟨b, 0, none⟩ = some (.slice a n c) ∧ w.cell? ⟨b, 1, none⟩ = some (.int .i64 st) ∧ RV w a n c (ints xs)
theorem TwAt.boxed {w : World} {a : Option Addr} {n c : Nat} {xs : List Int} (st : Int) (e : TypeId) (h : RV w a n c (ints xs)) : TwAt (w.alloc (.cells #[.slice a n c, .int .i64 st] e)) w.heap.size a n c xs st := by
  refine ⟨?_, ?_, h.below ((Below.refl _ _).alloc (Nat.le_refl _) _)⟩ <;> simp [go_sem]

theorem szInts_ok (a : Option Addr) (n c : Nat) (left : Int) (w : World) (h : (n : Int) ≤ left) (hl : left ≤ 1048576) :
    Calls Tryd.prog 27 #[.slice a n c, .int .i64 left] w fun e w' => e = .returned (.int .i64 (left - n)) ∧ w = w' := by
  have hd : decide (left - (n : Int) < 0) = false := by simp; omega
  go_enter Tryd.func27, Tryd.ntmps27
  go_wp2
  go_ret
  exact ⟨rfl, rfl⟩
theorem szInts_no (a : Option Addr) (n c : Nat) (left : Int) (w : World) (h : left < n) (hn : n ≤ 9223372036854775807) (h0 : 0 ≤ left) :
    Calls Tryd.prog 27 #[.slice a n c, .int .i64 left] w fun e w' => e = .returned (.int .i64 (-1)) ∧ w = w' := by
  have hd : decide (left - (n : Int) < 0) = true := by simp; omega
  have hw := IntWalk.i64_in (left - (n : Int)) (by omega)
  go_enter Tryd.func27, Tryd.ntmps27
  go_wp2
  go_ret
  exact ⟨rfl, rfl⟩

theorem szTwill_ok (a : Option Addr) (n c : Nat) (st left : Int) (w : World) (h : (n : Int) ≤ left) (hl : left ≤ 1048576) :
    Calls Tryd.prog 5 #[.agg #[.slice a n c, .int .i64 st], .int .i64 left] w fun e w' => e = .returned (.int .i64 (left - n)) ∧ Below w.heap.size w w' := by
  have hd : decide (left - (n : Int) < 0) = false := by simp; omega
  go_enter Tryd.func5, Tryd.ntmps5
  go_wp2_with (go_at_call 27; refine (szInts_ok _ _ _ _ _ h hl).mono ?_; rintro e w' ⟨rfl, rfl⟩)
  go_ret
  exact ⟨rfl, (Below.refl _ _).alloc (Nat.le_refl _) _⟩
theorem szTwill_no (a : Option Addr) (n c : Nat) (st left : Int) (w : World) (h : left < n) (hn : n ≤ 9223372036854775807) (h0 : 0 ≤ left) :
    Calls Tryd.prog 5 #[.agg #[.slice a n c, .int .i64 st], .int .i64 left] w fun e w' => e = .returned (.int .i64 (-1)) ∧ Below w.heap.size w w' := by
  go_enter Tryd.func5, Tryd.ntmps5
  go_wp2_with (go_at_call 27; refine (szInts_no _ _ _ _ _ h hn h0).mono ?_; rintro e w' ⟨rfl, rfl⟩)
  go_ret
  exact ⟨rfl, (Below.refl _ _).alloc (Nat.le_refl _) _⟩

/-- a twill of the call's own as a result -/
def RetT (w : World) (e : TypeId) (xs : List Int) (st : Int) (en : Ending) (w' : World) : Prop :=
  ∃ v : Value, en = .returned (.agg #[v, .int .i64 st]) ∧ Own w' w.heap.size w'.heap.size e v (ints xs) ∧ Below w.heap.size w w'

set_option maxHeartbeats 1000000 in
theorem toTwill_any (a : Option Addr) (n c : Nat) (xs : List Int) (st : Int) (w : World) (hn : n ≤ 2147483648) (ha : RV w a n c (ints xs)) :
    Calls Tryd.prog 7 #[.agg #[.slice a n c, .int .i64 st]] w (RetT w 2 xs st) := by
  have Ha := Lib.hid ha
  clear ha
  go_enter Tryd.func7, Tryd.ntmps7
  go_wp2_with fail
  refine (toInts_any _ _ _ _ _ hn (((Ha.out.below ((Below.refl _ _).alloc (Nat.le_refl _) _)).below ((Below.refl _ _).alloc (Nat.le_refl _) _)).below ((Below.refl _ _).alloc (Nat.le_refl _) _))).mono ?_
  rintro e w1 ⟨v, rfl, ho, hb⟩
  obtain ⟨a', c', rfl, hr'⟩ := ho.sliceI
  clear hr'
  obtain ⟨hc1, hf1⟩ := bcell hb
  have hz1 := hb.size
  simp only [World.size_alloc] at hz1 ho hc1 hf1
  have Ho := Lib.hid ho
  have HB : Hid (Below w.heap.size w w1) := Lib.hid (bstep ((((Below.refl w.heap.size w).alloc (Nat.le_refl _) _).alloc (by simp) _).alloc (by simp; omega) _) hb (Nat.le_refl _))
  clear ho hb
  go_wp2
  refine bodyPost_ret (v := .agg #[.slice a' xs.length c', .int .i64 st]) (by simp [results, Tryd.results7, go_sem, hc1]) rfl ⟨_, rfl, ?_, ?_⟩
  · exact ((((Ho.out.set (by omega) 0 _).set (by omega) 1 _).set (by omega) 0 _).set (by omega) 1 _).mono (by omega) (by simp)
  · exact (((HB.out.setCell (by simp; omega) _).setCell (by simp; omega) _).setCell (by simp) _).setCell (by simp) _

theorem eqTwill_same (a b : Option Addr) (n c d : Nat) (xs : List Int) (st : Int) (w : World) (ha : RV w a n c (ints xs)) (hb : RV w b n d (ints xs)) :
    Calls Tryd.prog 9 #[.agg #[.slice a n c, .int .i64 st], .agg #[.slice b n d, .int .i64 st]] w fun e w' => e = .returned (.bool true) ∧ Below w.heap.size w w' := by
  have Ha := Lib.hid ha
  have Hb := Lib.hid hb
  clear ha hb
  go_enter Tryd.func9, Tryd.ntmps9
  go_wp2_with fail
  refine (eqInts_same _ _ _ _ _ _ _ ((Ha.out.below ((Below.refl _ _).alloc (Nat.le_refl _) _)).below ((Below.refl _ _).alloc (Nat.le_refl _) _)) ((Hb.out.below ((Below.refl _ _).alloc (Nat.le_refl _) _)).below ((Below.refl _ _).alloc (Nat.le_refl _) _))).mono ?_
  rintro e w1 ⟨rfl, m, rfl⟩
  go_wp2
  go_ret
  exact ⟨rfl, bdrewN (((Below.refl _ _).alloc (Nat.le_refl _) _).alloc (by simp) _) m⟩


/-! ### equality -/
theorem take_eq_step {xs ys : List Int} {k : Nat} (hl : xs.length = ys.length) (h : xs.take k = ys.take k) (hk : k < xs.length) (he : xs.getD k 0 = ys.getD k 0) : xs.take (k + 1) = ys.take (k + 1) := by
  rw [take_snoc' (d := 0) hk, take_snoc' (d := 0) (hl ▸ hk), h, he]
theorem ne_of_get {xs ys : List Int} {k : Nat} (he : xs.getD k 0 ≠ ys.getD k 0) : xs ≠ ys := fun e => he (by rw [e])

set_option maxHeartbeats 1000000 in
theorem l00Same_any (a a' : Option Addr) (n n' c c' : Nat) (xs ys : List Int) (w : World) (ha : RV w a n c (ints xs)) (hb : RV w a' n' c' (ints ys)) :
    Calls Tryd.prog 62 #[.slice a n c, .slice a' n' c'] w fun e w' => e = .returned (.bool (decide (xs = ys))) ∧ ∃ q, w' = w.drewN q := by
  have hm := ha.small
  have hl := ha.lenI
  have hl' := hb.lenI
  by_cases hnn : n = n'
  · subst hnn
    have Hl := Lib.hid hl
    have Hl' := Lib.hid hl'
    have Ha := Lib.hid ha
    have Hb := Lib.hid hb
    clear ha hb hl hl'
    go_enter Tryd.func62, Tryd.ntmps62
    go_wp2
    go_loopw [5] (fun i wr => ∃ k : Nat, k ≤ n ∧ i = .int .i64 k ∧ Hid (xs.take k = ys.take k) ∧ ∃ q, Hid (wr = w.drewN q)) (fun i _ => n - (intOf i).toNat)
    case atStart => exact ⟨0, Nat.zero_le _, rfl, Lib.hid (by simp), 0, Lib.hid rfl⟩
    case round =>
      obtain ⟨k, hk, rfl, Ht, q, Hw⟩ := hrel
      by_cases hlt : k < n
      · have Ha' : RV wr a n c (ints xs) := by rw [Hw.out]; exact Ha.out.drewN q
        have Hb' : RV wr a' n c' (ints ys) := by rw [Hw.out]; exact Hb.out.drewN q
        obtain ⟨b, o, x, rfl, hb, hx, Hx⟩ := Ha'.at hlt
        obtain ⟨b', o', y, rfl, hb', hy, Hy⟩ := Hb'.at hlt
        clear Ha' Hb'
        have hlt' : (k : Int) < n := by omega
        by_cases hxy : x = y
        · have Hxy := Lib.hid hxy
          subst hxy
          go_wp2
          go_quiet (fail)
          go_wp2
          go_roundw
          case rel => exact ⟨k + 1, by omega, by go_num, Lib.hid (take_eq_step (by rw [Hl.out, Hl'.out]) Ht.out (by rw [Hl.out]; exact hlt) (by rw [← Hx.out, ← Hy.out])), q + nq, Lib.hid (by rw [Hw.out, World.drewN_drewN])⟩
          case measure => simp [intOf]; omega
        · have hd : (x != y) = true := by simp [hxy]
          have hd' : (x == y) = false := by simp [hxy]
          have Hne := Lib.hid (show xs ≠ ys from ne_of_get (k := k) (by rw [← Hx.out, ← Hy.out]; exact hxy))
          clear hxy
          go_wp2
          go_quiet (fail)
          go_wp2
          go_ret
          exact ⟨ret_bool (by simp [Hne.out]), q + nq, by rw [Hw.out, World.drewN_drewN]⟩
      · go_wp2
        go_ret
        have h3 := Ht.out
        rw [List.take_of_length_le (by have := Hl.out; omega), List.take_of_length_le (by have := Hl'.out; omega)] at h3
        exact ⟨ret_bool (by simp [h3]), q, Hw.out⟩
  · have hd : ((n : Int) != n') = true := by simp; omega
    have hd' : ((n : Int) == n') = false := by simp; omega
    have hne : xs ≠ ys := fun e => hnn (by rw [← hl, ← hl', e])
    have Hne := Lib.hid hne
    clear hl hl' hne ha hb
    go_enter Tryd.func62, Tryd.ntmps62
    go_wp2
    go_ret
    exact ⟨ret_bool (by simp [Hne.out]), 0, rfl⟩

end Go.Proofs.YtkofcafnblikkaaDoor
