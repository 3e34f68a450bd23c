/-
  Twills: sizes, copies, equality, validity, by walks.
-/
import Derived.Test.YtflejjfkgkmcgaaGreatTwillPlain
namespace Go.Proofs.YtflejjfkgkmcgaaGreat
open Go.RowKit
set_option linter.unusedVariables false

/-- a twill's list as it lies in memory, with what it holds; its cells in block b -/
def TwAt (w : World) (b : Nat) (a : Option Addr) (n c : Nat) (xs : List Int) (st : Int) : Prop :=
  w.cell? ⟨b, 0, none⟩ = some (.slice a n c) ∧ w.cell? ⟨b, 1, none⟩ = some (.int .i64 st) ∧ RV w a n c (ints xs)
theorem TwAt.boxed {w : World} {a : Option Addr} {n c : Nat} {xs : List Int} (st : Int) (e : TypeId) (h : RV w a n c (ints xs)) : TwAt (w.alloc (.cells #[.slice a n c, .int .i64 st] e)) w.heap.size a n c xs st := by
  refine ⟨?_, ?_, h.below ((Below.refl _ _).alloc (Nat.le_refl _) _)⟩ <;> simp [go_sem]

theorem szInts_ok (a : Option Addr) (n c : Nat) (left : Int) (w : World) (h : (n : Int) ≤ left) (hl : left ≤ 1048576) :
    Calls Tryz.prog 11 #[.slice a n c, .int .i64 left] w fun e w' => e = .returned (.int .i64 (left - n)) ∧ w = w' := by
  have hd : decide (left - (n : Int) < 0) = false := by simp; omega
  go_enter Tryz.func11, Tryz.ntmps11
  go_wp2
  go_ret
  exact ⟨rfl, rfl⟩
theorem szInts_no (a : Option Addr) (n c : Nat) (left : Int) (w : World) (h : left < n) (hn : n ≤ 9223372036854775807) (h0 : 0 ≤ left) :
    Calls Tryz.prog 11 #[.slice a n c, .int .i64 left] w fun e w' => e = .returned (.int .i64 (-1)) ∧ w = w' := by
  have hd : decide (left - (n : Int) < 0) = true := by simp; omega
  have hw := IntWalk.i64_in (left - (n : Int)) (by omega)
  go_enter Tryz.func11, Tryz.ntmps11
  go_wp2
  go_ret
  exact ⟨rfl, rfl⟩

theorem szTwill_ok (a : Option Addr) (n c : Nat) (st left : Int) (w : World) (h : (n : Int) ≤ left) (hl : left ≤ 1048576) :
    Calls Tryz.prog 4 #[.agg #[.slice a n c, .int .i64 st], .int .i64 left] w fun e w' => e = .returned (.int .i64 (left - n)) ∧ Below w.heap.size w w' := by
  have hd : decide (left - (n : Int) < 0) = false := by simp; omega
  go_enter Tryz.func4, Tryz.ntmps4
  go_wp2_with (go_at_call 11; refine (szInts_ok _ _ _ _ _ h hl).mono ?_; rintro e w' ⟨rfl, rfl⟩)
  go_ret
  exact ⟨rfl, (Below.refl _ _).alloc (Nat.le_refl _) _⟩
theorem szTwill_no (a : Option Addr) (n c : Nat) (st left : Int) (w : World) (h : left < n) (hn : n ≤ 9223372036854775807) (h0 : 0 ≤ left) :
    Calls Tryz.prog 4 #[.agg #[.slice a n c, .int .i64 st], .int .i64 left] w fun e w' => e = .returned (.int .i64 (-1)) ∧ Below w.heap.size w w' := by
  go_enter Tryz.func4, Tryz.ntmps4
  go_wp2_with (go_at_call 11; refine (szInts_no _ _ _ _ _ h hn h0).mono ?_; rintro e w' ⟨rfl, rfl⟩)
  go_ret
  exact ⟨rfl, (Below.refl _ _).alloc (Nat.le_refl _) _⟩

/-- a twill of the call's own as a result -/
def RetT (w : World) (e : TypeId) (xs : List Int) (st : Int) (en : Ending) (w' : World) : Prop :=
  ∃ v : Value, en = .returned (.agg #[v, .int .i64 st]) ∧ Own w' w.heap.size w'.heap.size e v (ints xs) ∧ Below w.heap.size w w'

set_option maxHeartbeats 1000000 in
theorem toTwill_any (a : Option Addr) (n c : Nat) (xs : List Int) (st : Int) (w : World) (hn : n ≤ 2147483648) (ha : RV w a n c (ints xs)) :
    Calls Tryz.prog 6 #[.agg #[.slice a n c, .int .i64 st]] w (RetT w 2 xs st) := by
  have Ha := Lib.hid ha
  clear ha
  go_enter Tryz.func6, Tryz.ntmps6
  go_wp2_with fail
  refine (toInts_any _ _ _ _ _ hn (((Ha.out.below ((Below.refl _ _).alloc (Nat.le_refl _) _)).below ((Below.refl _ _).alloc (Nat.le_refl _) _)).below ((Below.refl _ _).alloc (Nat.le_refl _) _))).mono ?_
  rintro e w1 ⟨v, rfl, ho, hb⟩
  obtain ⟨a', c', rfl, hr'⟩ := ho.sliceI
  clear hr'
  obtain ⟨hc1, hf1⟩ := bcell hb
  have hz1 := hb.size
  simp only [World.size_alloc] at hz1 ho hc1 hf1
  have Ho := Lib.hid ho
  have HB : Hid (Below w.heap.size w w1) := Lib.hid (bstep ((((Below.refl w.heap.size w).alloc (Nat.le_refl _) _).alloc (by simp) _).alloc (by simp; omega) _) hb (Nat.le_refl _))
  clear ho hb
  go_wp2
  refine bodyPost_ret (v := .agg #[.slice a' xs.length c', .int .i64 st]) (by simp [results, Tryz.results6, go_sem, hc1]) rfl ⟨_, rfl, ?_, ?_⟩
  · exact ((((Ho.out.set (by omega) 0 _).set (by omega) 1 _).set (by omega) 0 _).set (by omega) 1 _).mono (by omega) (by simp)
  · exact (((HB.out.setCell (by simp; omega) _).setCell (by simp; omega) _).setCell (by simp) _).setCell (by simp) _

theorem eqTwill_same (a b : Option Addr) (n c d : Nat) (xs : List Int) (st : Int) (w : World) (ha : RV w a n c (ints xs)) (hb : RV w b n d (ints xs)) :
    Calls Tryz.prog 8 #[.agg #[.slice a n c, .int .i64 st], .agg #[.slice b n d, .int .i64 st]] w fun e w' => e = .returned (.bool true) ∧ Below w.heap.size w w' := by
  have Ha := Lib.hid ha
  have Hb := Lib.hid hb
  clear ha hb
  go_enter Tryz.func8, Tryz.ntmps8
  go_wp2_with fail
  refine (eqInts_same _ _ _ _ _ _ _ ((Ha.out.below ((Below.refl _ _).alloc (Nat.le_refl _) _)).below ((Below.refl _ _).alloc (Nat.le_refl _) _)) ((Hb.out.below ((Below.refl _ _).alloc (Nat.le_refl _) _)).below ((Below.refl _ _).alloc (Nat.le_refl _) _))).mono ?_
  rintro e w1 ⟨rfl, m, rfl⟩
  go_wp2
  go_ret
  exact ⟨rfl, bdrewN (((Below.refl _ _).alloc (Nat.le_refl _) _).alloc (by simp) _) m⟩

theorem markTwill_any (v : Value) (xs : List Int) (st : Int) (lo hi : Nat) (k : Int) (w : World) (hk : 0 ≤ k) (hk' : k ≤ 1000000000) (hn : xs.length ≤ 2147483648) (ho : Own w lo hi 2 v (ints xs)) :
    Calls Tryz.prog 9 #[.agg #[v, .int .i64 st], .int .i64 k] w fun e w' => e = .returned (.int .i64 (k + xs.length)) ∧ Own w' lo hi 2 v (ints (marks k xs.length)) ∧ (w.alloc (.cells #[v, .int .i64 st] 26)).grownBy w' v.ownBlock := by
  go_enter Tryz.func9, Tryz.ntmps9
  go_wp2_with fail
  refine (markInts_ints _ _ _ _ _ _ hk hk' hn (ho.below ((Below.refl _ _).alloc (Nat.le_refl _) _))).mono ?_
  rintro e w1 ⟨rfl, hm, hg⟩
  go_wp2
  go_ret
  exact ⟨rfl, hm, hg⟩
theorem heldTwill_any (a : Option Addr) (n c : Nat) (st : Int) (k : Int) (w : World) (hk : 0 ≤ k) (hk' : k ≤ 1000000000) (hn : n ≤ 2147483648) (ha : RV w a n c (ints (marks k n))) :
    Calls Tryz.prog 10 #[.agg #[.slice a n c, .int .i64 st], .int .i64 k] w fun e w' => e = .returned (.int .i64 (k + n)) ∧ Below w.heap.size w w' := by
  have hd : decide (k + (n : Int) < 0) = false := by simp; omega
  have Ha := Lib.hid ha
  clear ha
  go_enter Tryz.func10, Tryz.ntmps10
  go_wp2_with fail
  refine (heldInts_any _ _ _ _ _ hk hk' hn (Ha.out.below ((Below.refl _ _).alloc (Nat.le_refl _) _))).mono ?_
  rintro e w1 ⟨rfl, rfl⟩
  go_wp2
  go_ret
  exact ⟨rfl, (Below.refl _ _).alloc (Nat.le_refl _) _⟩

/-! ### equality -/
theorem take_eq_step {xs ys : List Int} {k : Nat} (hl : xs.length = ys.length) (h : xs.take k = ys.take k) (hk : k < xs.length) (he : xs.getD k 0 = ys.getD k 0) : xs.take (k + 1) = ys.take (k + 1) := by
  rw [take_snoc' (d := 0) hk, take_snoc' (d := 0) (hl ▸ hk), h, he]
theorem ne_of_get {xs ys : List Int} {k : Nat} (he : xs.getD k 0 ≠ ys.getD k 0) : xs ≠ ys := fun e => he (by rw [e])


end Go.Proofs.YtflejjfkgkmcgaaGreat
