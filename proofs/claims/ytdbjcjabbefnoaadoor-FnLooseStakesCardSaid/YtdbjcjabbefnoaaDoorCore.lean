/-
  Contracts of the small functions that all chapters share: bounds, maxima, equality of lists, marks, copies.
-/
import Derived.Test.YtdbjcjabbefnoaaDoorProg
import Derived.Test.YtdbjcjabbefnoaaDoorKit
namespace Go.Proofs.YtdbjcjabbefnoaaDoor
open Go.RowKit
set_option linter.unusedVariables false

/-- lo ≤ n ≤ hi, as a Bool that the walk does not open -/
def inB (n lo hi : Int) : Bool := decide (lo ≤ n) && decide (n ≤ hi)
theorem inB_iff {n lo hi : Int} : inB n lo hi = true ↔ lo ≤ n ∧ n ≤ hi := by simp [inB]
theorem inB_not {n lo hi : Int} : inB n lo hi = false ↔ n < lo ∨ hi < n := by
  rw [← Bool.not_eq_true, inB_iff]; omega

theorem info_i64 : (Tryd.prog.info? 2).map (fun i => (i.zero, i.size, i.bytes)) = some (some (.int .i64 0), 1, 8) := by kernel_rfl

theorem within_any (n lo hi : Int) (w : World) : Calls Tryd.prog 36 #[.int .i64 n, .int .i64 lo, .int .i64 hi] w fun e w' => e = .returned (.bool (inB n lo hi)) ∧ w = w' := by
  go_enter Tryd.func36, Tryd.ntmps36
  go_wp2
  all_goals go_ret
  all_goals (refine ⟨ret_bool ?_, rfl⟩)
  · have h : lo ≤ n := by assumption
    simp [inB, h]
  · have h : n < lo := by assumption
    simp [inB, Int.not_le.2 h]

theorem l00In_any (n lo hi : Int) (w : World) : Calls Tryd.prog 38 #[.int .i64 n, .int .i64 lo, .int .i64 hi] w fun e w' => e = .returned (.bool (inB n lo hi)) ∧ w = w' := by
  go_enter Tryd.func38, Tryd.ntmps38
  go_wp2
  all_goals go_ret
  all_goals (refine ⟨ret_bool ?_, rfl⟩)
  · have h : lo ≤ n := by assumption
    simp [inB, h]
  · have h : n < lo := by assumption
    simp [inB, Int.not_le.2 h]

theorem l00Max_any (a b : Int) (w : World) : Calls Tryd.prog 46 #[.int .i64 a, .int .i64 b] w fun e w' => e = .returned (.int .i64 (max a b)) ∧ w = w' := by
  go_enter Tryd.func46, Tryd.ntmps46
  go_wp2
  all_goals go_ret
  all_goals exact ⟨ret_int (by omega), rfl⟩


set_option maxHeartbeats 400000 in
theorem eqInts_same (a b : Option Addr) (n c d : Nat) (xs : List Int) (w : World) (ha : RV w a n c (ints xs)) (hb : RV w b n d (ints xs)) :
    Calls Tryd.prog 15 #[.slice a n c, .slice b n d] w fun e w' => e = .returned (.bool true) ∧ ∃ m, w' = w.drewN m := by
  have hm := ha.small
  by_cases hn : n = 0
  · subst hn
    go_enter Tryd.func15, Tryd.ntmps15
    go_wp2
    go_loop [5] (fun i => i = .int .i64 0) (fun _ => 0)
    case atStart => rfl
    case round =>
      subst hrel
      go_wp2
      go_ret
      exact ⟨rfl, 0, rfl⟩
  · obtain ⟨b1, o1, rfl, hb1, hc1⟩ := ha.cell hn
    obtain ⟨b2, o2, rfl, hb2, hc2⟩ := hb.cell hn
    go_enter Tryd.func15, Tryd.ntmps15
    go_wp2
    go_loopw [5] (fun i wr => ∃ k : Nat, k ≤ n ∧ i = .int .i64 k ∧ ∃ m, wr = w.drewN m) (fun i _ => n - (intOf i).toNat)
    case atStart => exact ⟨0, Nat.zero_le _, rfl, 0, rfl⟩
    case round =>
      obtain ⟨k, hk, rfl, m, rfl⟩ := hrel
      by_cases hlt : k < n
      · have e1 := hc1 k hlt
        have e2 := hc2 k hlt
        clear hc1 hc2 ha hb
        have hlt' : (k : Int) < n := by omega
        go_wp2
        go_quiet (fail)
        go_wp2
        go_roundw
        case rel => exact ⟨k + 1, by omega, by go_num, _, rfl⟩
        case measure => simp [intOf]; omega
      · clear hc1 hc2 ha hb
        go_wp2
        go_ret
        exact ⟨rfl, m, rfl⟩

theorem markInts_any (v : Value) (vs : List Value) (lo hi : Nat) (k : Int) (w : World) (hk : 0 ≤ k) (hk' : k ≤ 1000000000) (hn : vs.length ≤ 2147483648) (ho : Own w lo hi 2 v vs) :
    Calls Tryd.prog 16 #[v, .int .i64 k] w fun e w' => e = .returned (.int .i64 (k + vs.length)) ∧ Own w' lo hi 2 v (ints (marks k vs.length)) ∧ w.grownBy w' v.ownBlock := by
  rcases ho.1.2 with ⟨rfl, h0⟩ | ⟨g, cap, cur, rfl, hg⟩
  · have : vs = [] := List.eq_nil_of_length_eq_zero h0
    subst this
    go_enter Tryd.func16, Tryd.ntmps16
    go_wp2
    go_loop [1, 5] (fun q i => q = .int .i64 k ∧ i = .int .i64 0) (fun _ _ => 0)
    case atStart => exact ⟨rfl, rfl⟩
    case round =>
      obtain ⟨rfl, rfl⟩ := hrel
      go_wp2
      go_ret
      exact ⟨rfl, ho, World.grownBy.refl _ _⟩
  · clear hg
    generalize hvn : vs.length = n at *
    have Hvn := Lib.hid hvn
    clear hvn
    go_enter Tryd.func16, Tryd.ntmps16
    go_wp2
    go_loopw [1, 5] (fun q i wr => ∃ j : Nat, j ≤ n ∧ i = .int .i64 j ∧ q = .int .i64 (k + j) ∧ wr.ownsRow lo 2 1 (.slice (some ⟨g, 0, none⟩) n cap) n (marked k vs j) ∧ w.grownBy wr (some g)) (fun _ i _ => n - (intOf i).toNat)
    case atStart => exact ⟨0, Nat.zero_le _, rfl, by go_num, by rw [marked_zero]; exact Hvn.out ▸ ho.1, World.grownBy.refl _ _⟩
    case round =>
      obtain ⟨j, hj, rfl, rfl, hown, hgr⟩ := hrel
      by_cases hlt : j < n
      · obtain ⟨u, hu⟩ : ∃ u, wr.cell? ⟨g, j, none⟩ = some u := by
          have := hown.cellAt j (by omega)
          have hl : (marked k vs j).length = n := by have := hown.1; omega
          rw [List.getElem?_eq_getElem (by omega)] at this
          exact ⟨_, this⟩
        have hf := hown.frozenAt j
        have hs := hown.stored j (.int .i64 (k + j))
        rw [marked_step k vs (by rw [Hvn.out]; exact hlt)] at hs
        have Hs := Lib.hid hs
        clear hs hown
        have Hg := Lib.hid hgr
        clear hgr
        go_wp2
        go_roundw
        case rel =>
          refine ⟨j + 1, by omega, by go_num, by go_num, Hs.out.1, ?_⟩
          have h2 := Hs.out.2
          exact ⟨h2.os.trans Hg.out.os, h2.tape.trans Hg.out.tape, h2.output.trans Hg.out.output, Nat.le_trans Hg.out.size h2.size, fun i hi hne => (h2.block i (Nat.lt_of_lt_of_le hi Hg.out.size) hne).trans (Hg.out.block i hi hne)⟩
        case measure => simp [intOf]; omega
      · have Hown := Lib.hid hown
        have Hg := Lib.hid hgr
        clear hown hgr
        go_wp2
        go_ret
        have hjn : j = n := by omega
        subst hjn
        have e1 := marked_all k vs (j := j) (by rw [Hvn.out])
        rw [Hvn.out] at e1
        have h3 := Hown.out
        rw [e1] at h3
        exact ⟨rfl, ⟨by simpa [marks_length] using h3, ho.2⟩, Hg.out⟩

theorem markInts_ints (v : Value) (xs : List Int) (lo hi : Nat) (k : Int) (w : World) (hk : 0 ≤ k) (hk' : k ≤ 1000000000) (hn : xs.length ≤ 2147483648) (ho : Own w lo hi 2 v (ints xs)) :
    Calls Tryd.prog 16 #[v, .int .i64 k] w fun e w' => e = .returned (.int .i64 (k + xs.length)) ∧ Own w' lo hi 2 v (ints (marks k xs.length)) ∧ w.grownBy w' v.ownBlock := by
  have h := markInts_any v (ints xs) lo hi k w hk hk' (by simpa using hn) ho
  simp only [List.length_map] at h
  exact h


theorem heldInts_any (a : Option Addr) (n c : Nat) (k : Int) (w : World) (hk : 0 ≤ k) (hk' : k ≤ 1000000000) (hn : n ≤ 2147483648) (ha : RV w a n c (ints (marks k n))) :
    Calls Tryd.prog 17 #[.slice a n c, .int .i64 k] w fun e w' => e = .returned (.int .i64 (k + n)) ∧ w = w' := by
  by_cases hz : n = 0
  · subst hz
    go_enter Tryd.func17, Tryd.ntmps17
    go_wp2
    go_loop [1, 5] (fun q i => q = .int .i64 k ∧ i = .int .i64 0) (fun _ _ => 0)
    case atStart => exact ⟨rfl, rfl⟩
    case round =>
      obtain ⟨rfl, rfl⟩ := hrel
      go_wp2
      go_ret
      exact ⟨rfl, rfl⟩
  · obtain ⟨b1, o1, rfl, hb1, hc1⟩ := ha.cell hz
    go_enter Tryd.func17, Tryd.ntmps17
    go_wp2
    go_loop [1, 5] (fun q i => ∃ j : Nat, j ≤ n ∧ i = .int .i64 j ∧ q = .int .i64 (k + j)) (fun _ i => n - (intOf i).toNat)
    case atStart => exact ⟨0, Nat.zero_le _, rfl, by go_num⟩
    case round =>
      obtain ⟨j, hj, rfl, rfl⟩ := hrel
      by_cases hlt : j < n
      · have e1 := hc1 j hlt
        rw [marks_get hlt] at e1
        clear hc1 ha
        go_wp2
        go_round
        case rel => exact ⟨j + 1, by omega, by go_num, by go_num⟩
        case measure => simp [intOf]; omega
      · clear hc1 ha
        go_wp2
        go_ret
        exact ⟨ret_int (by omega), rfl⟩

end Go.Proofs.YtdbjcjabbefnoaaDoor
