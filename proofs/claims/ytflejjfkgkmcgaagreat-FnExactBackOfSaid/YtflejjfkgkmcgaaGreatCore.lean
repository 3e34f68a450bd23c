/-
  Contracts of the small functions that all chapters share: bounds, maxima, equality of lists, marks, copies.
-/
import Derived.Test.YtflejjfkgkmcgaaGreatProg
import Derived.Test.YtflejjfkgkmcgaaGreatKit
namespace Go.Proofs.YtflejjfkgkmcgaaGreat
open Go.RowKit
set_option linter.unusedVariables false

/-- lo ≤ n ≤ hi, as a Bool that the walk does not open -/
def inB (n lo hi : Int) : Bool := decide (lo ≤ n) && decide (n ≤ hi)
theorem inB_iff {n lo hi : Int} : inB n lo hi = true ↔ lo ≤ n ∧ n ≤ hi := by simp [inB]
theorem inB_not {n lo hi : Int} : inB n lo hi = false ↔ n < lo ∨ hi < n := by
  rw [← Bool.not_eq_true, inB_iff]; omega

theorem info_i64 : (Tryz.prog.info? 2).map (fun i => (i.zero, i.size, i.bytes)) = some (some (.int .i64 0), 1, 8) := by kernel_rfl

theorem within_any (n lo hi : Int) (w : World) : Calls Tryz.prog 28 #[.int .i64 n, .int .i64 lo, .int .i64 hi] w fun e w' => e = .returned (.bool (inB n lo hi)) ∧ w = w' := by
  go_enter Tryz.func28, Tryz.ntmps28
  go_wp2
  all_goals go_ret
  all_goals (refine ⟨ret_bool ?_, rfl⟩)
  · have h : lo ≤ n := by assumption
    simp [inB, h]
  · have h : n < lo := by assumption
    simp [inB, Int.not_le.2 h]

theorem l00In_any (n lo hi : Int) (w : World) : Calls Tryz.prog 26 #[.int .i64 n, .int .i64 lo, .int .i64 hi] w fun e w' => e = .returned (.bool (inB n lo hi)) ∧ w = w' := by
  go_enter Tryz.func26, Tryz.ntmps26
  go_wp2
  all_goals go_ret
  all_goals (refine ⟨ret_bool ?_, rfl⟩)
  · have h : lo ≤ n := by assumption
    simp [inB, h]
  · have h : n < lo := by assumption
    simp [inB, Int.not_le.2 h]



set_option maxHeartbeats 400000 in
theorem eqInts_same (a b : Option Addr) (n c d : Nat) (xs : List Int) (w : World) (ha : RV w a n c (ints xs)) (hb : RV w b n d (ints xs)) :
    Calls Tryz.prog 23 #[.slice a n c, .slice b n d] w fun e w' => e = .returned (.bool true) ∧ ∃ m, w' = w.drewN m := by
  have hm := ha.small
  by_cases hn : n = 0
  · subst hn
    go_enter Tryz.func23, Tryz.ntmps23
    go_wp2
    go_loop [5] (fun i => i = .int .i64 0) (fun _ => 0)
    case atStart => rfl
    case round =>
      subst hrel
      go_wp2
      go_ret
      exact ⟨rfl, 0, rfl⟩
  · obtain ⟨b1, o1, rfl, hb1, hc1⟩ := ha.cell hn
    obtain ⟨b2, o2, rfl, hb2, hc2⟩ := hb.cell hn
    go_enter Tryz.func23, Tryz.ntmps23
    go_wp2
    go_loopw [5] (fun i wr => ∃ k : Nat, k ≤ n ∧ i = .int .i64 k ∧ ∃ m, wr = w.drewN m) (fun i _ => n - (intOf i).toNat)
    case atStart => exact ⟨0, Nat.zero_le _, rfl, 0, rfl⟩
    case round =>
      obtain ⟨k, hk, rfl, m, rfl⟩ := hrel
      by_cases hlt : k < n
      · have e1 := hc1 k hlt
        have e2 := hc2 k hlt
        clear hc1 hc2 ha hb
        have hlt' : (k : Int) < n := by omega
        go_wp2
        go_quiet (fail)
        go_wp2
        go_roundw
        case rel => exact ⟨k + 1, by omega, by go_num, _, rfl⟩
        case measure => simp [intOf]; omega
      · clear hc1 hc2 ha hb
        go_wp2
        go_ret
        exact ⟨rfl, m, rfl⟩

theorem markInts_any (v : Value) (vs : List Value) (lo hi : Nat) (k : Int) (w : World) (hk : 0 ≤ k) (hk' : k ≤ 1000000000) (hn : vs.length ≤ 2147483648) (ho : Own w lo hi 2 v vs) :
    Calls Tryz.prog 24 #[v, .int .i64 k] w fun e w' => e = .returned (.int .i64 (k + vs.length)) ∧ Own w' lo hi 2 v (ints (marks k vs.length)) ∧ w.grownBy w' v.ownBlock := by
  rcases ho.1.2 with ⟨rfl, h0⟩ | ⟨g, cap, cur, rfl, hg⟩
  · have : vs = [] := List.eq_nil_of_length_eq_zero h0
    subst this
    go_enter Tryz.func24, Tryz.ntmps24
    go_wp2
    go_loop [1, 5] (fun q i => q = .int .i64 k ∧ i = .int .i64 0) (fun _ _ => 0)
    case atStart => exact ⟨rfl, rfl⟩
    case round =>
      obtain ⟨rfl, rfl⟩ := hrel
      go_wp2
      go_ret
      exact ⟨rfl, ho, World.grownBy.refl _ _⟩
  · clear hg
    generalize hvn : vs.length = n at *
    have Hvn := Lib.hid hvn
    clear hvn
    go_enter Tryz.func24, Tryz.ntmps24
    go_wp2
    go_loopw [1, 5] (fun q i wr => ∃ j : Nat, j ≤ n ∧ i = .int .i64 j ∧ q = .int .i64 (k + j) ∧ wr.ownsRow lo 2 1 (.slice (some ⟨g, 0, none⟩) n cap) n (marked k vs j) ∧ w.grownBy wr (some g)) (fun _ i _ => n - (intOf i).toNat)
    case atStart => exact ⟨0, Nat.zero_le _, rfl, by go_num, by rw [marked_zero]; exact Hvn.out ▸ ho.1, World.grownBy.refl _ _⟩
    case round =>
      obtain ⟨j, hj, rfl, rfl, hown, hgr⟩ := hrel
      by_cases hlt : j < n
      · obtain ⟨u, hu⟩ : ∃ u, wr.cell? ⟨g, j, none⟩ = some u := by
          have := hown.cellAt j (by omega)
          have hl : (marked k vs j).length = n := by have := hown.1; omega
          rw [List.getElem?_eq_getElem (by omega)] at this
          exact ⟨_, this⟩
        have hf := hown.frozenAt j
        have hs := hown.stored j (.int .i64 (k + j))
        rw [marked_step k vs (by rw [Hvn.out]; exact hlt)] at hs
        have Hs := Lib.hid hs
        clear hs hown
        have Hg := Lib.hid hgr
        clear hgr
        go_wp2
        go_roundw
        case rel =>
          refine ⟨j + 1, by omega, by go_num, by go_num, Hs.out.1, ?_⟩
          have h2 := Hs.out.2
          exact ⟨h2.os.trans Hg.out.os, h2.tape.trans Hg.out.tape, h2.output.trans Hg.out.output, Nat.le_trans Hg.out.size h2.size, fun i hi hne => (h2.block i (Nat.lt_of_lt_of_le hi Hg.out.size) hne).trans (Hg.out.block i hi hne)⟩
        case measure => simp [intOf]; omega
      · have Hown := Lib.hid hown
        have Hg := Lib.hid hgr
        clear hown hgr
        go_wp2
        go_ret
        have hjn : j = n := by omega
        subst hjn
        have e1 := marked_all k vs (j := j) (by rw [Hvn.out])
        rw [Hvn.out] at e1
        have h3 := Hown.out
        rw [e1] at h3
        exact ⟨rfl, ⟨by simpa [marks_length] using h3, ho.2⟩, Hg.out⟩

theorem markInts_ints (v : Value) (xs : List Int) (lo hi : Nat) (k : Int) (w : World) (hk : 0 ≤ k) (hk' : k ≤ 1000000000) (hn : xs.length ≤ 2147483648) (ho : Own w lo hi 2 v (ints xs)) :
    Calls Tryz.prog 24 #[v, .int .i64 k] w fun e w' => e = .returned (.int .i64 (k + xs.length)) ∧ Own w' lo hi 2 v (ints (marks k xs.length)) ∧ w.grownBy w' v.ownBlock := by
  have h := markInts_any v (ints xs) lo hi k w hk hk' (by simpa using hn) ho
  simp only [List.length_map] at h
  exact h

/-- the first k elements are copied -/
def copied (xs : List Int) (n k : Nat) : List Value := ints (xs.take k) ++ List.replicate (n - k) (.int .i64 0)
theorem copied_length {xs : List Int} {n k : Nat} (h : xs.length = n) (hk : k ≤ n) : (copied xs n k).length = n := by simp [copied]; omega
theorem copied_all {xs : List Int} {n : Nat} (h : xs.length = n) : copied xs n n = ints xs := by
  simp [copied, List.take_of_length_le (Nat.le_of_eq h)]
theorem copied_step {xs : List Int} {n k : Nat} (h : xs.length = n) (hk : k < n) : (copied xs n k).set k (.int .i64 (xs.getD k 0)) = copied xs n (k + 1) := by
  apply List.ext_getElem?
  intro i
  simp only [copied, List.getElem?_set, List.length_append, List.length_map, List.length_take, List.length_replicate, List.getElem?_append, List.getElem?_map, List.getElem?_take, List.getElem?_replicate]
  have hm : min k xs.length = k := by omega
  have hm1 : min (k + 1) xs.length = k + 1 := by omega
  rw [hm, hm1]
  by_cases h1 : k = i
  · subst h1
    have : k < xs.length := by omega
    simp [this]; omega
  · by_cases h2 : i < k
    · simp [h1, h2, show i < k + 1 by omega]
    · have h3 : ¬ i < k + 1 := by omega
      simp [h1, h2, h3]
      have : (i - k < n - k) = (i - (k + 1) < n - (k + 1)) := by apply propext; omega
      simp only [this]
theorem owns_made (w : World) (e : TypeId) (z : Value) (n : Nat) (hm : n ≤ maxLen) : (w.alloc (.cells (madeCells #[z] n) e)).ownsRow w.heap.size e 1 (.slice (some ⟨w.heap.size, 0, none⟩) n n) n (List.replicate n z) := by
  refine ⟨by simp, .inr ⟨w.heap.size, n, madeCells #[z] n, rfl, Nat.le_refl _, heap_alloc_new w _, Nat.le_refl _, hm, by simp [size_madeCells], ?_⟩⟩
  apply List.ext_getElem?
  intro i
  by_cases hi : i < n
  · simp [madeCells, hi, Nat.mod_one]
  · simp [madeCells, hi]
set_option maxHeartbeats 400000 in
theorem toInts_any (a : Option Addr) (n c : Nat) (xs : List Int) (w : World) (hn : n ≤ 2147483648) (ha : RV w a n c (ints xs)) :
    Calls Tryz.prog 17 #[.slice a n c] w fun e w' => ∃ v : Value, e = .returned v ∧ Own w' w.heap.size w'.heap.size 2 v (ints xs) ∧ Below w.heap.size w w' := by
  have hl := ha.lenI
  have hmk := fun W => run_make_row' (P := Tryz.prog) 22 2 (.int .i64 0) 8 Tryz.underlying22 info_i64 rfl .i64 .i64 n (by omega) (by omega) W
  have Hl := Lib.hid hl
  have Ha := Lib.hid ha
  clear hl ha
  generalize hcs : (madeCells #[Value.int .i64 0] n) = cs at hmk
  have Hcs := Lib.hid hcs
  clear hcs
  go_enter Tryz.func17, Tryz.ntmps17
  go_wp2
  go_loopw [4] (fun i wr => ∃ k : Nat, k ≤ n ∧ i = .int .i64 k ∧ wr.ownsRow w.heap.size 2 1 (.slice (some ⟨w.heap.size, 0, none⟩) n n) n (copied xs n k) ∧ Below w.heap.size w wr ∧ w.heap.size < wr.heap.size) (fun i _ => n - (intOf i).toNat)
  case atStart =>
    refine ⟨0, Nat.zero_le _, rfl, ?_, (Below.refl _ _).alloc (Nat.le_refl _) _, by simp⟩
    have := owns_made w 2 (.int .i64 0) n (by unfold maxLen; omega)
    rw [Hcs.out] at this
    simpa [copied] using this
  case round =>
    obtain ⟨k, hk, rfl, hown, hbl, hsz⟩ := hrel
    by_cases hlt : k < n
    · obtain ⟨b1, o1, rfl, hb1, hc1⟩ := Ha.out.cell (by omega)
      have e1 : wr.cell? ⟨b1, o1 + k, none⟩ = some (.int .i64 (xs.getD k 0)) := (hbl.cell (p := ⟨b1, o1 + k, none⟩) hb1).trans (hc1 k hlt)
      obtain ⟨u, hu⟩ : ∃ u, wr.cell? ⟨w.heap.size, k, none⟩ = some u := by
        have := hown.cellAt k (by omega)
        have hl : (copied xs n k).length = n := copied_length Hl.out hk
        rw [List.getElem?_eq_getElem (by omega)] at this
        exact ⟨_, this⟩
      have hf := hown.frozenAt k
      have hs := hown.stored k (.int .i64 (xs.getD k 0))
      rw [copied_step Hl.out hlt] at hs
      have Hs := Lib.hid hs
      clear hs hown hc1
      have Hb := Lib.hid hbl
      clear hbl
      go_wp2
      go_roundw
      case rel =>
        exact ⟨k + 1, by omega, by go_num, Hs.out.1, Hb.out.grown Hs.out.2 (by omega) (fun k hk => by simp at hk; omega), by simpa using hsz⟩
      case measure => simp [intOf]; omega
    · have hkn : k = n := by omega
      subst hkn
      rw [copied_all Hl.out] at hown
      have Hown := Lib.hid hown
      have Hb := Lib.hid hbl
      clear hown hbl
      go_wp2
      go_ret
      refine ⟨_, rfl, ?_, Hb.out⟩
      exact Own.of Hown.out

theorem heldInts_any (a : Option Addr) (n c : Nat) (k : Int) (w : World) (hk : 0 ≤ k) (hk' : k ≤ 1000000000) (hn : n ≤ 2147483648) (ha : RV w a n c (ints (marks k n))) :
    Calls Tryz.prog 25 #[.slice a n c, .int .i64 k] w fun e w' => e = .returned (.int .i64 (k + n)) ∧ w = w' := by
  by_cases hz : n = 0
  · subst hz
    go_enter Tryz.func25, Tryz.ntmps25
    go_wp2
    go_loop [1, 5] (fun q i => q = .int .i64 k ∧ i = .int .i64 0) (fun _ _ => 0)
    case atStart => exact ⟨rfl, rfl⟩
    case round =>
      obtain ⟨rfl, rfl⟩ := hrel
      go_wp2
      go_ret
      exact ⟨rfl, rfl⟩
  · obtain ⟨b1, o1, rfl, hb1, hc1⟩ := ha.cell hz
    go_enter Tryz.func25, Tryz.ntmps25
    go_wp2
    go_loop [1, 5] (fun q i => ∃ j : Nat, j ≤ n ∧ i = .int .i64 j ∧ q = .int .i64 (k + j)) (fun _ i => n - (intOf i).toNat)
    case atStart => exact ⟨0, Nat.zero_le _, rfl, by go_num⟩
    case round =>
      obtain ⟨j, hj, rfl, rfl⟩ := hrel
      by_cases hlt : j < n
      · have e1 := hc1 j hlt
        rw [marks_get hlt] at e1
        clear hc1 ha
        go_wp2
        go_round
        case rel => exact ⟨j + 1, by omega, by go_num, by go_num⟩
        case measure => simp [intOf]; omega
      · clear hc1 ha
        go_wp2
        go_ret
        exact ⟨ret_int (by omega), rfl⟩

end Go.Proofs.YtflejjfkgkmcgaaGreat
