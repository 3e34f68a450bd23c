/-
  Drawn pairs of words, drawn lengths and stakes.
-/
import Derived.Test.YtcpacfedmppaeaaDoorBendFn2
namespace Go.Proofs.YtcpacfedmppaeaaDoor
open Go Go.RowKit
set_option linter.unusedVariables false

set_option maxHeartbeats 2000000 in
theorem DrawLockedWords_any (p : Option Addr) (n c : Nat) (xs : List Int) (w : World) (hr : RV w p n c (xs.map (.int .u8))) (hb : ∀ x ∈ xs, 0 ≤ x ∧ x ≤ 255) :
    Calls Tryd.prog 27 #[.slice p n c] w fun e w' => ∃ x y : Int, e = .returned (.tuple #[.int .i64 x, .int .i64 y]) ∧ (-1 ≤ x ∧ x ≤ 9) ∧ Below w.heap.size w w' := by
  go_enter Tryd.func27, Tryd.ntmps27
  go_wp2_with fail
  refine (l00From_any _ _ _ _ _ hr hb).mono ?_
  rintro e w1 ⟨rfl, hs, hB⟩
  go_wp2_with fail
  refine (pick_any _ _ _ _ hs (by omega) (by omega)).mono ?_
  rintro e w2 ⟨x, rfl, hx0, hx1, _, hs2, hg⟩
  have hx2 := hx1 (by omega)
  replace hB := hB.grown hg hB.size (by intro k hk; simp at hk; omega)
  go_wp2_with fail
  refine (one_any _ _ _ _ hs2 (by omega) (by omega)).mono ?_
  rintro e w3 ⟨z, rfl, hs3, hg⟩
  replace hB := hB.grown hg hB.size (by intro k hk; simp at hk; omega)
  have hsl := hs3.lt
  clear hs hs2 hg hx1
  cases z
  · go_wp2_with fail
    refine (one_any _ _ _ _ hs3 (by omega) (by omega)).mono ?_
    rintro e w4 ⟨z, rfl, hs4, hg⟩
    replace hB := hB.grown hg hB.size (by intro k hk; simp at hk; omega)
    have hsl4 := hs4.lt
    clear hs3 hg
    cases z
    · go_wp2_with fail
      refine (pick_any _ _ _ _ hs4 (by omega) (by omega)).mono ?_
      rintro e w5 ⟨y, rfl, hy0, hy1, _, hs5, hg⟩
      have hy2 := hy1 (by omega)
      replace hB := hB.grown hg hB.size (by intro k hk; simp at hk; omega)
      clear hy1
      go_wp2
      go_ret2
      exact ⟨_, _, rfl, by omega, hB⟩
    · obtain ⟨L, hL⟩ : ∃ L : Obj, L = .cells #[.int .i64 (-1), .int .i64 (1 + x + 1), .int .i64 (1 + x + 2), .int .i64 40, .int .i64 41] 2 := ⟨_, rfl⟩
      have hrv : RV (w4.alloc L) (some ⟨w4.heap.size, 0, none⟩) 5 5 (ints [-1, 1 + x + 1, 1 + x + 2, 40, 41]) := by subst hL; exact rv_lit _ _ _ rfl (by simp) (by simp [maxLen])
      have hs := hs4.alloc L
      replace hB := hB.alloc hB.size L
      subst hL
      go_wp2_with fail
      refine (among_any _ _ _ _ _ _ _ hs (by omega) (by omega) (by omega) hrv (by intro b o hb; simp at hb; omega)).mono ?_
      rintro e w5 ⟨y, rfl, hy, hs5, hg⟩
      replace hB := hB.grown hg hB.size (by intro k hk; simp at hk; omega)
      clear hy
      go_wp2
      go_ret2
      exact ⟨_, _, rfl, by omega, hB⟩
  · obtain ⟨L, hL⟩ : ∃ L : Obj, L = .cells #[.int .i64 (-1), .int .i64 0, .int .i64 1, .int .i64 8, .int .i64 9] 2 := ⟨_, rfl⟩
    have hrv : RV (w3.alloc L) (some ⟨w3.heap.size, 0, none⟩) 5 5 (ints [-1, 0, 1, 8, 9]) := by subst hL; exact rv_lit _ _ _ rfl (by simp) (by simp [maxLen])
    have hs := hs3.alloc L
    replace hB := hB.alloc hB.size L
    subst hL
    go_wp2_with fail
    refine (among_any _ _ _ _ _ _ _ hs (by omega) (by omega) (by omega) hrv (by intro b o hb; simp at hb; omega)).mono ?_
    rintro e w4 ⟨x, rfl, hx, hs4', hg⟩
    replace hB := hB.grown hg hB.size (by intro k hk; simp at hk; omega)
    have hxb : -1 ≤ x ∧ x ≤ 9 := by simp at hx; omega
    clear hx hg hs
    go_wp2_with fail
    refine (one_any _ _ _ _ hs4' (by omega) (by omega)).mono ?_
    rintro e w4 ⟨z, rfl, hs4, hg⟩
    replace hB := hB.grown hg hB.size (by intro k hk; simp at hk; omega)
    have hsl4 := hs4.lt
    clear hg
    cases z
    · go_wp2_with fail
      refine (pick_any _ _ _ _ hs4 (by omega) (by omega)).mono ?_
      rintro e w5 ⟨y, rfl, hy0, hy1, _, hs5, hg⟩
      have hy2 := hy1 (by omega)
      replace hB := hB.grown hg hB.size (by intro k hk; simp at hk; omega)
      clear hy1
      go_wp2
      go_ret2
      exact ⟨_, _, rfl, hxb, hB⟩
    · obtain ⟨L, hL⟩ : ∃ L : Obj, L = .cells #[.int .i64 (-1), .int .i64 (x + 1), .int .i64 (x + 2), .int .i64 40, .int .i64 41] 2 := ⟨_, rfl⟩
      have hrv : RV (w4.alloc L) (some ⟨w4.heap.size, 0, none⟩) 5 5 (ints [-1, x + 1, x + 2, 40, 41]) := by subst hL; exact rv_lit _ _ _ rfl (by simp) (by simp [maxLen])
      have hs := hs4.alloc L
      replace hB := hB.alloc hB.size L
      subst hL
      go_wp2_with fail
      refine (among_any _ _ _ _ _ _ _ hs (by omega) (by omega) (by omega) hrv (by intro b o hb; simp at hb; omega)).mono ?_
      rintro e w5 ⟨y, rfl, hy, hs5, hg⟩
      replace hB := hB.grown hg hB.size (by intro k hk; simp at hk; omega)
      clear hy
      go_wp2
      go_ret2
      exact ⟨_, _, rfl, hxb, hB⟩

theorem empty_of {S : ByteArray} (h : S.size = 0) : S = ⟨#[]⟩ := by
  obtain ⟨d⟩ := S
  have : d.size = 0 := h
  rw [Array.size_eq_zero_iff] at this
  rw [this]
set_option maxHeartbeats 2000000 in
theorem DrawSameBorder_any (p : Option Addr) (n c : Nat) (xs : List Int) (w : World) (hr : RV w p n c (xs.map (.int .u8))) (hb : ∀ x ∈ xs, 0 ≤ x ∧ x ≤ 255) :
    Calls Tryd.prog 24 #[.slice p n c] w fun e w' => ∃ S T : ByteArray, e = .returned (.tuple #[.string S, .string T]) ∧ S.size ≤ 9 ∧ T.size ≤ 9 ∧ Below w.heap.size w w' := by
  go_enter Tryd.func24, Tryd.ntmps24
  go_wp2_with fail
  refine (l00From_any _ _ _ _ _ hr hb).mono ?_
  rintro e w1 ⟨rfl, hs, hB⟩
  go_wp2_with fail
  refine (l11Bent_any _ _ _ hs (by omega)).mono ?_
  rintro e w2 ⟨S, rfl, hS, hs2, hg⟩
  replace hB := hB.grown hg hB.size (by intro k hk; simp at hk; omega)
  go_wp2_with fail
  refine (one_any _ _ _ _ hs2 (by omega) (by omega)).mono ?_
  rintro e w3 ⟨z, rfl, hs3, hg⟩
  replace hB := hB.grown hg hB.size (by intro k hk; simp at hk; omega)
  clear hs hs2 hg
  cases z
  · go_wp2_with fail
    refine (l11Bent_any _ _ _ hs3 (by omega)).mono ?_
    rintro e w4 ⟨T, rfl, hT, hs4, hg⟩
    replace hB := hB.grown hg hB.size (by intro k hk; simp at hk; omega)
    go_wp2
    go_ret2
    exact ⟨_, _, rfl, hS, hT, hB⟩
  · by_cases h0 : S.size = 0
    · obtain rfl := empty_of h0
      go_wp2_with fail
      refine (l11Bent_any _ _ _ hs3 (by omega)).mono ?_
      rintro e w4 ⟨T, rfl, hT, hs4, hg⟩
      replace hB := hB.grown hg hB.size (by intro k hk; simp at hk; omega)
      go_wp2
      go_ret2
      exact ⟨_, _, rfl, by simpa using hS, hT, hB⟩
    · have hne : S ≠ ⟨#[]⟩ := by rintro rfl; exact h0 rfl
      have t3 : (S.toList == []) = false := by
        rw [beq_eq_false_iff_ne]
        intro h
        rw [ByteArray.toList_eq] at h
        have := congrArg List.length h
        rw [size_list] at this
        exact h0 this
      go_wp2_with fail
      refine (pick_any _ _ _ _ hs3 (by omega) (by omega)).mono ?_
      rintro e w4 ⟨x, rfl, hx0, hx1, _, hs4, hg⟩
      have hx2 := hx1 (by omega)
      replace hB := hB.grown hg hB.size (by intro k hk; simp at hk; omega)
      obtain ⟨j, rfl⟩ := Int.eq_ofNat_of_zero_le hx0
      have hjS : j ≤ S.size := by omega
      have hjS' : (j : Int) ≤ S.size := by omega
      clear hx1
      go_wp2_with fail
      go_quiet (fail)
      go_wp2
      go_ret2
      refine ⟨_, _, rfl, hS, ?_, bdrewN hB _⟩
      rw [ByteArray.size_append]
      simp
      omega
end Go.Proofs.YtcpacfedmppaeaaDoor
