/-
  Drawn words of bends and numbers of stakes.
-/
import Derived.Test.YtcpacfedmppaeaaDoorSrc
namespace Go.Proofs.YtcpacfedmppaeaaDoor
open Go Go.RowKit
set_option linter.unusedVariables false

abbrev texts (xs : List ByteArray) : List Value := xs.map .string
/-- a literal list of values -/
theorem rv_litV (w : World) (vs : List Value) (e : TypeId) {n : Nat} {cs : Array Value} (hcs : cs = vs.toArray) (hn : n = vs.length) (hm : n ≤ maxLen) : RV (w.alloc (.cells cs e)) (some ⟨w.heap.size, 0, none⟩) n n vs := by
  subst hcs hn
  refine ⟨rfl, Nat.le_refl _, hm, .inr ⟨w.heap.size, 0, rfl, by simp, fun i u hu => ?_⟩⟩
  rw [cell_of_row _ w.heap.size (0 + i) _ e (0, 0) (heap_alloc_new w _)]
  simpa using hu

theorem text_any (g K : Nat) (a : Option Addr) (n c : Nat) (xs : List ByteArray) (w : World) (h : Src w g K) (hK : K ≤ 900000000) (hn : n ≤ 1000000) (hn0 : 0 < n) (hr : RV w a n c (texts xs)) (hne : ∀ b o, a = some ⟨b, o, none⟩ → b ≠ g) :
    Calls Tryd.prog 74 #[.pointer (some ⟨g, 0, none⟩), .slice a n c] w fun e w' => ∃ x : ByteArray, e = .returned (.string x) ∧ x ∈ xs ∧ Src w' g (K + 2) ∧ w.grownBy w' (some g) := by
  have hl : xs.length = n := by simpa using hr.1
  obtain ⟨b, o, rfl, hb, hc⟩ := hr.cellv (by omega)
  have hbg := hne b o rfl
  have Hc := Lib.hid hc
  clear hc hne
  go_enter Tryd.func74, Tryd.ntmps74
  go_wp2_with fail
  refine (pick_any _ _ _ _ h hK (by omega)).mono ?_
  rintro e w1 ⟨x, rfl, hx0, hx1, hx2, hs1, hg1⟩
  have hx3 := hx1 (by omega)
  obtain ⟨j, rfl⟩ := Int.eq_ofNat_of_zero_le hx0
  have hj : j < n := by omega
  have hjl : j < xs.length := by omega
  have hcell := hg1.cell (a := ⟨b, o + j, none⟩) (Hc.out j (.string xs[j]) (by simp [hjl])) (by simp; exact hbg)
  obtain ⟨y, Hy⟩ : ∃ y, Hid (y = xs[j]) := ⟨xs[j], Lib.hid rfl⟩
  rw [← Hy.out] at hcell
  clear hx1 hx2
  go_wp2
  go_ret
  exact ⟨y, rfl, by rw [Hy.out]; exact List.getElem_mem _, hs1, hg1⟩

set_option maxHeartbeats 1000000 in
theorem l11Draw_any (g K : Nat) (w : World) (h : Src w g K) (hK : K ≤ 200000) :
    Calls Tryd.prog 75 #[.pointer (some ⟨g, 0, none⟩)] w fun e w' => ∃ S : ByteArray, e = .returned (.string S) ∧ S.size ≤ 9 ∧ Src w' g (K + 20) ∧ w.grownBy w' (some g) := by
  have hgw := h.lt
  go_enter Tryd.func75, Tryd.ntmps75
  go_wp2_with fail
  refine (pick_any _ _ _ _ h (by omega) (by omega)).mono ?_
  rintro e w1 ⟨x, rfl, hx0, hx1, _, hs1, hg1⟩
  have hx2 := hx1 (by omega)
  obtain ⟨j, rfl⟩ := Int.eq_ofNat_of_zero_le hx0
  have hj5 : j ≤ 5 := by omega
  have Hs1 := Lib.hid hs1
  have Hg1 := Lib.hid hg1
  clear hs1 hg1 hx1 hx0 hx2 h
  go_wp2
  go_loopw [3, 4] (fun s i wr => ∃ (j : Nat) (S : ByteArray), i = .int .i64 j ∧ s = .string S ∧ j + S.size ≤ 6 ∧ Hid (Src wr g (K + 14 - 2 * j)) ∧ Hid (w.grownBy wr (some g))) (fun _ i _ => (intOf i).toNat)
  case atStart => exact ⟨j + 1, ⟨#[]⟩, by congr 1; omega, rfl, by show j + 1 + 0 ≤ 6; omega, Lib.hid (Hs1.out.mono (by omega)), Hg1⟩
  case round =>
    obtain ⟨j, S, rfl, rfl, hjS, Hs, Hg⟩ := hrel
    generalize wr = wx at *
    by_cases hj0 : j = 0
    · subst hj0
      go_wp2
      go_ret
      exact ⟨S, rfl, by omega, Hs.out.mono (by omega), Hg.out⟩
    · have hd : decide (0 < (j : Int)) = true := by simp; omega
      have hd' : decide (0 < j) = true := by simp; omega
      have hgz := Hg.out.size
      obtain ⟨L, hL⟩ : ∃ L : Obj, L = .cells #[.string ⟨#[98]⟩, .string ⟨#[102]⟩] 9 := ⟨_, rfl⟩
      have hrv : RV (wx.alloc L) (some ⟨wx.heap.size, 0, none⟩) 2 2 (texts [⟨#[98]⟩, ⟨#[102]⟩]) := by subst hL; exact rv_litV _ _ _ rfl (by simp) (by simp [maxLen])
      have hs := Hs.out.alloc L
      have hg := gtrans Hg.out (World.grownBy_alloc wx L (some g))
      subst hL
      have hsl := Hs.out.lt
      go_wp2_with fail
      refine (text_any _ _ _ _ _ _ _ hs (by omega) (by omega) (by omega) hrv (by intro b o hb; simp at hb; omega)).mono ?_
      rintro e w3 ⟨y, rfl, hy, hs3, hg3⟩
      have hys : y.size = 1 := by
        simp at hy
        rcases hy with rfl | rfl <;> rfl
      have Hs3 := Lib.hid hs3
      have Hg3 := Lib.hid (gtrans hg hg3)
      clear hs hg hs3 hg3 hrv hy
      go_wp2
      go_roundw
      case rel => exact ⟨j - 1, S ++ y, congrArg (Value.int .i64) (by omega), rfl, by rw [ByteArray.size_append, hys]; omega, Lib.hid (Hs3.out.mono (by omega)), Hg3⟩
      case measure => simp [intOf]; omega

set_option maxHeartbeats 1000000 in
theorem l11Bent_any (g K : Nat) (w : World) (h : Src w g K) (hK : K ≤ 100000) :
    Calls Tryd.prog 56 #[.pointer (some ⟨g, 0, none⟩)] w fun e w' => ∃ S : ByteArray, e = .returned (.string S) ∧ S.size ≤ 9 ∧ Src w' g (K + 30) ∧ w.grownBy w' (some g) := by
  go_enter Tryd.func56, Tryd.ntmps56
  go_wp2_with fail
  refine (pick_any _ _ _ _ h (by omega) (by omega)).mono ?_
  rintro e w1 ⟨x, rfl, hx0, hx1, _, hs1, hg1⟩
  have hx2 := hx1 (by omega)
  have hsl := hs1.lt
  clear hx1
  by_cases h0 : x = 0
  · subst h0
    obtain ⟨L, hL⟩ : ∃ L : Obj, L = .cells #[.string ⟨#[]⟩, .string ⟨#[66]⟩, .string ⟨#[98, 32, 102]⟩, .string ⟨#[98, 102, 98, 102, 98, 102, 98, 102]⟩, .string ⟨#[98, 102, 98, 102, 98, 102, 98, 102, 98]⟩, .string ⟨#[98, 120]⟩] 9 := ⟨_, rfl⟩
    have hrv : RV (w1.alloc L) (some ⟨w1.heap.size, 0, none⟩) 6 6 (texts [⟨#[]⟩, ⟨#[66]⟩, ⟨#[98, 32, 102]⟩, ⟨#[98, 102, 98, 102, 98, 102, 98, 102]⟩, ⟨#[98, 102, 98, 102, 98, 102, 98, 102, 98]⟩, ⟨#[98, 120]⟩]) := by subst hL; exact rv_litV _ _ _ rfl (by simp) (by simp [maxLen])
    have hs := hs1.alloc L
    have hg := gtrans hg1 (World.grownBy_alloc w1 L (some g))
    subst hL
    go_wp2_with fail
    refine (text_any _ _ _ _ _ _ _ hs (by omega) (by omega) (by omega) hrv (by intro b o hb; simp at hb; omega)).mono ?_
    rintro e w3 ⟨y, rfl, hy, hs3, hg3⟩
    have hys : y.size ≤ 9 := by
      simp at hy
      rcases hy with rfl | rfl | rfl | rfl | rfl | rfl <;> decide
    go_wp2
    go_ret
    exact ⟨y, rfl, hys, hs3.mono (by omega), gtrans hg hg3⟩
  · by_cases h1 : x = 1
    · subst h1
      obtain ⟨L, hL⟩ : ∃ L : Obj, L = .cells #[.string ⟨#[102]⟩, .string ⟨#[102, 102]⟩, .string ⟨#[102, 102, 102]⟩] 9 := ⟨_, rfl⟩
      have hrv : RV (w1.alloc L) (some ⟨w1.heap.size, 0, none⟩) 3 3 (texts [⟨#[102]⟩, ⟨#[102, 102]⟩, ⟨#[102, 102, 102]⟩]) := by subst hL; exact rv_litV _ _ _ rfl (by simp) (by simp [maxLen])
      have hs := hs1.alloc L
      have hg := gtrans hg1 (World.grownBy_alloc w1 L (some g))
      subst hL
      go_wp2_with fail
      refine (text_any _ _ _ _ _ _ _ hs (by omega) (by omega) (by omega) hrv (by intro b o hb; simp at hb; omega)).mono ?_
      rintro e w3 ⟨y, rfl, hy, hs3, hg3⟩
      have hys : y.size ≤ 9 := by
        simp at hy
        rcases hy with rfl | rfl | rfl <;> decide
      go_wp2
      go_ret
      exact ⟨y, rfl, hys, hs3.mono (by omega), gtrans hg hg3⟩
    · have n0 : (x == 0) = false := by simp [h0]
      have n1 : (x == 1) = false := by simp [h1]
      clear h0 h1
      go_wp2_with fail
      refine (l11Draw_any _ _ _ hs1 (by omega)).mono ?_
      rintro e w3 ⟨y, rfl, hys, hs3, hg3⟩
      go_wp2
      go_ret
      exact ⟨y, rfl, hys, hs3.mono (by omega), gtrans hg1 hg3⟩

set_option maxHeartbeats 1000000 in
theorem l11DrawStakes_any (g K : Nat) (S : ByteArray) (w : World) (h : Src w g K) (hK : K ≤ 100000) (hS : S.size ≤ 9) :
    Calls Tryd.prog 58 #[.pointer (some ⟨g, 0, none⟩), .string S] w fun e w' => ∃ x : Int, e = .returned (.int .i64 x) ∧ (-9223372036854775808 ≤ x ∧ x ≤ 50) ∧ Src w' g (K + 10) ∧ w.grownBy w' (some g) := by
  go_enter Tryd.func58, Tryd.ntmps58
  go_wp2_with fail
  refine (one_any _ _ _ _ h (by omega) (by omega)).mono ?_
  rintro e w1 ⟨x, rfl, hs1, hg1⟩
  have hsl := hs1.lt
  cases x
  · go_wp2_with fail
    refine (pick_any _ _ _ _ hs1 (by omega) (by omega)).mono ?_
    rintro e w2 ⟨y, rfl, hy0, hy1, _, hs2, hg2⟩
    have hy2 := hy1 (by omega)
    clear hy1
    go_wp2
    go_ret
    exact ⟨_, rfl, by omega, hs2.mono (by omega), gtrans hg1 hg2⟩
  · obtain ⟨L, hL⟩ : ∃ L : Obj, L = .cells #[.int .i64 (-1), .int .i64 0, .int .i64 ((S.size : Int) + 1), .int .i64 ((S.size : Int) + 2), .int .i64 40, .int .i64 41, .int .i64 (-9223372036854775808)] 2 := ⟨_, rfl⟩
    have hrv : RV (w1.alloc L) (some ⟨w1.heap.size, 0, none⟩) 7 7 (ints [-1, 0, (S.size : Int) + 1, (S.size : Int) + 2, 40, 41, -9223372036854775808]) := by subst hL; exact rv_lit _ _ _ rfl (by simp) (by simp [maxLen])
    have hs := hs1.alloc L
    have hg := gtrans hg1 (World.grownBy_alloc w1 L (some g))
    subst hL
    go_wp2_with fail
    refine (among_any _ _ _ _ _ _ _ hs (by omega) (by omega) (by omega) hrv (by intro b o hb; simp at hb; omega)).mono ?_
    rintro e w2 ⟨y, rfl, hy, hs2, hg2⟩
    have hyb : -9223372036854775808 ≤ y ∧ y ≤ 50 := by
      simp at hy
      omega
    go_wp2
    go_ret
    exact ⟨y, rfl, hyb, hs2.mono (by omega), gtrans hg hg2⟩

theorem l11With_any (p : Option Addr) (n c : Nat) (xs : List Int) (w : World) (hr : RV w p n c (xs.map (.int .u8))) (hb : ∀ x ∈ xs, 0 ≤ x ∧ x ≤ 255) :
    Calls Tryd.prog 35 #[.slice p n c] w fun e w' => ∃ (S : ByteArray) (x : Int), e = .returned (.tuple #[.string S, .int .i64 x]) ∧ S.size ≤ 9 ∧ (-9223372036854775808 ≤ x ∧ x ≤ 50) ∧ Below w.heap.size w w' := by
  go_enter Tryd.func35, Tryd.ntmps35
  go_wp2_with fail
  refine (l00From_any _ _ _ _ _ hr hb).mono ?_
  rintro e w1 ⟨rfl, hs, hB⟩
  go_wp2_with fail
  refine (l11Bent_any _ _ _ hs (by omega)).mono ?_
  rintro e w2 ⟨S, rfl, hS, hs2, hg⟩
  replace hB := hB.grown hg hB.size (by intro k hk; simp at hk; omega)
  go_wp2_with fail
  refine (l11DrawStakes_any _ _ _ _ hs2 (by omega) hS).mono ?_
  rintro e w3 ⟨x, rfl, hx, hs3, hg⟩
  replace hB := hB.grown hg hB.size (by intro k hk; simp at hk; omega)
  go_wp2
  go_ret2
  exact ⟨_, _, rfl, hS, hx, hB⟩
theorem DrawIsLocked_any (p : Option Addr) (n c : Nat) (xs : List Int) (w : World) (hr : RV w p n c (xs.map (.int .u8))) (hb : ∀ x ∈ xs, 0 ≤ x ∧ x ≤ 255) :
    Calls Tryd.prog 6 #[.slice p n c] w fun e w' => ∃ (S : ByteArray) (x : Int), e = .returned (.tuple #[.string S, .int .i64 x]) ∧ S.size ≤ 9 ∧ (-9223372036854775808 ≤ x ∧ x ≤ 50) ∧ Below w.heap.size w w' := by
  go_enter Tryd.func6, Tryd.ntmps6
  go_wp2_with fail
  refine (l11With_any _ _ _ _ _ hr hb).mono ?_
  rintro e w1 ⟨S, x, rfl, hS, hx, hB⟩
  go_wp2
  go_ret2
  exact ⟨_, _, rfl, hS, hx, hB⟩

set_option maxHeartbeats 1000000 in
theorem l11Rod_any (p : Option Addr) (n c : Nat) (xs : List Int) (w : World) (hr : RV w p n c (xs.map (.int .u8))) (hb : ∀ x ∈ xs, 0 ≤ x ∧ x ≤ 255) :
    Calls Tryd.prog 42 #[.slice p n c] w fun e w' => ∃ (S : ByteArray) (x y : Int), e = .returned (.tuple #[.string S, .int .i64 x, .int .i64 y]) ∧ S.size ≤ 9 ∧ (-9223372036854775808 ≤ x ∧ x ≤ 50) ∧ Below w.heap.size w w' := by
  go_enter Tryd.func42, Tryd.ntmps42
  go_wp2_with fail
  refine (l00From_any _ _ _ _ _ hr hb).mono ?_
  rintro e w1 ⟨rfl, hs, hB⟩
  go_wp2_with fail
  refine (l11Bent_any _ _ _ hs (by omega)).mono ?_
  rintro e w2 ⟨S, rfl, hS, hs2, hg⟩
  replace hB := hB.grown hg hB.size (by intro k hk; simp at hk; omega)
  go_wp2_with fail
  refine (l11DrawStakes_any _ _ _ _ hs2 (by omega) hS).mono ?_
  rintro e w3 ⟨x, rfl, hx, hs3, hg⟩
  replace hB := hB.grown hg hB.size (by intro k hk; simp at hk; omega)
  go_wp2_with fail
  refine (one_any _ _ _ _ hs3 (by omega) (by omega)).mono ?_
  rintro e w4 ⟨z, rfl, hs4, hg⟩
  replace hB := hB.grown hg hB.size (by intro k hk; simp at hk; omega)
  have hsl := hs4.lt
  clear hs hs2 hs3 hg
  cases z
  · go_wp2_with (go_at_call 65; refine (l00Max_any _ _ _).mono ?_; rintro e w' ⟨rfl, rfl⟩)
    refine (pick_any _ _ _ _ hs4 (by omega) (by omega)).mono ?_
    rintro e w5 ⟨y, rfl, hy0, hy1, _, hs5, hg⟩
    replace hB := hB.grown hg hB.size (by intro k hk; simp at hk; omega)
    clear hy1
    go_wp2
    refine bodyPost_ret (v := .tuple #[.string S, .int .i64 x, .int .i64 y]) (by simp [results, Tryd.results42, go_sem]) rfl ⟨_, _, _, rfl, hS, hx, hB⟩
  · obtain ⟨L, hL⟩ : ∃ L : Obj, L = .cells #[.int .i64 (-1), .int .i64 0, .int .i64 (wrap64 (x - 1)), .int .i64 x] 2 := ⟨_, rfl⟩
    have hrv : RV (w4.alloc L) (some ⟨w4.heap.size, 0, none⟩) 4 4 (ints [-1, 0, wrap64 (x - 1), x]) := by subst hL; exact rv_lit _ _ _ rfl (by simp) (by simp [maxLen])
    have hs := hs4.alloc L
    replace hB := hB.alloc hB.size L
    subst hL
    go_wp2_with fail
    refine (among_any _ _ _ _ _ _ _ hs (by omega) (by omega) (by omega) hrv (by intro b o hb; simp at hb; omega)).mono ?_
    rintro e w5 ⟨y, rfl, hy, hs5, hg⟩
    replace hB := hB.grown hg hB.size (by intro k hk; simp at hk; omega)
    clear hy
    go_wp2
    refine bodyPost_ret (v := .tuple #[.string S, .int .i64 x, .int .i64 y]) (by simp [results, Tryd.results42, go_sem]) rfl ⟨_, _, _, rfl, hS, hx, hB⟩
theorem DrawCoversOf_any (p : Option Addr) (n c : Nat) (xs : List Int) (w : World) (hr : RV w p n c (xs.map (.int .u8))) (hb : ∀ x ∈ xs, 0 ≤ x ∧ x ≤ 255) :
    Calls Tryd.prog 11 #[.slice p n c] w fun e w' => ∃ (S : ByteArray) (x y : Int), e = .returned (.tuple #[.string S, .int .i64 x, .int .i64 y]) ∧ S.size ≤ 9 ∧ (-9223372036854775808 ≤ x ∧ x ≤ 50) ∧ Below w.heap.size w w' := by
  go_enter Tryd.func11, Tryd.ntmps11
  go_wp2_with fail
  refine (l11Rod_any _ _ _ _ _ hr hb).mono ?_
  rintro e w1 ⟨S, x, y, rfl, hS, hx, hB⟩
  go_wp2
  refine bodyPost_ret (v := .tuple #[.string S, .int .i64 x, .int .i64 y]) (by simp [results, Tryd.results11, go_sem]) rfl ⟨_, _, _, rfl, hS, hx, hB⟩
set_option maxHeartbeats 1000000 in
theorem DrawListWords_any (p : Option Addr) (n c : Nat) (xs : List Int) (w : World) (hr : RV w p n c (xs.map (.int .u8))) (hb : ∀ x ∈ xs, 0 ≤ x ∧ x ≤ 255) :
    Calls Tryd.prog 16 #[.slice p n c] w fun e w' => ∃ x : Int, e = .returned (.int .i64 x) ∧ Below w.heap.size w w' := by
  go_enter Tryd.func16, Tryd.ntmps16
  go_wp2_with fail
  refine (l00From_any _ _ _ _ _ hr hb).mono ?_
  rintro e w1 ⟨rfl, hs, hB⟩
  go_wp2_with fail
  refine (one_any _ _ _ _ hs (by omega) (by omega)).mono ?_
  rintro e w2 ⟨z, rfl, hs2, hg⟩
  replace hB := hB.grown hg hB.size (by intro k hk; simp at hk; omega)
  have hsl := hs2.lt
  clear hs hg
  cases z
  · go_wp2_with fail
    refine (pick_any _ _ _ _ hs2 (by omega) (by omega)).mono ?_
    rintro e w3 ⟨y, rfl, hy0, hy1, _, hs3, hg⟩
    have hy2 := hy1 (by omega)
    replace hB := hB.grown hg hB.size (by intro k hk; simp at hk; omega)
    clear hy1
    go_wp2
    go_ret
    exact ⟨_, rfl, hB⟩
  · obtain ⟨L, hL⟩ : ∃ L : Obj, L = .cells #[.int .i64 (-1), .int .i64 0, .int .i64 1, .int .i64 8, .int .i64 9, .int .i64 (-9223372036854775808)] 2 := ⟨_, rfl⟩
    have hrv : RV (w2.alloc L) (some ⟨w2.heap.size, 0, none⟩) 6 6 (ints [-1, 0, 1, 8, 9, -9223372036854775808]) := by subst hL; exact rv_lit _ _ _ rfl (by simp) (by simp [maxLen])
    have hs := hs2.alloc L
    replace hB := hB.alloc hB.size L
    subst hL
    go_wp2_with fail
    refine (among_any _ _ _ _ _ _ _ hs (by omega) (by omega) (by omega) hrv (by intro b o hb; simp at hb; omega)).mono ?_
    rintro e w3 ⟨y, rfl, hy, hs3, hg⟩
    replace hB := hB.grown hg hB.size (by intro k hk; simp at hk; omega)
    go_wp2
    go_ret
    exact ⟨_, rfl, hB⟩
end Go.Proofs.YtcpacfedmppaeaaDoor
