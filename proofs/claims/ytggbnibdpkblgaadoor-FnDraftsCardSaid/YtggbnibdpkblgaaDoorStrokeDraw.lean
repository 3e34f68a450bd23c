/-
  Drawn strokes, bent or not.
-/
import Derived.Test.YtggbnibdpkblgaaDoorSrc
import Derived.Test.YtggbnibdpkblgaaDoorBendDraw
import Derived.Test.YtggbnibdpkblgaaDoorTwillRow
import Derived.Test.YtggbnibdpkblgaaDoorStrS
import Derived.Test.YtggbnibdpkblgaaDoorTwillDraw2
namespace Go.Proofs.YtggbnibdpkblgaaDoor
open Go Go.RowKit
set_option linter.unusedVariables false
set_option maxRecDepth 100000

theorem owns_past {w w' : World} {e : TypeId} {lo n g : Nat} {v : Value} {vs : List Value} (h : w.ownsRow lo e 1 v n vs) (hg : w.grownBy w' (some g)) (hlo : g < lo) : w'.ownsRow lo e 1 v n vs := by
  refine h.kept hg ?_
  cases hv : v.ownBlock with
  | none => exact .inl rfl
  | some k =>
    have h1 := (h.lt k hv).1
    refine .inr fun e' => ?_
    simp at e'
    omega
theorem g_past {w W W' : World} {row row' : Option Nat} (h : w.grownBy W row) (h' : W.grownBy W' row') (hk : ∀ k, row' = some k → w.heap.size ≤ k) : w.grownBy W' row :=
  ⟨h'.os.trans h.os, h'.tape.trans h.tape, h'.output.trans h.output, Nat.le_trans h.size h'.size, fun i hi hne => (h'.block i (Nat.lt_of_lt_of_le hi h.size) (fun e => by have := hk i e.symm; omega)).trans (h.block i hi hne)⟩

set_option maxHeartbeats 2000000 in
theorem l06Draw_any (g K : Nat) (w : World) (h : Src w g K) (hK : K ≤ 200000) :
    Calls Tryd.prog 55 #[.pointer (some ⟨g, 0, none⟩)] w fun e w' => ∃ S : ByteArray, e = .returned (.string S) ∧ 1 ≤ S.size ∧ S.size ≤ 7 ∧ two 70 66 S.data.toList = true ∧ Src w' g (K + 30) ∧ w.grownBy w' (some g) := by
  have hgw := h.lt
  go_enter Tryd.func55, Tryd.ntmps55
  go_wp2_with fail
  with_reducible refine (one_any _ _ _ _ h (by omega) (by omega)).mono ?_
  rintro e w1 ⟨x, rfl, hs1, hg1⟩
  have hgw1 := hs1.lt
  cases x
  · go_wp2_with fail
    have hs2 := hs1.alloc (.cells #[] 5)
    have hg2 := gtrans hg1 (World.grownBy_alloc w1 (.cells #[] 5) (some g))
    have hown0 : (w1.alloc (.cells #[] 5)).ownsRow w.heap.size 5 1 (.slice (some ⟨w1.heap.size, 0, none⟩) 0 0) 0 [] := owns_empty rfl hg1.size
    with_reducible refine (pick_any _ _ _ _ hs2 (by omega) (by omega)).mono ?_
    rintro e w2 ⟨x, rfl, hx0, hx1, _, hs3, hg3⟩
    have hx2 := hx1 (by omega)
    obtain ⟨J, rfl⟩ := Int.eq_ofNat_of_zero_le hx0
    have hJ : J ≤ 6 := by omega
    have hown1 := owns_past hown0 hg3 hgw
    have Hs := Lib.hid hs3
    have Hg := Lib.hid (gtrans hg2 hg3)
    have Hown1 := Lib.hid hown1
    clear hx1 hx0 hx2 hs1 hs2 hs3 hg1 hg2 hg3 hown0 hown1 h
    go_wp2
    go_loopw [3, 4] (fun v i wr => ∃ (j : Nat) (pre : List UInt8), i = .int .i64 j ∧ pre.length + j = J + 1 ∧ two 70 66 pre = true ∧ wr.ownsRow w.heap.size 5 1 v pre.length (u8s (bytesI pre)) ∧ Hid (Src wr g (K + 20 - 2 * j)) ∧ Hid (w.grownBy wr (some g))) (fun _ i _ => (intOf i).toNat)
    case atStart => exact ⟨J + 1, [], by congr 1; omega, by simp, rfl, Hown1.out, Lib.hid (Hs.out.mono (by omega)), Hg⟩
    case round =>
      obtain ⟨j, pre, rfl, hjl, htw, hown, Hs, Hg⟩ := hrel
      obtain ⟨a, c, rfl⟩ := owns_slice hown
      generalize wr = wx at *
      by_cases hj0 : j = 0
      · subst hj0
        have hrv := (owns_read hown).1
        obtain ⟨b, o, rfl, _, _⟩ := hrv.cellv (by omega)
        have hcv := run_to_string (P := Tryd.prog) 22 9 5 Tryd.underlying22 Tryd.underlying5 Tryd.underlying9 hrv
        obtain ⟨L, hL⟩ : ∃ L, pre.length = L := ⟨_, rfl⟩
        have hsz : (str pre).size = L := by rw [str_size, hL]
        have Htw := Lib.hid (show two 70 66 (str pre).data.toList = true by rw [str_list]; exact htw)
        rw [hL] at hcv hjl
        simp only [hL]
        clear hown hrv htw hL
        go_wp2
        go_ret
        exact ⟨str pre, rfl, by omega, by omega, Htw.out, Hs.out.mono (by omega), Hg.out⟩
      · have hd : decide (0 < (j : Int)) = true := by simp; omega
        have hd' : decide (0 < j) = true := by simp; omega
        have hwj : IntKind.i64.wrap ((j : Int) - 1) = ((j - 1 : Nat) : Int) := by rw [IntWalk.i64_in _ (by omega)]; omega
        have Hown := Lib.hid hown
        clear hown
        go_wp2_with fail
        with_reducible refine (pick_any _ _ _ _ Hs.out (by omega) (by omega)).mono ?_
        rintro e w3 ⟨y, rfl, hy0, hy1, _, hs3, hg3⟩
        have hy2 := hy1 (by omega)
        have hown := owns_past Hown.out hg3 hgw
        have hg4 := gtrans Hg.out hg3
        have hsz := hg4.size
        clear hy1
        by_cases hy : y = 0
        · subst hy
          go_wp2_with (at_builtin; refine wpList_app1 rfl _ _ 22 rfl w.heap.size 5 _ 1 Tryd.underlying22 info_u8 (by decide) rfl _ pre.length _ rfl (hown.alloc _) w3.heap.size (.int .u8 70) rfl ?c1 rfl ?c2 ?c3 ?_)
          case c1 => exact cell_boxed rfl
          case c2 => omega
          case c3 => simp; omega
          intro v' w' hown' hgrow
          have hg5 := g_past (gtrans hg4 (World.grownBy_alloc w3 (.cells #[.int .u8 70] 5) (some g))) hgrow (fun k hk => ((hown.alloc (.cells #[.int .u8 70] 5)).lt k hk).1)
          have hbB : Below w.heap.size (w3.alloc (.cells #[.int .u8 70] 5)) w' := (Below.refl _ _).grown hgrow (by simp; omega) (fun k hk => ((hown.alloc (.cells #[.int .u8 70] 5)).lt k hk).1)
          have Hs5 := Lib.hid ((hs3.alloc (.cells #[.int .u8 70] 5)).keptB hbB hgw)
          have Hg5 := Lib.hid hg5
          have Hown' := Lib.hid hown'
          clear hown hgrow hg4 hg5 hbB hs3 hg3 hown'
          go_wp2
          go_roundw
          case measure => simp [intOf]; omega
          case rel =>
            refine ⟨j - 1, pre ++ [70], by first | rfl | (congr 1; omega), by simp; omega, two_iff.2 (fun c hc => ?_), ?_, Lib.hid (Hs5.out.mono (by omega)), Hg5⟩
            · rcases List.mem_append.1 hc with hc | hc
              · exact two_iff.1 htw c hc
              · simp at hc; exact .inl hc
            · have := Hown'.out
              rw [bytesI_append]
              simpa [bytesI] using this
        · have hy1 : y = 1 := by omega
          subst hy1
          go_wp2_with (at_builtin; refine wpList_app1 rfl _ _ 22 rfl w.heap.size 5 _ 1 Tryd.underlying22 info_u8 (by decide) rfl _ pre.length _ rfl (hown.alloc _) w3.heap.size (.int .u8 66) rfl ?c1 rfl ?c2 ?c3 ?_)
          case c1 => exact cell_boxed rfl
          case c2 => omega
          case c3 => simp; omega
          intro v' w' hown' hgrow
          have hg5 := g_past (gtrans hg4 (World.grownBy_alloc w3 (.cells #[.int .u8 66] 5) (some g))) hgrow (fun k hk => ((hown.alloc (.cells #[.int .u8 66] 5)).lt k hk).1)
          have hbB : Below w.heap.size (w3.alloc (.cells #[.int .u8 66] 5)) w' := (Below.refl _ _).grown hgrow (by simp; omega) (fun k hk => ((hown.alloc (.cells #[.int .u8 66] 5)).lt k hk).1)
          have Hs5 := Lib.hid ((hs3.alloc (.cells #[.int .u8 66] 5)).keptB hbB hgw)
          have Hg5 := Lib.hid hg5
          have Hown' := Lib.hid hown'
          clear hown hgrow hg4 hg5 hbB hs3 hg3 hown'
          go_wp2
          go_roundw
          case measure => simp [intOf]; omega
          case rel =>
            refine ⟨j - 1, pre ++ [66], by first | rfl | (congr 1; omega), by simp; omega, two_iff.2 (fun c hc => ?_), ?_, Lib.hid (Hs5.out.mono (by omega)), Hg5⟩
            · rcases List.mem_append.1 hc with hc | hc
              · exact two_iff.1 htw c hc
              · simp at hc; exact .inr hc
            · have := Hown'.out
              rw [bytesI_append]
              simpa [bytesI] using this
  · obtain ⟨L, hL⟩ : ∃ L : Obj, L = .cells #[.string ⟨#[70, 66]⟩, .string ⟨#[70, 70, 66]⟩, .string ⟨#[70, 66, 66]⟩, .string ⟨#[70, 70, 66, 66]⟩, .string ⟨#[70, 70, 70, 66]⟩] 9 := ⟨_, rfl⟩
    have hrv : RV (w1.alloc L) (some ⟨w1.heap.size, 0, none⟩) 5 5 (texts [⟨#[70, 66]⟩, ⟨#[70, 70, 66]⟩, ⟨#[70, 66, 66]⟩, ⟨#[70, 70, 66, 66]⟩, ⟨#[70, 70, 70, 66]⟩]) := by subst hL; exact rv_litV _ _ _ rfl (by simp) (by simp [maxLen])
    have hs := hs1.alloc L
    have hg := gtrans hg1 (World.grownBy_alloc w1 L (some g))
    subst hL
    go_wp2_with fail
    with_reducible refine (text_any _ _ _ _ _ _ _ hs (by omega) (by omega) (by omega) hrv (by intro b o hb; simp at hb; omega)).mono ?_
    rintro e w3 ⟨y, rfl, hy, hs3, hg3⟩
    have hys : 1 ≤ y.size ∧ y.size ≤ 7 ∧ two 70 66 y.data.toList = true := by
      simp at hy
      rcases hy with rfl | rfl | rfl | rfl | rfl <;> decide
    go_wp2
    go_ret
    exact ⟨y, rfl, hys.1, hys.2.1, hys.2.2, hs3.mono (by omega), gtrans hg hg3⟩


set_option maxHeartbeats 2000000 in
theorem l06Bent_any (g K : Nat) (w : World) (h : Src w g K) (hK : K ≤ 100000) :
    Calls Tryd.prog 22 #[.pointer (some ⟨g, 0, none⟩)] w fun e w' => ∃ S : ByteArray, e = .returned (.string S) ∧ S.size ≤ 13 ∧ Src w' g (K + 40) ∧ w.grownBy w' (some g) := by
  go_enter Tryd.func22, Tryd.ntmps22
  go_wp2_with fail
  with_reducible refine (l06Draw_any _ _ _ h (by omega)).mono ?_
  rintro e w1 ⟨S, rfl, hS1, hS7, _, hs1, hg1⟩
  go_wp2_with fail
  with_reducible refine (pick_any _ _ _ _ hs1 (by omega) (by omega)).mono ?_
  rintro e w2 ⟨x, rfl, hx0, hx1, _, hs2, hg2⟩
  replace hx1 := hx1 (by omega)
  have hg := gtrans hg1 hg2
  have hzg := hs2.lt
  clear hg1 hg2 hs1 h
  by_cases e0 : x = 0
  · subst e0
    obtain ⟨L, hL⟩ : ∃ L : Obj, L = .cells #[.string ⟨#[65]⟩, .string ⟨#[32]⟩, .string ⟨#[102]⟩, .string ⟨#[71]⟩] 9 := ⟨_, rfl⟩
    have hrv : RV (w2.alloc L) (some ⟨w2.heap.size, 0, none⟩) 4 4 (texts [⟨#[65]⟩, ⟨#[32]⟩, ⟨#[102]⟩, ⟨#[71]⟩]) := by subst hL; exact rv_litV _ _ _ rfl (by simp) (by simp [maxLen])
    have hs := hs2.alloc L
    have hg' := gtrans hg (World.grownBy_alloc w2 L (some g))
    subst hL
    clear hs2 hg
    go_wp2_with fail
    with_reducible refine (text_any _ _ _ _ _ _ _ hs (by omega) (by omega) (by omega) hrv (by intro b o hb; simp at hb; omega)).mono ?_
    rintro e w3 ⟨y, rfl, hy, hs3, hg3⟩
    have hys : y.size = 1 := by
      simp at hy
      rcases hy with rfl | rfl | rfl | rfl <;> rfl
    have n1 : ¬ (9223372036854775807 < S.size + y.size) := by omega
    have hS : (S ++ y).size ≤ 13 := by simp; omega
    have hgg := gtrans hg' hg3
    clear hg' hg3 hrv hs hy
    go_wp2_with fail
    go_ret
    exact ⟨_, rfl, hS, hs3.mono (by omega), hgg⟩
  by_cases e1 : x = 1
  · subst e1
    obtain ⟨L, hL⟩ : ∃ L : Obj, L = .cells #[.int .i64 0, .int .i64 12, .int .i64 13] 2 := ⟨_, rfl⟩
    have hrv : RV (w2.alloc L) (some ⟨w2.heap.size, 0, none⟩) 3 3 (ints [0, 12, 13]) := by subst hL; exact rv_lit _ _ _ rfl (by simp) (by simp [maxLen])
    have hs := hs2.alloc L
    have hg' := gtrans hg (World.grownBy_alloc w2 L (some g))
    subst hL
    clear hs2 hg
    go_wp2_with fail
    with_reducible refine (among_any _ _ _ _ _ _ _ hs (by omega) (by omega) (by omega) hrv (by intro b o hb; simp at hb; omega)).mono ?_
    rintro e w3 ⟨y, rfl, hy, hs3, hg3⟩
    have hgg := gtrans hg' hg3
    clear hg' hg3 hrv hs
    simp only [List.mem_cons, List.not_mem_nil, or_false] at hy
    rcases hy with rfl | rfl | rfl
    all_goals
      go_wp2_with fail
      go_ret
      exact ⟨_, rfl, by decide, hs3.mono (by omega), hgg⟩
  have b0 : (x == 0) = false := by simp [e0]
  have b1 : (x == 1) = false := by simp [e1]
  go_wp2_with fail
  go_ret
  exact ⟨_, rfl, by omega, hs2.mono (by omega), hg⟩

set_option maxHeartbeats 2000000 in
theorem DrawDraftFor_any (p : Option Addr) (n c : Nat) (xs : List Int) (w : World) (hr : RV w p n c (xs.map (.int .u8))) (hb : ∀ x ∈ xs, 0 ≤ x ∧ x ≤ 255) :
    Calls Tryd.prog 5 #[.slice p n c] w fun e w' => ∃ (S : ByteArray) (z : Int), e = .returned (.tuple #[.string S, .int .i64 z]) ∧ S.size ≤ 13 ∧ Below w.heap.size w w' := by
  go_enter Tryd.func5, Tryd.ntmps5
  go_wp2_with fail
  with_reducible refine (l00From_any _ _ _ _ _ hr hb).mono ?_
  rintro e w1 ⟨rfl, hs, hB⟩
  go_wp2_with fail
  with_reducible refine (l06Bent_any _ _ _ hs (by omega)).mono ?_
  rintro e w2 ⟨S, rfl, hS, hs2, hg2⟩
  replace hB := hB.grown hg2 hB.size (by intro k hk; simp at hk; omega)
  clear hg2 hs
  go_wp2_with fail
  with_reducible refine (one_any _ _ _ _ hs2 (by omega) (by omega)).mono ?_
  rintro e w3 ⟨b1, rfl, hs3, hg3⟩
  replace hB := hB.grown hg3 hB.size (by intro k hk; simp at hk; omega)
  have hzg := hs3.lt
  have hzz := hB.size
  clear hg3 hs2
  obtain ⟨s, hs'⟩ : ∃ s, S.size = s := ⟨_, rfl⟩
  have hw1 : IntKind.i64.wrap ((s : Int) - 1) = (s : Int) - 1 := IntWalk.i64_in _ (by omega)
  cases b1
  · go_wp2_with fail
    with_reducible refine (l00Max_any _ _ _).mono ?_
    rintro e wq ⟨rfl, rfl⟩
    obtain ⟨M, hM⟩ : ∃ M, max 1 ((s : Int) - 1) = M := ⟨_, rfl⟩
    have hM1 : 1 ≤ M ∧ M ≤ 13 := by omega
    rw [hM]
    clear hM hw1
    go_wp2_with fail
    with_reducible refine (pick_any _ _ _ _ hs3 (by omega) (by omega)).mono ?_
    rintro e w4 ⟨z, rfl, hz0, hz1, _, hs4, hg4⟩
    replace hB := hB.grown hg4 hB.size (by intro k hk; simp at hk; omega)
    clear hg4 hs3 hs4
    go_wp2_with fail
    go_ret2
    exact ⟨_, _, rfl, hS, hB⟩
  · obtain ⟨L, hL⟩ : ∃ L : Obj, L = .cells #[.int .i64 (-1), .int .i64 0, .int .i64 1, .int .i64 ((s : Int) - 1), .int .i64 s] 2 := ⟨_, rfl⟩
    have hrv : RV (w3.alloc L) (some ⟨w3.heap.size, 0, none⟩) 5 5 (ints [-1, 0, 1, (s : Int) - 1, (s : Int)]) := by subst hL; exact rv_lit _ _ _ rfl (by simp) (by simp [maxLen])
    have hs5 := hs3.alloc L
    replace hB := hB.alloc hB.size L
    subst hL
    clear hs3
    go_wp2_with fail
    with_reducible refine (among_any _ _ _ _ _ _ _ hs5 (by omega) (by omega) (by omega) hrv (by intro b o hb; simp at hb; omega)).mono ?_
    rintro e w4 ⟨z, rfl, _, hs4, hg4⟩
    replace hB := hB.grown hg4 hB.size (by intro k hk; simp at hk; omega)
    clear hg4 hs4 hs5 hrv
    go_wp2_with fail
    go_ret2
    exact ⟨_, _, rfl, hS, hB⟩

set_option maxHeartbeats 1000000 in
theorem DrawIsPlain_any (p : Option Addr) (n c : Nat) (xs : List Int) (w : World) (hr : RV w p n c (xs.map (.int .u8))) (hb : ∀ x ∈ xs, 0 ≤ x ∧ x ≤ 255) :
    Calls Tryd.prog 8 #[.slice p n c] w (DrawnB w) := by
  have hB := (Below.refl w.heap.size w).alloc (Nat.le_refl _) (.cells #[.slice none 0 0, .int .i64 0] 28)
  have hb_R : Blk (w.alloc (.cells #[.slice none 0 0, .int .i64 0] 28)) w.heap.size [.slice none 0 0, .int .i64 0] 28 := Blk.box _ _ _ rfl
  replace hr := hr.below hB
  go_enter Tryd.func8, Tryd.ntmps8
  go_wp2_with fail
  with_reducible refine (l00From_any _ _ _ _ _ hr hb).mono ?_
  rintro e w1 ⟨rfl, hs, hB1⟩
  have hz1 := hB1.size
  have hz0 : w.heap.size < w1.heap.size := by simp at hz1; omega
  replace hb_R := hb_R.below hB1
  replace hB := hB.trans (hB1.mono (by simp))
  clear hB1 hr hz1
  simp only [World.size_alloc] at hs
  go_wp2_with fail
  with_reducible refine (one_any _ _ _ _ hs (by omega) (by omega)).mono ?_
  rintro e w2 ⟨b1, rfl, hs2, hg⟩
  replace hb_R := hb_R.grown hg (by simp)
  replace hB := hB.grown hg hB.size (by intro k hk; simp at hk; omega)
  have hz2 := hs2.lt
  clear hg hs
  cases b1
  · go_wp2_with fail
    with_reducible refine (l09Draw_any _ _ _ hs2 (by omega)).mono ?_
    rintro e w3 ⟨v, ys, st, rfl, hl, ho, hs3, hg⟩
    replace hb_R := hb_R.grown hg (by simp)
    have hzz := hB.size
    replace hB := hB.grown hg hB.size (by intro k hk; simp at hk; omega)
    obtain ⟨a, c1, rfl, _⟩ := ho.sliceI
    have c_R0 := hb_R.cell 0 _ rfl
    have f_R0 := hb_R.frozen 0
    have c_R1 := hb_R.cell 1 _ rfl
    have f_R1 := hb_R.frozen 1
    have HO := Lib.hid ho
    clear ho hg hs2 hs3
    go_wp2_with fail
    have Hblk2 := (hb_R.set 0 (.slice a ys.length c1)).set 1 (.int .i64 st)
    have g0 := Hblk2.cell 0 _ rfl
    have g1 := Hblk2.cell 1 _ rfl
    refine bodyPost_ret (v := .agg #[.slice a ys.length c1, .int .i64 st]) (by simp [results, Tryd.results8, go_sem, g0, g1]) rfl ⟨_, ys, _, rfl, hl, ?_, ?_⟩
    · exact ((HO.out.set (by omega) 0 _).set (by omega) 1 _).mono (by omega) (by simp)
    · exact (hB.setCell (Nat.le_refl _) _).setCell (Nat.le_refl _) _
  · have hs3 := hs2.alloc (.cells #[.int .i64 1, .int .i64 1, .int .i64 1, .int .i64 1] 2)
    have ho := owns_lit w2 2 (ints [1, 1, 1, 1]) (cs := #[.int .i64 1, .int .i64 1, .int .i64 1, .int .i64 1]) rfl (n := 4) rfl (by simp [maxLen])
    have hzz := hB.size
    replace hB := hB.alloc hB.size (.cells #[.int .i64 1, .int .i64 1, .int .i64 1, .int .i64 1] 2)
    replace hb_R := hb_R.alloc (.cells #[.int .i64 1, .int .i64 1, .int .i64 1, .int .i64 1] 2)
    clear hs2
    go_wp2_with fail
    with_reducible refine (pick_any _ _ _ _ hs3 (by omega) (by omega)).mono ?_
    rintro e w3 ⟨z, rfl, hz0', hz1', _, hs4, hg⟩
    replace hz1' := hz1' (by omega)
    replace hb_R := hb_R.grown hg (by simp)
    replace hB := hB.grown hg hB.size (by intro k hk; simp at hk; omega)
    have ho3 := owns_past' ho hg (by omega)
    have c_R0 := hb_R.cell 0 _ rfl
    have f_R0 := hb_R.frozen 0
    have c_R1 := hb_R.cell 1 _ rfl
    have f_R1 := hb_R.frozen 1
    have HO := Lib.hid (show Own w3 w2.heap.size w3.heap.size 2 (.slice (some ⟨w2.heap.size, 0, none⟩) 4 4) (ints [1, 1, 1, 1]) from Own.of ho3)
    clear ho ho3 hg hs3 hs4
    go_wp2_with fail
    have Hblk2 := (hb_R.set 0 (.slice (some ⟨w2.heap.size, 0, none⟩) 4 4)).set 1 (.int .i64 (1 + z))
    have g0 := Hblk2.cell 0 _ rfl
    have g1 := Hblk2.cell 1 _ rfl
    refine bodyPost_ret (v := .agg #[.slice (some ⟨w2.heap.size, 0, none⟩) 4 4, .int .i64 (1 + z)]) (by simp [results, Tryd.results8, go_sem, g0, g1]) rfl ⟨_, [1, 1, 1, 1], _, rfl, by simp, ?_, ?_⟩
    · exact ((HO.out.set (by omega) 0 _).set (by omega) 1 _).mono (by omega) (by simp)
    · exact (hB.setCell (Nat.le_refl _) _).setCell (Nat.le_refl _) _

set_option maxHeartbeats 1000000 in
theorem DrawShareFront_any (p : Option Addr) (n c : Nat) (xs : List Int) (w : World) (hr : RV w p n c (xs.map (.int .u8))) (hb : ∀ x ∈ xs, 0 ≤ x ∧ x ≤ 255) :
    Calls Tryd.prog 11 #[.slice p n c] w (DrawnB w) := by
  have hB := (Below.refl w.heap.size w).alloc (Nat.le_refl _) (.cells #[.slice none 0 0, .int .i64 0] 28)
  have hb_R : Blk (w.alloc (.cells #[.slice none 0 0, .int .i64 0] 28)) w.heap.size [.slice none 0 0, .int .i64 0] 28 := Blk.box _ _ _ rfl
  replace hr := hr.below hB
  go_enter Tryd.func11, Tryd.ntmps11
  go_wp2_with fail
  with_reducible refine (l00From_any _ _ _ _ _ hr hb).mono ?_
  rintro e w1 ⟨rfl, hs, hB1⟩
  have hz1 := hB1.size
  have hz0 : w.heap.size < w1.heap.size := by simp at hz1; omega
  replace hb_R := hb_R.below hB1
  replace hB := hB.trans (hB1.mono (by simp))
  clear hB1 hr hz1
  simp only [World.size_alloc] at hs
  go_wp2_with fail
  with_reducible refine (l09Draw_any _ _ _ hs (by omega)).mono ?_
  rintro e w2 ⟨v, ys, st, rfl, hl, ho, hs2, hg⟩
  replace hb_R := hb_R.grown hg (by simp)
  have hzz := hB.size
  replace hB := hB.grown hg hB.size (by intro k hk; simp at hk; omega)
  have hz2 : w.heap.size < w2.heap.size := hb_R.lt
  obtain ⟨a, c1, rfl, _⟩ := ho.sliceI
  have c_R0 := hb_R.cell 0 _ rfl
  have f_R0 := hb_R.frozen 0
  have c_R1 := hb_R.cell 1 _ rfl
  have f_R1 := hb_R.frozen 1
  have HO := Lib.hid ho
  clear ho hg hs hs2
  go_wp2_with fail
  have Hblk2 := (hb_R.set 0 (.slice a ys.length c1)).set 1 (.int .i64 st)
  have g0 := Hblk2.cell 0 _ rfl
  have g1 := Hblk2.cell 1 _ rfl
  refine bodyPost_ret (v := .agg #[.slice a ys.length c1, .int .i64 st]) (by simp [results, Tryd.results11, go_sem, g0, g1]) rfl ⟨_, ys, _, rfl, hl, ?_, ?_⟩
  · exact ((HO.out.set (by omega) 0 _).set (by omega) 1 _).mono (by omega) (by simp)
  · exact (hB.setCell (Nat.le_refl _) _).setCell (Nat.le_refl _) _
end Go.Proofs.YtggbnibdpkblgaaDoor
