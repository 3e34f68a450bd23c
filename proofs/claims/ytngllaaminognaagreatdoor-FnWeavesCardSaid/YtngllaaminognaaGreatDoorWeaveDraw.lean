/-
  Drawn strokes.
-/
import Derived.Test.YtngllaaminognaaGreatDoorWeave3
import Derived.Test.YtngllaaminognaaGreatDoorBendDraw
namespace Go.Proofs.YtngllaaminognaaGreatDoor
open Go Go.RowKit
set_option linter.unusedVariables false

theorem owns_past {w w' : World} {e : TypeId} {lo n g : Nat} {v : Value} {vs : List Value} (h : w.ownsRow lo e 1 v n vs) (hg : w.grownBy w' (some g)) (hlo : g < lo) : w'.ownsRow lo e 1 v n vs := by
  refine h.kept hg ?_
  cases hv : v.ownBlock with
  | none => exact .inl rfl
  | some k =>
    have h1 := (h.lt k hv).1
    refine .inr fun e' => ?_
    simp at e'
    omega
theorem g_past {w W W' : World} {row row' : Option Nat} (h : w.grownBy W row) (h' : W.grownBy W' row') (hk : ∀ k, row' = some k → w.heap.size ≤ k) : w.grownBy W' row :=
  ⟨h'.os.trans h.os, h'.tape.trans h.tape, h'.output.trans h.output, Nat.le_trans h.size h'.size, fun i hi hne => (h'.block i (Nat.lt_of_lt_of_le hi h.size) (fun e => by have := hk i e.symm; omega)).trans (h.block i hi hne)⟩

set_option maxHeartbeats 2000000 in
theorem l06Draw_any (g K : Nat) (w : World) (h : Src w g K) (hK : K ≤ 200000) :
    Calls Tryz.prog 10 #[.pointer (some ⟨g, 0, none⟩)] w fun e w' => ∃ S : ByteArray, e = .returned (.string S) ∧ 1 ≤ S.size ∧ S.size ≤ 7 ∧ two 70 66 S.data.toList = true ∧ Src w' g (K + 30) ∧ w.grownBy w' (some g) := by
  have hgw := h.lt
  go_enter Tryz.func10, Tryz.ntmps10
  go_wp2_with fail
  with_reducible refine (one_any _ _ _ _ h (by omega) (by omega)).mono ?_
  rintro e w1 ⟨x, rfl, hs1, hg1⟩
  have hgw1 := hs1.lt
  cases x
  · go_wp2_with fail
    have hs2 := hs1.alloc (.cells #[] 5)
    have hg2 := gtrans hg1 (World.grownBy_alloc w1 (.cells #[] 5) (some g))
    have hown0 : (w1.alloc (.cells #[] 5)).ownsRow w.heap.size 5 1 (.slice (some ⟨w1.heap.size, 0, none⟩) 0 0) 0 [] := owns_empty rfl hg1.size
    with_reducible refine (pick_any _ _ _ _ hs2 (by omega) (by omega)).mono ?_
    rintro e w2 ⟨x, rfl, hx0, hx1, _, hs3, hg3⟩
    have hx2 := hx1 (by omega)
    obtain ⟨J, rfl⟩ := Int.eq_ofNat_of_zero_le hx0
    have hJ : J ≤ 6 := by omega
    have hown1 := owns_past hown0 hg3 hgw
    have Hs := Lib.hid hs3
    have Hg := Lib.hid (gtrans hg2 hg3)
    have Hown1 := Lib.hid hown1
    clear hx1 hx0 hx2 hs1 hs2 hs3 hg1 hg2 hg3 hown0 hown1 h
    go_wp2
    go_loopw [3, 4] (fun v i wr => ∃ (j : Nat) (pre : List UInt8), i = .int .i64 j ∧ pre.length + j = J + 1 ∧ two 70 66 pre = true ∧ wr.ownsRow w.heap.size 5 1 v pre.length (u8s (bytesI pre)) ∧ Hid (Src wr g (K + 20 - 2 * j)) ∧ Hid (w.grownBy wr (some g))) (fun _ i _ => (intOf i).toNat)
    case atStart => exact ⟨J + 1, [], by congr 1; omega, by simp, rfl, Hown1.out, Lib.hid (Hs.out.mono (by omega)), Hg⟩
    case round =>
      obtain ⟨j, pre, rfl, hjl, htw, hown, Hs, Hg⟩ := hrel
      obtain ⟨a, c, rfl⟩ := owns_slice hown
      generalize wr = wx at *
      by_cases hj0 : j = 0
      · subst hj0
        have hrv := (owns_read hown).1
        obtain ⟨b, o, rfl, _, _⟩ := hrv.cellv (by omega)
        have hcv := run_to_string (P := Tryz.prog) 22 9 5 Tryz.underlying22 Tryz.underlying5 Tryz.underlying9 hrv
        obtain ⟨L, hL⟩ : ∃ L, pre.length = L := ⟨_, rfl⟩
        have hsz : (str pre).size = L := by rw [str_size, hL]
        have Htw := Lib.hid (show two 70 66 (str pre).data.toList = true by rw [str_list]; exact htw)
        rw [hL] at hcv hjl
        simp only [hL]
        clear hown hrv htw hL
        go_wp2
        go_ret
        exact ⟨str pre, rfl, by omega, by omega, Htw.out, Hs.out.mono (by omega), Hg.out⟩
      · have hd : decide (0 < (j : Int)) = true := by simp; omega
        have hd' : decide (0 < j) = true := by simp; omega
        have hwj : IntKind.i64.wrap ((j : Int) - 1) = ((j - 1 : Nat) : Int) := by rw [IntWalk.i64_in _ (by omega)]; omega
        have Hown := Lib.hid hown
        clear hown
        go_wp2_with fail
        with_reducible refine (pick_any _ _ _ _ Hs.out (by omega) (by omega)).mono ?_
        rintro e w3 ⟨y, rfl, hy0, hy1, _, hs3, hg3⟩
        have hy2 := hy1 (by omega)
        have hown := owns_past Hown.out hg3 hgw
        have hg4 := gtrans Hg.out hg3
        have hsz := hg4.size
        clear hy1
        by_cases hy : y = 0
        · subst hy
          go_wp2_with (at_builtin; refine wpList_app1 rfl _ _ 22 rfl w.heap.size 5 _ 1 Tryz.underlying22 info_u8 (by decide) rfl _ pre.length _ rfl (hown.alloc _) w3.heap.size (.int .u8 70) rfl ?c1 rfl ?c2 ?c3 ?_)
          case c1 => exact cell_boxed rfl
          case c2 => omega
          case c3 => simp; omega
          intro v' w' hown' hgrow
          have hg5 := g_past (gtrans hg4 (World.grownBy_alloc w3 (.cells #[.int .u8 70] 5) (some g))) hgrow (fun k hk => ((hown.alloc (.cells #[.int .u8 70] 5)).lt k hk).1)
          have hbB : Below w.heap.size (w3.alloc (.cells #[.int .u8 70] 5)) w' := (Below.refl _ _).grown hgrow (by simp; omega) (fun k hk => ((hown.alloc (.cells #[.int .u8 70] 5)).lt k hk).1)
          have Hs5 := Lib.hid ((hs3.alloc (.cells #[.int .u8 70] 5)).keptB hbB hgw)
          have Hg5 := Lib.hid hg5
          have Hown' := Lib.hid hown'
          clear hown hgrow hg4 hg5 hbB hs3 hg3 hown'
          go_wp2
          go_roundw
          case measure => simp [intOf]; omega
          case rel =>
            refine ⟨j - 1, pre ++ [70], by first | rfl | (congr 1; omega), by simp; omega, two_iff.2 (fun c hc => ?_), ?_, Lib.hid (Hs5.out.mono (by omega)), Hg5⟩
            · rcases List.mem_append.1 hc with hc | hc
              · exact two_iff.1 htw c hc
              · simp at hc; exact .inl hc
            · have := Hown'.out
              rw [bytesI_append]
              simpa [bytesI] using this
        · have hy1 : y = 1 := by omega
          subst hy1
          go_wp2_with (at_builtin; refine wpList_app1 rfl _ _ 22 rfl w.heap.size 5 _ 1 Tryz.underlying22 info_u8 (by decide) rfl _ pre.length _ rfl (hown.alloc _) w3.heap.size (.int .u8 66) rfl ?c1 rfl ?c2 ?c3 ?_)
          case c1 => exact cell_boxed rfl
          case c2 => omega
          case c3 => simp; omega
          intro v' w' hown' hgrow
          have hg5 := g_past (gtrans hg4 (World.grownBy_alloc w3 (.cells #[.int .u8 66] 5) (some g))) hgrow (fun k hk => ((hown.alloc (.cells #[.int .u8 66] 5)).lt k hk).1)
          have hbB : Below w.heap.size (w3.alloc (.cells #[.int .u8 66] 5)) w' := (Below.refl _ _).grown hgrow (by simp; omega) (fun k hk => ((hown.alloc (.cells #[.int .u8 66] 5)).lt k hk).1)
          have Hs5 := Lib.hid ((hs3.alloc (.cells #[.int .u8 66] 5)).keptB hbB hgw)
          have Hg5 := Lib.hid hg5
          have Hown' := Lib.hid hown'
          clear hown hgrow hg4 hg5 hbB hs3 hg3 hown'
          go_wp2
          go_roundw
          case measure => simp [intOf]; omega
          case rel =>
            refine ⟨j - 1, pre ++ [66], by first | rfl | (congr 1; omega), by simp; omega, two_iff.2 (fun c hc => ?_), ?_, Lib.hid (Hs5.out.mono (by omega)), Hg5⟩
            · rcases List.mem_append.1 hc with hc | hc
              · exact two_iff.1 htw c hc
              · simp at hc; exact .inr hc
            · have := Hown'.out
              rw [bytesI_append]
              simpa [bytesI] using this
  · obtain ⟨L, hL⟩ : ∃ L : Obj, L = .cells #[.string ⟨#[70, 66]⟩, .string ⟨#[70, 70, 66]⟩, .string ⟨#[70, 66, 66]⟩, .string ⟨#[70, 70, 66, 66]⟩, .string ⟨#[70, 70, 70, 66]⟩] 9 := ⟨_, rfl⟩
    have hrv : RV (w1.alloc L) (some ⟨w1.heap.size, 0, none⟩) 5 5 (texts [⟨#[70, 66]⟩, ⟨#[70, 70, 66]⟩, ⟨#[70, 66, 66]⟩, ⟨#[70, 70, 66, 66]⟩, ⟨#[70, 70, 70, 66]⟩]) := by subst hL; exact rv_litV _ _ _ rfl (by simp) (by simp [maxLen])
    have hs := hs1.alloc L
    have hg := gtrans hg1 (World.grownBy_alloc w1 L (some g))
    subst hL
    go_wp2_with fail
    with_reducible refine (text_any _ _ _ _ _ _ _ hs (by omega) (by omega) (by omega) hrv (by intro b o hb; simp at hb; omega)).mono ?_
    rintro e w3 ⟨y, rfl, hy, hs3, hg3⟩
    have hys : 1 ≤ y.size ∧ y.size ≤ 7 ∧ two 70 66 y.data.toList = true := by
      simp at hy
      rcases hy with rfl | rfl | rfl | rfl | rfl <;> decide
    go_wp2
    go_ret
    exact ⟨y, rfl, hys.1, hys.2.1, hys.2.2, hs3.mono (by omega), gtrans hg hg3⟩

theorem A2Stroke_any (p : Option Addr) (n c : Nat) (xs : List Int) (w : World) (hr : RV w p n c (xs.map (.int .u8))) (hb : ∀ x ∈ xs, 0 ≤ x ∧ x ≤ 255) :
    Calls Tryz.prog 5 #[.slice p n c] w fun e w' => ∃ S : ByteArray, e = .returned (.string S) ∧ 1 ≤ S.size ∧ S.size ≤ 7 ∧ two 70 66 S.data.toList = true ∧ Below w.heap.size w w' := by
  go_enter Tryz.func5, Tryz.ntmps5
  go_wp2_with fail
  with_reducible refine (l00From_any _ _ _ _ _ hr hb).mono ?_
  rintro e w1 ⟨rfl, hs, hB⟩
  go_wp2_with fail
  with_reducible refine (l06Draw_any _ _ _ hs (by omega)).mono ?_
  rintro e w2 ⟨S, rfl, h1, h2, h3, hs2, hg⟩
  replace hB := hB.grown hg hB.size (by intro k hk; simp at hk; omega)
  go_wp2
  go_ret
  exact ⟨S, rfl, h1, h2, h3, hB⟩
end Go.Proofs.YtngllaaminognaaGreatDoor
