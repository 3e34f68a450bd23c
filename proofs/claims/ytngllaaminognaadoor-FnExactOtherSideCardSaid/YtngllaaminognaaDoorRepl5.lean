/-
  The other side of a stroke, by walks.
-/
import Derived.Test.YtngllaaminognaaDoorRepl4
import Derived.Test.YtngllaaminognaaDoorDraft
namespace Go.Proofs.YtngllaaminognaaDoor
open Go Go.RowKit
set_option linter.unusedVariables false

set_option maxRecDepth 100000 in
set_option maxHeartbeats 2000000 in
theorem replacerReplace_any (g h cc : Nat) (hcc : 4 ≤ cc) (s : ByteArray) (w : World) (hb : Blk w g [.int .u32 0, .int .i32 0, .int .u32 0, .nilIface, .slice (some ⟨h, 0, none⟩) 4 cc] 54) (hr : St4 w h) (hgh : g ≠ h)
    (h1 : 1 ≤ s.size) (h12 : s.size ≤ 100) (htw : two 70 66 s.data.toList = true) :
    Calls Tryd.prog 12 #[.pointer (some ⟨g, 0, none⟩), .string s] w fun e w' => e = .returned (.string (str (swapL s.data.toList))) ∧ w.grownBy w' (some g) := by
  have Hdo := Lib.hid (onceDo_any g h cc hcc _ _ w hb hr hgh)
  have Hrp := Lib.hid (fun k W hk => byteReplace_any k s W hk h1 h12 htw)
  have c0 := hb.cell 0 _ rfl
  generalize str (swapL s.data.toList) = T at *
  clear hb hr htw
  go_enter Tryd.func12, Tryd.ntmps12
  go_wp2_with fail
  with_reducible refine Hdo.out.mono ?_
  rintro e w1 ⟨k, hk, rfl, hb1, hk1, hg1⟩
  have c3 := hb1.cell 3 _ rfl
  have Hk1 := Lib.hid hk1
  have Hg1 := Lib.hid hg1
  clear hk1 hg1 hb1
  go_wp2_with fail
  with_reducible refine (Hrp.out k _ Hk1.out).mono ?_
  rintro e w2 ⟨rfl, hb2⟩
  have Hg2 := Lib.hid (ogtrans Hg1.out (ogbelow hb2 (some g)))
  clear hb2
  go_wp2_with fail
  go_ret
  exact ⟨rfl, Hg2.out⟩

theorem st4_box (w : World) : St4 (w.alloc (.cells #[.string ⟨#[70]⟩, .string ⟨#[66]⟩, .string ⟨#[66]⟩, .string ⟨#[70]⟩] 9)) w.heap.size := by
  have h := CellsAt.box w #[.string ⟨#[70]⟩, .string ⟨#[66]⟩, .string ⟨#[66]⟩, .string ⟨#[70]⟩] 9
  exact ⟨h.1, h.2 0 _ rfl, h.2 1 _ rfl, h.2 2 _ rfl, h.2 3 _ rfl⟩
theorem otherSide_any (s : ByteArray) (w : World) (h1 : 1 ≤ s.size) (h12 : s.size ≤ 100) (htw : two 70 66 s.data.toList = true) :
    Calls Tryd.prog 8 #[.string s] w fun e w' => e = .returned (.string (str (swapL s.data.toList))) ∧ Below w.heap.size w w' := by
  have Hnr := Lib.hid (newReplacer_any w.heap.size _ (st4_box w))
  have Hrp := Lib.hid (fun g h cc hcc W hb hr hgh => replacerReplace_any g h cc hcc s W hb hr hgh h1 h12 htw)
  generalize str (swapL s.data.toList) = T at *
  have HB := Lib.hid ((Below.refl w.heap.size w).alloc (Nat.le_refl _) (.cells #[.string ⟨#[70]⟩, .string ⟨#[66]⟩, .string ⟨#[66]⟩, .string ⟨#[70]⟩] 9))
  clear htw
  go_enter Tryd.func8, Tryd.ntmps8
  go_wp2_with fail
  with_reducible refine Hnr.out.mono ?_
  rintro e w1 ⟨g, h, cc, rfl, hcc, hgh, hg, hh, hb1, hs1, hbel⟩
  have Hb1 := Lib.hid hb1
  have Hs1 := Lib.hid hs1
  have HB1 := Lib.hid (bstep HB.out hbel (Nat.le_refl _))
  have hz1 := HB1.out.size
  have hgz : w.heap.size ≤ g := by simp at hg; omega
  clear hb1 hs1 hbel
  go_wp2_with fail
  with_reducible refine (Hrp.out g h cc hcc _ Hb1.out Hs1.out hgh).mono ?_
  rintro e w2 ⟨rfl, hg2⟩
  have HB2 := Lib.hid (HB1.out.grown hg2 hz1 (fun k hk => by simp at hk; omega))
  clear hg2
  go_wp2_with fail
  go_ret
  exact ⟨rfl, HB2.out⟩

def otherR (l : List UInt8) : ByteArray × Int := if vS l then (str (swapL l), 0) else (⟨#[]⟩, 1)
abbrev retSI (r : ByteArray × Int) : Ending := .returned (.tuple #[.string r.1, .int .i64 r.2])

theorem OtherSide_any (s : ByteArray) (w : World) (hs : s.size ≤ maxLen) : Calls Tryd.prog 5 #[.string s] w fun e w' => e = retSI (otherR s.data.toList) ∧ Below w.heap.size w w' := by
  have Hv := Lib.hid (fun W => validStroke_any s W hs)
  cases hv : vS s.data.toList
  · rw [hv] at Hv
    rw [show otherR s.data.toList = (⟨#[]⟩, 1) by simp [otherR, hv]]
    clear hv hs
    go_enter Tryd.func5, Tryd.ntmps5
    go_wp2_with (go_at_call 7; with_reducible refine (Hv.out _).mono ?_; rintro e w1 ⟨rfl, hb1⟩)
    go_ret2
    exact ⟨rfl, hb1⟩
  · rw [hv] at Hv
    rw [show otherR s.data.toList = (str (swapL s.data.toList), 0) by simp [otherR, hv]]
    obtain ⟨h1, h2, h3⟩ := vS_iff.1 hv
    rw [size_list] at h1 h2
    have Ho := Lib.hid (fun W => otherSide_any s W h1 (by omega) h3)
    generalize str (swapL s.data.toList) = T at *
    clear hv hs h3
    go_enter Tryd.func5, Tryd.ntmps5
    go_wp2_with (first | (go_at_call 7; with_reducible refine (Hv.out _).mono ?_; rintro e w1 ⟨rfl, hb1⟩) | (go_at_call 8; with_reducible refine (Ho.out _).mono ?_; rintro e w2 ⟨rfl, hb2⟩))
    go_ret2
    exact ⟨rfl, bstep hb1 hb2 (Nat.le_refl _)⟩

set_option maxHeartbeats 2000000 in
theorem specOtherSide_any (s : ByteArray) (w : World) (hs : s.size ≤ maxLen) : Calls Tryd.prog 4 #[.string s] w fun e w' => e = retSI (otherR s.data.toList) ∧ Below w.heap.size w w' := by
  have Hv := Lib.hid (fun W => l06Ok_any s W hs)
  obtain ⟨l, Hl⟩ : ∃ l, Hid (l = s.data.toList) := ⟨_, rfl⟩
  have Hll := Lib.hid (show l.length = s.size by rw [Hl.out, size_list])
  rw [← Hl.out] at Hv ⊢
  cases hv : vS l
  · rw [hv] at Hv
    rw [show otherR l = (⟨#[]⟩, 1) by simp [otherR, hv]]
    clear hv hs
    go_enter Tryd.func4, Tryd.ntmps4
    go_wp2_with (go_at_call 6; with_reducible refine (Hv.out _).mono ?_; rintro e w1 ⟨rfl, q, rfl⟩)
    go_ret2
    exact ⟨rfl, bdrewN (Below.refl _ _) q⟩
  · rw [hv] at Hv
    rw [show otherR l = (str (swapL l), 0) by simp [otherR, hv]]
    obtain ⟨h1, h2, h3⟩ := vS_iff.1 hv
    rw [Hll.out] at h1 h2
    have Hbat := Lib.hid (fun j (hj : j < s.size) => show (s[j]'hj).toNat = bat l j by rw [Hl.out]; exact bat_get hj)
    have Hlet := Lib.hid (fun j (hj : j < s.size) => show l.getD j 0 = 70 ∨ l.getD j 0 = 66 by
      have hj2 : j < l.length := by rw [Hll.out]; exact hj
      exact two_iff.1 h3 _ (by simp [hj2]))
    obtain ⟨N, hN⟩ : ∃ N, s.size = N := ⟨_, rfl⟩
    rw [hN] at Hll h1 h2
    clear hv hs h3
    go_enter Tryd.func4, Tryd.ntmps4
    go_wp2_with (go_at_call 6; with_reducible refine (Hv.out _).mono ?_; rintro e w1 ⟨rfl, q, hq⟩; have Hb1 := Lib.hid (show Below w.heap.size w w1 by rw [hq]; exact bdrewN (Below.refl _ _) q); clear hq)
    go_loopw [4, 5] (fun v i wr => ∃ j : Nat, j ≤ N ∧ i = .int .i64 j ∧ wr.ownsRow w1.heap.size 5 1 v j (u8s (bytesI (swapL (l.take j)))) ∧ Below w1.heap.size w1 wr) (fun _ i _ => N - (intOf i).toNat)
    case atStart => exact ⟨0, Nat.zero_le _, rfl, owns_empty rfl (Nat.le_refl _), (Below.refl _ _).alloc (Nat.le_refl _) _⟩
    case round =>
      obtain ⟨j, hj, rfl, hown, hbel⟩ := hrel
      obtain ⟨a, c, rfl⟩ := owns_slice hown
      have hsz := hbel.size
      by_cases hlt : j < N
      · have hjs : j < s.size := by omega
        have hlet := Hlet.out j hjs
        have hxb := Hbat.out j hjs
        obtain ⟨x, hx⟩ : ∃ x, (s[j]'hjs).toNat = x := ⟨_, rfl⟩
        rw [hx] at hxb
        have hji : (j : Int) < N := by omega
        have Hst := Lib.hid (show swapL (l.take (j + 1)) = swapL (l.take j) ++ [swB (l.getD j 0)] by
          unfold swapL
          rw [show l.take (j + 1) = l.take j ++ [l.getD j 0] by rw [List.take_add_one]; simp [show j < l.length by rw [Hll.out]; exact hlt]]
          simp)
        rcases hlet with h | h
        · have hx2 : x = 70 := by rw [hxb]; unfold bat; rw [h]; rfl
          have Hsw := Lib.hid (show swB (l.getD j 0) = 66 by rw [h]; rfl)
          subst hx2
          clear h hxb
          go_wp2_with (at_builtin; refine wpList_app1 rfl _ _ 25 rfl w1.heap.size 5 _ 1 Tryd.underlying25 info_u8s (by decide) rfl _ j _ rfl (hown.alloc _) wr.heap.size (.int .u8 66) rfl ?c1 rfl ?c2 ?c3 ?_)
          case c1 => exact cell_boxed rfl
          case c2 => omega
          case c3 => simp; omega
          intro v' w' hown' hgrow
          have hb' := below_app (hbel.alloc (by omega) _) (hown.alloc _) hgrow (Nat.le_refl _) (by simp; omega)
          have Hown' := Lib.hid hown'
          clear hown hgrow hbel hown'
          go_wp2
          go_roundw
          case measure => simp [intOf]; omega
          case rel => exact ⟨j + 1, by omega, by go_num, by rw [Hst.out, Hsw.out, bytesI_append]; simpa [bytesI] using Hown'.out, hb'⟩
        · have hx2 : x = 66 := by rw [hxb]; unfold bat; rw [h]; rfl
          have Hsw := Lib.hid (show swB (l.getD j 0) = 70 by rw [h]; rfl)
          subst hx2
          clear h hxb
          go_wp2_with (at_builtin; refine wpList_app1 rfl _ _ 25 rfl w1.heap.size 5 _ 1 Tryd.underlying25 info_u8s (by decide) rfl _ j _ rfl (hown.alloc _) wr.heap.size (.int .u8 70) rfl ?d1 rfl ?d2 ?d3 ?_)
          case d1 => exact cell_boxed rfl
          case d2 => omega
          case d3 => simp; omega
          intro v' w' hown' hgrow
          have hb' := below_app (hbel.alloc (by omega) _) (hown.alloc _) hgrow (Nat.le_refl _) (by simp; omega)
          have Hown' := Lib.hid hown'
          clear hown hgrow hbel hown'
          go_wp2
          go_roundw
          case measure => simp [intOf]; omega
          case rel => exact ⟨j + 1, by omega, by go_num, by rw [Hst.out, Hsw.out, bytesI_append]; simpa [bytesI] using Hown'.out, hb'⟩
      · have hjN : j = N := by omega
        subst hjN
        have hrv := (owns_read hown).1
        rw [List.take_of_length_le (by rw [Hll.out]; omega)] at hrv
        obtain ⟨b, o, rfl, _, _⟩ := hrv.cellv (by omega)
        have hcv := run_to_string (P := Tryd.prog) 25 9 5 Tryd.underlying25 Tryd.underlying5 Tryd.underlying9 hrv
        have Hbel := Lib.hid (bstep Hb1.out hbel (Nat.le_refl _))
        clear hown hrv hbel
        go_wp2_with fail
        go_ret2
        exact ⟨rfl, Hbel.out⟩
end Go.Proofs.YtngllaaminognaaDoor
