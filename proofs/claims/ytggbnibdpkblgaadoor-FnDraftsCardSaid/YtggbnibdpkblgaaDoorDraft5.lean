/-
  Drafts for rows, the reference, by walks.
-/
import Derived.Test.YtggbnibdpkblgaaDoorDraft4
namespace Go.Proofs.YtggbnibdpkblgaaDoor
open Go.RowKit
set_option linter.unusedVariables false
set_option maxRecDepth 100000

theorem draftR_len (l : List UInt8) (st : Int) : (draftR l st).1.length ≤ 1000000 := by
  unfold draftR
  split
  · next h =>
    simp only [Bool.and_eq_true] at h
    have h12 := (vS_iff.1 h.1).2.1
    split
    · split
      · have h3 := partsTo_len (turnT l) (turnT l).length
        have h4 : (turnT l).length ≤ 12 := by
          unfold turnT
          split
          · rw [turnW_len]; exact h12
          · simp
        show (partsTo (turnT l) (turnT l).length).length ≤ 1000000
        omega
      · simp
    · simp
  · simp

set_option maxHeartbeats 2000000 in
theorem specDraftFor_any (s : ByteArray) (st : Int) (w : World) (hs : s.size ≤ maxLen) :
    Calls Tryd.prog 7 #[.string s, .int .i64 st] w (RetTC w 2 (draftR s.data.toList st)) := by
  obtain ⟨l, Hl⟩ : ∃ l, Hid (l = s.data.toList) := ⟨_, rfl⟩
  have Hll := Lib.hid (show l.length = s.size by rw [Hl.out, size_list])
  have Hv := Lib.hid (fun W => (l06Ok_any s W hs).mono (fun e w' h => (⟨h.1, by obtain ⟨q, hq⟩ := h.2; rw [hq]; exact bdrewN (Below.refl _ _) q⟩ : _ ∧ Below W.heap.size W w')))
  have hm : s.size ≤ 9223372036854775807 := by unfold maxLen at hs; omega
  rw [← Hl.out] at Hv ⊢
  have Hblk0 := Lib.hid (Blk.box w [.slice none 0 0, .int .i64 0] 28 rfl)
  have HB0 := Lib.hid (show Below w.heap.size w (w.alloc (.cells #[.slice none 0 0, .int .i64 0] 28)) from (Below.refl _ _).alloc (Nat.le_refl _) _)
  cases hv : vS l
  · rw [show draftR l st = ([], 0, 7) by rw [draftR, hv]; rfl]
    rw [hv] at Hv
    clear hv
    go_enter Tryd.func7, Tryd.ntmps7
    go_wp2_with (first | (go_at_call 31; refine (Hv.out _).mono ?_; rintro e w1 ⟨rfl, hb⟩; have Hb1 := Lib.hid (bstep HB0.out hb (Nat.le_refl _)); have Hblk1 := Lib.hid (Hblk0.out.below hb); have hc0 := Hblk1.out.cell 0 _ rfl; have hc1 := Hblk1.out.cell 1 _ rfl; have hf0 := Hblk1.out.frozen 0; have hf1 := Hblk1.out.frozen 1; have hz1 := Hblk1.out.lt; clear hb))
    have Hblk2 := (Hblk1.out.set 0 (.slice none 0 0)).set 1 (.int .i64 0)
    have g0 := Hblk2.cell 0 _ rfl
    have g1 := Hblk2.cell 1 _ rfl
    refine bodyPost_ret (v := .tuple #[.agg #[.slice none 0 0, .int .i64 0], .int .i64 7]) (by simp [results, Tryd.results7, go_sem, g0, g1]) rfl ⟨_, rfl, Own.nil _ _ _ _, ?_⟩
    exact (Hb1.out.setCell (Nat.le_refl _) _).setCell (Nat.le_refl _) _
  · have hvv := vS_iff.1 hv
    have h12 : s.size ≤ 12 := by rw [← Hll.out]; exact hvv.2.1
    rw [hv] at Hv
    by_cases h2 : s.size < 2
    · have d2 : decide ((s.size : Int) < 2) = true := by simp; omega
      have d2' : decide (s.size < 2) = true := by simp [h2]
      rw [show draftR l st = ([], 0, 7) by rw [draftR, Hll.out]; simp; omega]
      clear hv hvv
      go_enter Tryd.func7, Tryd.ntmps7
      go_wp2_with (first | (go_at_call 31; refine (Hv.out _).mono ?_; rintro e w1 ⟨rfl, hb⟩; have Hb1 := Lib.hid (bstep HB0.out hb (Nat.le_refl _)); have Hblk1 := Lib.hid (Hblk0.out.below hb); have hc0 := Hblk1.out.cell 0 _ rfl; have hc1 := Hblk1.out.cell 1 _ rfl; have hf0 := Hblk1.out.frozen 0; have hf1 := Hblk1.out.frozen 1; have hz1 := Hblk1.out.lt; clear hb))
      have Hblk2 := (Hblk1.out.set 0 (.slice none 0 0)).set 1 (.int .i64 0)
      have g0 := Hblk2.cell 0 _ rfl
      have g1 := Hblk2.cell 1 _ rfl
      refine bodyPost_ret (v := .tuple #[.agg #[.slice none 0 0, .int .i64 0], .int .i64 7]) (by simp [results, Tryd.results7, go_sem, g0, g1]) rfl ⟨_, rfl, Own.nil _ _ _ _, ?_⟩
      exact (Hb1.out.setCell (Nat.le_refl _) _).setCell (Nat.le_refl _) _
    · have d2 : decide ((s.size : Int) < 2) = false := by simp; omega
      have d2' : decide (s.size < 2) = false := by simp; omega
      have e2 : decide (2 ≤ l.length) = true := by rw [Hll.out]; simp; omega
      cases h3 : inB st 1 ((s.size : Int) - 1)
      · rw [show draftR l st = ([], 0, 2) by rw [draftR, hv, e2, Hll.out, h3]; rfl]
        clear hv e2 hvv
        go_enter Tryd.func7, Tryd.ntmps7
        go_wp2_with (first | (go_at_call 31; refine (Hv.out _).mono ?_; rintro e w1 ⟨rfl, hb⟩; have Hb1 := Lib.hid (bstep HB0.out hb (Nat.le_refl _)); have Hblk1 := Lib.hid (Hblk0.out.below hb); have hc0 := Hblk1.out.cell 0 _ rfl; have hc1 := Hblk1.out.cell 1 _ rfl; have hf0 := Hblk1.out.frozen 0; have hf1 := Hblk1.out.frozen 1; have hz1 := Hblk1.out.lt; clear hb) | (go_at_call 32; refine (l00In_any _ _ _ _).mono ?_; rintro e w2 ⟨rfl, rfl⟩))
        have Hblk2 := (Hblk1.out.set 0 (.slice none 0 0)).set 1 (.int .i64 0)
        have g0 := Hblk2.cell 0 _ rfl
        have g1 := Hblk2.cell 1 _ rfl
        refine bodyPost_ret (v := .tuple #[.agg #[.slice none 0 0, .int .i64 0], .int .i64 2]) (by simp [results, Tryd.results7, go_sem, g0, g1]) rfl ⟨_, rfl, Own.nil _ _ _ _, ?_⟩
        exact (Hb1.out.setCell (Nat.le_refl _) _).setCell (Nat.le_refl _) _
      · have h4 := inB_iff.1 h3
        have hso := bothB_isSome hvv.2.2 (by omega)
        have Ht := Lib.hid (fun W => (l09Turn_any s W h12).mono (fun e w' h => (⟨h.1, by obtain ⟨q, hq⟩ := h.2; rw [hq]; exact bdrewN (Below.refl _ _) q⟩ : _ ∧ Below W.heap.size W w')))
        rw [← Hl.out, hso] at Ht
        cases hb : bothB l
        · rw [show draftR l st = ([], 0, 6) by rw [draftR, hv, e2, Hll.out, h3, hb]; rfl]
          rw [hb] at Ht
          clear hv e2 hvv hb hso
          generalize str (turnT l) = T at *
          go_enter Tryd.func7, Tryd.ntmps7
          go_wp2_with (first | (go_at_call 31; refine (Hv.out _).mono ?_; rintro e w1 ⟨rfl, hb⟩; have Hb1 := Lib.hid (bstep HB0.out hb (Nat.le_refl _)); have Hblk1 := Lib.hid (Hblk0.out.below hb); have hc0 := Hblk1.out.cell 0 _ rfl; have hc1 := Hblk1.out.cell 1 _ rfl; have hf0 := Hblk1.out.frozen 0; have hf1 := Hblk1.out.frozen 1; have hz1 := Hblk1.out.lt; clear hb) | (go_at_call 32; refine (l00In_any _ _ _ _).mono ?_; rintro e w2 ⟨rfl, rfl⟩) | (go_at_call 33; refine (Ht.out _).mono ?_; rintro e w3 ⟨rfl, hb3⟩; have Hb3 := Lib.hid (bstep Hb1.out hb3 (Nat.le_refl _)); have Hblk3 := Lib.hid (Hblk1.out.below hb3); have hd0 := Hblk3.out.cell 0 _ rfl; have hd1 := Hblk3.out.cell 1 _ rfl; have he0 := Hblk3.out.frozen 0; have he1 := Hblk3.out.frozen 1; have hz3 := Hblk3.out.lt; clear hb3))
          have Hblk2 := (Hblk3.out.set 0 (.slice none 0 0)).set 1 (.int .i64 0)
          have g0 := Hblk2.cell 0 _ rfl
          have g1 := Hblk2.cell 1 _ rfl
          refine bodyPost_ret (v := .tuple #[.agg #[.slice none 0 0, .int .i64 0], .int .i64 6]) (by simp [results, Tryd.results7, go_sem, g0, g1]) rfl ⟨_, rfl, Own.nil _ _ _ _, ?_⟩
          exact (Hb3.out.setCell (Nat.le_refl _) _).setCell (Nat.le_refl _) _
        · rw [show draftR l st = (partsW (turnT l), st, 0) by rw [draftR, hv, e2, Hll.out, h3, hb]; rfl]
          obtain ⟨i0, hi⟩ := bothB_good hvv.2.2 hb
          have htl : (turnT l).length = s.size := by unfold turnT; rw [hi]; show (turnW l i0).length = _; rw [turnW_len, Hll.out]
          obtain ⟨T, HT⟩ : ∃ T, Hid (T = str (turnT l)) := ⟨_, rfl⟩
          have hTs : T.size = s.size := by rw [HT.out, str_size, htl]
          have Hd := Lib.hid (fun W => by
            have h := l09Draft_any T st W (by omega) (by omega)
            rw [show T.data.toList = turnT l by rw [HT.out, str_list]] at h
            exact h)
          rw [hb, ← HT.out] at Ht
          clear hv e2 hvv hb hi hso htl
          generalize partsW (turnT l) = PW at *
          go_enter Tryd.func7, Tryd.ntmps7
          go_wp2_with (first | (go_at_call 31; refine (Hv.out _).mono ?_; rintro e w1 ⟨rfl, hb⟩; have Hb1 := Lib.hid (bstep HB0.out hb (Nat.le_refl _)); have Hblk1 := Lib.hid (Hblk0.out.below hb); have hc0 := Hblk1.out.cell 0 _ rfl; have hc1 := Hblk1.out.cell 1 _ rfl; have hf0 := Hblk1.out.frozen 0; have hf1 := Hblk1.out.frozen 1; have hz1 := Hblk1.out.lt; clear hb) | (go_at_call 32; refine (l00In_any _ _ _ _).mono ?_; rintro e w2 ⟨rfl, rfl⟩) | (go_at_call 33; refine (Ht.out _).mono ?_; rintro e w3 ⟨rfl, hb3⟩; have Hb3 := Lib.hid (bstep Hb1.out hb3 (Nat.le_refl _)); have Hblk3 := Lib.hid (Hblk1.out.below hb3); have hd0 := Hblk3.out.cell 0 _ rfl; have hd1 := Hblk3.out.cell 1 _ rfl; have he0 := Hblk3.out.frozen 0; have he1 := Hblk3.out.frozen 1; have hz3 := Hblk3.out.lt; clear hb3) | (go_at_call 34; refine (Hd.out _).mono ?_; rintro e w5 ⟨v, rfl, ho, hb5⟩; have Ho := Lib.hid ho; have Hb5 := Lib.hid (bstep Hb3.out hb5 (Nat.le_refl _)); have Hblk5 := Lib.hid (Hblk3.out.below hb5); have hsz1 := Hb3.out.size; obtain ⟨a5, c5, rfl, hr5⟩ := ho.sliceI; have hk0 := Hblk5.out.cell 0 _ rfl; have hk1 := Hblk5.out.cell 1 _ rfl; have hg0 := Hblk5.out.frozen 0; have hg1 := Hblk5.out.frozen 1; have hz5 := Hblk5.out.lt; clear hr5 ho hb5))
          have Hblk2 := (Hblk5.out.set 0 (.slice a5 PW.length c5)).set 1 (.int .i64 st)
          have g0 := Hblk2.cell 0 _ rfl
          have g1 := Hblk2.cell 1 _ rfl
          refine bodyPost_ret (v := .tuple #[.agg #[.slice a5 PW.length c5, .int .i64 st], .int .i64 0]) (by simp [results, Tryd.results7, go_sem, g0, g1]) rfl ⟨_, rfl, ?_, ?_⟩
          · exact ((Ho.out.set (by omega) 0 _).set (by omega) 1 _).mono hsz1 (by simp)
          · exact (Hb5.out.setCell (Nat.le_refl _) _).setCell (Nat.le_refl _) _
end Go.Proofs.YtggbnibdpkblgaaDoor
