/-
  Drafts for rows, by walks.
-/
import Derived.Test.YtggbnibdpkblgaaDoorDraft3
namespace Go.Proofs.YtggbnibdpkblgaaDoor
open Go.RowKit
set_option linter.unusedVariables false
set_option maxRecDepth 100000

def draftR (l : List UInt8) (st : Int) : List Int × Int × Int :=
  if vS l && decide (2 ≤ l.length) then if inB st 1 ((l.length : Int) - 1) then if bothB l then (partsW (turnT l), st, 0) else ([], 0, 6) else ([], 0, 2) else ([], 0, 7)
/-- a draft as a result, with a code -/
def RetTC (w : World) (e : TypeId) (R : List Int × Int × Int) (en : Ending) (w' : World) : Prop :=
  ∃ v : Value, en = .returned (.tuple #[.agg #[v, .int .i64 R.2.1], .int .i64 R.2.2]) ∧ Own w' w.heap.size w'.heap.size e v (ints R.1) ∧ Below w.heap.size w w'
theorem bothB_good {l : List UInt8} (h2 : two 70 66 l = true) (h : bothB l = true) : ∃ i, goodI l = some i := by
  unfold bothB at h
  simp only [Bool.and_eq_true, decide_eq_true_eq] at h
  exact good_both h2 h.1 h.2
theorem bothB_isSome {l : List UInt8} (h2 : two 70 66 l = true) (h0 : 0 < l.length) : (goodI l).isSome = bothB l := by
  cases hb : bothB l
  · cases hg : goodI l with
    | none => rfl
    | some i =>
      have h := good_both' h0 hg
      rw [show bothB l = true by unfold bothB; rw [decide_eq_true h.1, decide_eq_true h.2]; rfl] at hb
      exact absurd hb (by simp)
  · obtain ⟨i, hi⟩ := bothB_good h2 hb
    rw [hi]; rfl

set_option maxHeartbeats 2000000 in
theorem draftFor_any (s : ByteArray) (st : Int) (w : World) (hs : s.size ≤ maxLen) :
    Calls Tryd.prog 6 #[.string s, .int .i64 st] w (RetTC w 2 (draftR s.data.toList st)) := by
  obtain ⟨l, Hl⟩ : ∃ l, Hid (l = s.data.toList) := ⟨_, rfl⟩
  have Hll := Lib.hid (show l.length = s.size by rw [Hl.out, size_list])
  have Hv := Lib.hid (fun W => validStroke_any s W hs)
  have Hk := Lib.hid (fun W => bothKinds_any s W)
  rw [← Hl.out] at Hv Hk ⊢
  have hm : s.size ≤ 9223372036854775807 := by unfold maxLen at hs; omega
  have Hblk0 := Lib.hid (Blk.box w [.slice none 0 0, .int .i64 0] 28 rfl)
  have HB0 := Lib.hid (show Below w.heap.size w (w.alloc (.cells #[.slice none 0 0, .int .i64 0] 28)) from (Below.refl _ _).alloc (Nat.le_refl _) _)
  by_cases h2 : s.size < 2
  · have d2 : decide ((s.size : Int) < 2) = true := by simp; omega
    rw [show draftR l st = ([], 0, 7) by rw [draftR, Hll.out]; simp; omega]
    go_enter Tryd.func6, Tryd.ntmps6
    go_wp2
    refine bodyPost_ret (v := .tuple #[.agg #[.slice none 0 0, .int .i64 0], .int .i64 7]) (by simp [results, Tryd.results6, go_sem]) rfl ⟨_, rfl, Own.nil _ _ _ _, HB0.out⟩
  · have d2 : decide ((s.size : Int) < 2) = false := by simp; omega
    have d2' : decide (s.size < 2) = false := by simp; omega
    have e2 : decide (2 ≤ l.length) = true := by rw [Hll.out]; simp; omega
    cases hv : vS l
    · rw [show draftR l st = ([], 0, 7) by rw [draftR, hv]; rfl]
      rw [hv] at Hv
      clear hv e2
      go_enter Tryd.func6, Tryd.ntmps6
      go_wp2_with (first | (go_at_call 27; refine (Hv.out _).mono ?_; rintro e w1 ⟨rfl, hb⟩; have Hb1 := Lib.hid (bstep HB0.out hb (Nat.le_refl _)); have Hblk1 := Lib.hid (Hblk0.out.below hb); have hc0 := Hblk1.out.cell 0 _ rfl; have hc1 := Hblk1.out.cell 1 _ rfl; have hf0 := Hblk1.out.frozen 0; have hf1 := Hblk1.out.frozen 1; have hz1 := Hblk1.out.lt; clear hb))
      have Hblk2 := (Hblk1.out.set 0 (.slice none 0 0)).set 1 (.int .i64 0)
      have g0 := Hblk2.cell 0 _ rfl
      have g1 := Hblk2.cell 1 _ rfl
      refine bodyPost_ret (v := .tuple #[.agg #[.slice none 0 0, .int .i64 0], .int .i64 7]) (by simp [results, Tryd.results6, go_sem, g0, g1]) rfl ⟨_, rfl, Own.nil _ _ _ _, ?_⟩
      exact ((Hb1.out.setCell (Nat.le_refl _) _).setCell (Nat.le_refl _) _)
    · have hvv := vS_iff.1 hv
      rw [hv] at Hv
      have h12 : s.size ≤ 12 := by rw [← Hll.out]; exact hvv.2.1
      cases h3 : inB st 1 ((s.size : Int) - 1)
      · rw [show draftR l st = ([], 0, 2) by rw [draftR, hv, e2, Hll.out, h3]; rfl]
        clear hv e2 hvv
        go_enter Tryd.func6, Tryd.ntmps6
        go_wp2_with (first | (go_at_call 27; refine (Hv.out _).mono ?_; rintro e w1 ⟨rfl, hb⟩; have Hb1 := Lib.hid (bstep HB0.out hb (Nat.le_refl _)); have Hblk1 := Lib.hid (Hblk0.out.below hb); have hc0 := Hblk1.out.cell 0 _ rfl; have hc1 := Hblk1.out.cell 1 _ rfl; have hf0 := Hblk1.out.frozen 0; have hf1 := Hblk1.out.frozen 1; have hz1 := Hblk1.out.lt; clear hb) | (go_at_call 28; refine (within_any _ _ _ _).mono ?_; rintro e w2 ⟨rfl, rfl⟩))
        have Hblk2 := (Hblk1.out.set 0 (.slice none 0 0)).set 1 (.int .i64 0)
        have g0 := Hblk2.cell 0 _ rfl
        have g1 := Hblk2.cell 1 _ rfl
        refine bodyPost_ret (v := .tuple #[.agg #[.slice none 0 0, .int .i64 0], .int .i64 2]) (by simp [results, Tryd.results6, go_sem, g0, g1]) rfl ⟨_, rfl, Own.nil _ _ _ _, ?_⟩
        exact ((Hb1.out.setCell (Nat.le_refl _) _).setCell (Nat.le_refl _) _)
      · have h4 := inB_iff.1 h3
        cases hb : bothB l
        · rw [show draftR l st = ([], 0, 6) by rw [draftR, hv, e2, Hll.out, h3, hb]; rfl]
          rw [hb] at Hk
          clear hv e2 hvv hb
          go_enter Tryd.func6, Tryd.ntmps6
          go_wp2_with (first | (go_at_call 27; refine (Hv.out _).mono ?_; rintro e w1 ⟨rfl, hb⟩; have Hb1 := Lib.hid (bstep HB0.out hb (Nat.le_refl _)); have Hblk1 := Lib.hid (Hblk0.out.below hb); have hc0 := Hblk1.out.cell 0 _ rfl; have hc1 := Hblk1.out.cell 1 _ rfl; have hf0 := Hblk1.out.frozen 0; have hf1 := Hblk1.out.frozen 1; have hz1 := Hblk1.out.lt; clear hb) | (go_at_call 28; refine (within_any _ _ _ _).mono ?_; rintro e w2 ⟨rfl, rfl⟩) | (go_at_call 29; refine (Hk.out _).mono ?_; rintro e w3 ⟨rfl, rfl⟩))
          have Hblk2 := (Hblk1.out.set 0 (.slice none 0 0)).set 1 (.int .i64 0)
          have g0 := Hblk2.cell 0 _ rfl
          have g1 := Hblk2.cell 1 _ rfl
          refine bodyPost_ret (v := .tuple #[.agg #[.slice none 0 0, .int .i64 0], .int .i64 6]) (by simp [results, Tryd.results6, go_sem, g0, g1]) rfl ⟨_, rfl, Own.nil _ _ _ _, ?_⟩
          exact ((Hb1.out.setCell (Nat.le_refl _) _).setCell (Nat.le_refl _) _)
        · rw [show draftR l st = (partsW (turnT l), st, 0) by rw [draftR, hv, e2, Hll.out, h3, hb]; rfl]
          obtain ⟨i0, hi⟩ := bothB_good hvv.2.2 hb
          have Hd := Lib.hid (fun W => by
            have h := draftOf_any s st W i0 (by rw [← Hl.out]; exact hi) (by omega) h12
            rw [← Hl.out] at h
            exact h)
          rw [hb] at Hk
          clear hv e2 hvv hb hi
          generalize partsW (turnT l) = PW at *
          go_enter Tryd.func6, Tryd.ntmps6
          go_wp2_with (first | (go_at_call 27; refine (Hv.out _).mono ?_; rintro e w1 ⟨rfl, hb⟩; have Hb1 := Lib.hid (bstep HB0.out hb (Nat.le_refl _)); have Hblk1 := Lib.hid (Hblk0.out.below hb); have hc0 := Hblk1.out.cell 0 _ rfl; have hc1 := Hblk1.out.cell 1 _ rfl; have hf0 := Hblk1.out.frozen 0; have hf1 := Hblk1.out.frozen 1; have hz1 := Hblk1.out.lt; clear hb) | (go_at_call 28; refine (within_any _ _ _ _).mono ?_; rintro e w2 ⟨rfl, rfl⟩) | (go_at_call 29; refine (Hk.out _).mono ?_; rintro e w3 ⟨rfl, rfl⟩) | (go_at_call 30; refine (Hd.out _).mono ?_; rintro e w5 ⟨v, rfl, ho, hb5⟩; have Ho := Lib.hid ho; have Hb5 := Lib.hid (bstep Hb1.out hb5 (Nat.le_refl _)); have Hblk5 := Lib.hid (Hblk1.out.below hb5); have hsz1 := Hb1.out.size; obtain ⟨a5, c5, rfl, hr5⟩ := ho.sliceI; have hd0 := Hblk5.out.cell 0 _ rfl; have hd1 := Hblk5.out.cell 1 _ rfl; have hg0 := Hblk5.out.frozen 0; have hg1 := Hblk5.out.frozen 1; have hz5 := Hblk5.out.lt; clear hr5 ho hb5))
          have Hblk2 := (Hblk5.out.set 0 (.slice a5 PW.length c5)).set 1 (.int .i64 st)
          have g0 := Hblk2.cell 0 _ rfl
          have g1 := Hblk2.cell 1 _ rfl
          refine bodyPost_ret (v := .tuple #[.agg #[.slice a5 PW.length c5, .int .i64 st], .int .i64 0]) (by simp [results, Tryd.results6, go_sem, g0, g1]) rfl ⟨_, rfl, ?_, ?_⟩
          · exact ((Ho.out.set (by omega) 0 _).set (by omega) 1 _).mono hsz1 (by simp)
          · exact (Hb5.out.setCell (Nat.le_refl _) _).setCell (Nat.le_refl _) _
end Go.Proofs.YtggbnibdpkblgaaDoor
