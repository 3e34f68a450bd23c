/-
  Twills, on: the share in front, by walks.
-/
import Derived.Test.YtggbnibdpkblgaaDoorTwill7
namespace Go.Proofs.YtggbnibdpkblgaaDoor
open Go.RowKit
set_option linter.unusedVariables false

abbrev rtF (p : Int × Int × Int) : Ending := .returned (.tuple #[.agg #[.int .i64 p.1, .int .i64 p.2.1], .int .i64 p.2.2])
def frontT (l : List UInt8) : Nat := l.count 70
theorem frontT_le (l : List UInt8) : frontT l ≤ l.length := List.count_le_length
def shareR (xs : List Int) (st : Int) : Int × Int × Int :=
  if vTwill xs st then (lowN (frontT (rowW xs)) (rowW xs).length, lowD (frontT (rowW xs)) (rowW xs).length, 0) else (0, 0, 1)


theorem l09Front_any (s : ByteArray) (w : World) (hs1 : s.size ≤ 1000) :
    Calls Tryd.prog 44 #[.string s] w fun e w' => e = .returned (.int .i64 (frontT s.data.toList : Nat)) ∧ w = w' := by
  obtain ⟨l, Hl⟩ : ∃ l, Hid (l = s.data.toList) := ⟨_, rfl⟩
  have Hll := Lib.hid (show l.length = s.size by rw [Hl.out, size_list])
  rw [← Hl.out]
  have Hg := Lib.hid (fun k (hk : k < s.size) => show s[k]'hk = l.getD k 0 by
    have h2 : k < s.data.toList.length := hk
    rw [Hl.out]
    simp only [List.getD_eq_getElem?_getD, List.getElem?_eq_getElem h2, Option.getD_some, Array.getElem_toList]
    rfl)
  go_enter Tryd.func44, Tryd.ntmps44
  go_wp2
  go_loop [3, 4] (fun q i => ∃ k : Nat, k ≤ s.size ∧ i = .int .i64 k ∧ ∃ A : Nat, q = .int .i64 A ∧ A ≤ k ∧ Hid (A = (l.take k).count 70)) (fun _ i => s.size - (intOf i).toNat)
  case atStart => exact ⟨0, Nat.zero_le _, rfl, 0, rfl, by omega, Lib.hid (by simp)⟩
  case round =>
    obtain ⟨k, hk, rfl, A, rfl, hA, HA⟩ := hrel
    by_cases hlt : k < s.size
    · have Hst := Lib.hid (show (l.take (k + 1)).count 70 = (l.take k).count 70 + (if l.getD k 0 = 70 then 1 else 0) by
        rw [take_snoc' (d := 0) (by rw [Hll.out]; exact hlt), List.count_append]
        congr 1
        simp only [List.count_singleton, beq_iff_eq])
      by_cases hc : s[k]'hlt = 70
      · have e1 : (((s[k]'hlt).toNat : Int) == 70) = true := by rw [hc]; rfl
        have e1' : ((s[k]'hlt).toNat == 70) = true := by rw [hc]; rfl
        have Hc := Lib.hid (show l.getD k 0 = 70 by rw [← Hg.out k hlt]; exact hc)
        clear hc
        go_wp2
        go_round
        case rel => exact ⟨k + 1, by omega, by go_num, A + 1, by go_num, by omega, Lib.hid (by rw [Hst.out, if_pos Hc.out, HA.out])⟩
        case measure => simp [intOf]; omega
      · have hcn : (s[k]'hlt).toNat ≠ 70 := fun h => hc (UInt8.toNat_inj.1 h)
        have e1 : (((s[k]'hlt).toNat : Int) == 70) = false := by simp; omega
        have e1' : ((s[k]'hlt).toNat == 70) = false := by simp [hcn]
        have Hc := Lib.hid (show ¬ l.getD k 0 = 70 by rw [← Hg.out k hlt]; exact hc)
        clear hc hcn
        go_wp2
        go_round
        case rel => exact ⟨k + 1, by omega, by go_num, A, rfl, by omega, Lib.hid (by rw [Hst.out, if_neg Hc.out, HA.out]; rfl)⟩
        case measure => simp [intOf]; omega
    · have hkn : k = s.size := by omega
      have Hf := Lib.hid (show A = frontT l by rw [HA.out, hkn, frontT, List.take_of_length_le (by rw [Hll.out]; omega)])
      clear hkn
      go_wp2
      go_ret
      have e1 := Hf.out
      subst e1
      exact ⟨rfl, rfl⟩

set_option maxHeartbeats 2000000 in
theorem shareFront_any (a : Option Addr) (n c : Nat) (xs : List Int) (st : Int) (w : World) (ha : RV w a n c (ints xs)) :
    Calls Tryd.prog 12 #[.agg #[.slice a n c, .int .i64 st]] w fun e w' => e = rtF (shareR xs st) ∧ Below w.heap.size w w' := by
  have hA0 : TwAt ((w.alloc (.cells #[.slice a n c, .int .i64 st] 28)).alloc (.cells #[.int .i64 0, .int .i64 0] 35)) w.heap.size a n c xs st := by
    obtain ⟨h1, h2, h3⟩ := TwAt.boxed st 28 ha
    have hb : Below (w.alloc (.cells #[.slice a n c, .int .i64 st] 28)).heap.size (w.alloc (.cells #[.slice a n c, .int .i64 st] 28)) ((w.alloc (.cells #[.slice a n c, .int .i64 st] 28)).alloc (.cells #[.int .i64 0, .int .i64 0] 35)) := (Below.refl _ _).alloc (Nat.le_refl _) _
    exact ⟨(hb.cell (p := ⟨w.heap.size, 0, none⟩) (by simp)).trans h1, (hb.cell (p := ⟨w.heap.size, 1, none⟩) (by simp)).trans h2, h3.below hb⟩
  have HA := Lib.hid hA0
  have HB : Hid (Below w.heap.size w ((w.alloc (.cells #[.slice a n c, .int .i64 st] 28)).alloc (.cells #[.int .i64 0, .int .i64 0] 35))) := Lib.hid (((Below.refl _ _).alloc (Nat.le_refl _) _).alloc (by simp) _)
  clear hA0
  cases hv : vTwill xs st
  · rw [show shareR xs st = (0, 0, 1) by simp [shareR, hv]]
    have Hvt := Lib.hid (by
      have h := fun W h => validTwill_any a n c xs st W h
      rw [hv] at h
      exact h)
    clear ha hv
    go_enter Tryd.func12, Tryd.ntmps12
    go_wp2_with (go_at_call 36; refine (Hvt.out _ (by exact HA.out.2.2)).mono ?_; rintro e w1 ⟨rfl, hb1⟩; obtain ⟨hc1, hf1⟩ := bcell hb1; have HB1 := Lib.hid (bstep HB.out hb1 (by simp)); have hz1 : w.heap.size + 1 < w1.heap.size := (by have := hb1.size; simp at this; omega))
    refine bodyPost_ret (v := .tuple #[.agg #[.int .i64 0, .int .i64 0], .int .i64 1]) (by simp [results, Tryd.results12, go_sem, hc1]) rfl ⟨rfl, ?_⟩
    exact (HB1.out.setCell (by simp) _).setCell (by simp) _
  · obtain ⟨he, h7, hN0, hN1, hst0, hst1⟩ := row_facts hv
    obtain ⟨l, Hl⟩ : ∃ l, Hid (l = rowW xs) := ⟨_, rfl⟩
    obtain ⟨N, HN⟩ : ∃ N, Hid (N = l.length) := ⟨_, rfl⟩
    rw [← Hl.out, ← HN.out] at hN0 hN1 hst1
    obtain ⟨s, Hs⟩ : ∃ s, Hid (s = str l) := ⟨_, rfl⟩
    have hsN : s.size = N := by rw [Hs.out, str_size, HN.out]
    have hsl : s.data.toList = l := by rw [Hs.out, str_list]
    obtain ⟨F, HF⟩ : ∃ F, Hid (F = frontT l) := ⟨_, rfl⟩
    have hF : F ≤ N := by rw [HF.out, HN.out]; exact frontT_le l
    obtain ⟨X, HX⟩ : ∃ X, Hid (X = lowN (F : Int) (N : Int)) := ⟨_, rfl⟩
    obtain ⟨Y, HY⟩ : ∃ Y, Hid (Y = lowD (F : Int) (N : Int)) := ⟨_, rfl⟩
    rw [show shareR xs st = (X, Y, 0) by unfold shareR; rw [if_pos hv, ← Hl.out, ← HN.out, ← HF.out, ← HX.out, ← HY.out]]
    have Hvt := Lib.hid (by
      have h := fun W h => validTwill_any a n c xs st W h
      rw [hv] at h
      exact h)
    have Hrow := Lib.hid (by
      have h := fun W h => rowOf_any a n c xs st W he h7 h
      rw [← Hl.out, ← Hs.out] at h
      exact h)
    have Hcnt := Lib.hid (fun (W : World) => by
      have h := Tryd.strings_Count_one s 70 W
      rw [hsl, show Lib.countByte l 70 = F from HF.out.symm] at h
      exact h)
    have Hlow := Lib.hid (fun (W : World) => by
      have h := lowest_exact (F : Int) (N : Int) W (by omega) (by omega) (by omega) (by omega)
      rw [← HX.out, ← HY.out] at h
      exact h)
    clear ha hv he h7 hsl
    go_enter Tryd.func12, Tryd.ntmps12
    go_wp2_with (first | (go_at_call 36; refine (Hvt.out _ (by exact HA.out.2.2)).mono ?_; rintro e w1 ⟨rfl, hb1⟩; obtain ⟨hc1, hf1⟩ := bcell hb1; have HRV := Lib.hid (HA.out.2.2.below hb1); have HB1 := Lib.hid (bstep HB.out hb1 (by simp)); have hz1 : w.heap.size + 1 < w1.heap.size := (by have := hb1.size; simp at this; omega); have hy1 : w.heap.size < w1.heap.size := (by omega)) | (go_at_call 37; refine (Hrow.out _ (by exact HRV.out)).mono ?_; rintro e w2 ⟨rfl, hb2⟩; obtain ⟨hc2, hf2⟩ := bcell hb2; have HB2 := Lib.hid (bstep HB1.out hb2 (Nat.le_refl _)); have hz2 : w.heap.size + 1 < w2.heap.size := (by have := hb2.size; omega)) | (go_at_call 42; refine (Hcnt.out _).mono ?_; rintro e w3 ⟨rfl, rfl⟩) | (go_at_call 41; refine (Hlow.out _).mono ?_; rintro e w4 ⟨rfl, m, rfl⟩))
    refine bodyPost_ret (v := .tuple #[.agg #[.int .i64 X, .int .i64 Y], .int .i64 0]) (by simp [results, Tryd.results12, go_sem, hc2, hc1, hz1, hz2]) rfl ⟨rfl, ?_⟩
    exact (by repeat' (first | (with_reducible exact HB2.out) | (with_reducible exact Below.refl _ _) | (with_reducible refine bdrewN ?_ _) | (with_reducible refine Below.drew ?_) | (with_reducible refine Below.setCell ?_ ?_ _) | (with_reducible refine Below.alloc ?_ ?_ _) | omega | (simp; done) | (simp; omega)))

set_option maxHeartbeats 2000000 in
theorem specShareFront_any (a : Option Addr) (n c : Nat) (xs : List Int) (st : Int) (w : World) (ha : RV w a n c (ints xs)) :
    Calls Tryd.prog 13 #[.agg #[.slice a n c, .int .i64 st]] w fun e w' => e = rtF (shareR xs st) ∧ Below w.heap.size w w' := by
  have hA0 : TwAt ((w.alloc (.cells #[.slice a n c, .int .i64 st] 28)).alloc (.cells #[.int .i64 0, .int .i64 0] 35)) w.heap.size a n c xs st := by
    obtain ⟨h1, h2, h3⟩ := TwAt.boxed st 28 ha
    have hb : Below (w.alloc (.cells #[.slice a n c, .int .i64 st] 28)).heap.size (w.alloc (.cells #[.slice a n c, .int .i64 st] 28)) ((w.alloc (.cells #[.slice a n c, .int .i64 st] 28)).alloc (.cells #[.int .i64 0, .int .i64 0] 35)) := (Below.refl _ _).alloc (Nat.le_refl _) _
    exact ⟨(hb.cell (p := ⟨w.heap.size, 0, none⟩) (by simp)).trans h1, (hb.cell (p := ⟨w.heap.size, 1, none⟩) (by simp)).trans h2, h3.below hb⟩
  have HA := Lib.hid hA0
  have HB : Hid (Below w.heap.size w ((w.alloc (.cells #[.slice a n c, .int .i64 st] 28)).alloc (.cells #[.int .i64 0, .int .i64 0] 35))) := Lib.hid (((Below.refl _ _).alloc (Nat.le_refl _) _).alloc (by simp) _)
  clear hA0
  cases hv : vTwill xs st
  · rw [show shareR xs st = (0, 0, 1) by simp [shareR, hv]]
    have Hvt := Lib.hid (by
      have h := fun W h => l09Ok_any w.heap.size a n c xs st W h
      rw [hv] at h
      exact h)
    clear ha hv
    go_enter Tryd.func13, Tryd.ntmps13
    go_wp2_with (go_at_call 38; refine (Hvt.out _ (by exact HA.out)).mono ?_; rintro e w1 ⟨rfl, q0, rfl⟩)
    refine bodyPost_ret (v := .tuple #[.agg #[.int .i64 0, .int .i64 0], .int .i64 1]) (by simp [results, Tryd.results13, go_sem]) rfl ⟨rfl, ?_⟩
    exact bdrewN HB.out q0
  · obtain ⟨he, h7, hN0, hN1, hst0, hst1⟩ := row_facts hv
    obtain ⟨l, Hl⟩ : ∃ l, Hid (l = rowW xs) := ⟨_, rfl⟩
    obtain ⟨N, HN⟩ : ∃ N, Hid (N = l.length) := ⟨_, rfl⟩
    rw [← Hl.out, ← HN.out] at hN0 hN1 hst1
    obtain ⟨s, Hs⟩ : ∃ s, Hid (s = str l) := ⟨_, rfl⟩
    have hsN : s.size = N := by rw [Hs.out, str_size, HN.out]
    have hsl : s.data.toList = l := by rw [Hs.out, str_list]
    obtain ⟨F, HF⟩ : ∃ F, Hid (F = frontT l) := ⟨_, rfl⟩
    have hF : F ≤ N := by rw [HF.out, HN.out]; exact frontT_le l
    obtain ⟨X, HX⟩ : ∃ X, Hid (X = lowN (F : Int) (N : Int)) := ⟨_, rfl⟩
    obtain ⟨Y, HY⟩ : ∃ Y, Hid (Y = lowD (F : Int) (N : Int)) := ⟨_, rfl⟩
    rw [show shareR xs st = (X, Y, 0) by unfold shareR; rw [if_pos hv, ← Hl.out, ← HN.out, ← HF.out, ← HX.out, ← HY.out]]
    have Hvt := Lib.hid (by
      have h := fun W h => l09Ok_any w.heap.size a n c xs st W h
      rw [hv] at h
      exact h)
    have Hrow := Lib.hid (by
      have h := fun W h => l09Row_any w.heap.size a n c xs st W he h7 h
      rw [← Hl.out, ← Hs.out] at h
      exact h)
    have Hcnt := Lib.hid (fun (W : World) => by
      have h := l09Front_any s W (by omega)
      rw [hsl, ← HF.out] at h
      exact h)
    have Hlow := Lib.hid (fun (W : World) => by
      have h := l02Make_exact (F : Int) (N : Int) W (by omega) (by omega) (by omega) (by omega)
      rw [← HX.out, ← HY.out] at h
      exact h)
    clear ha hv he h7 hsl
    go_enter Tryd.func13, Tryd.ntmps13
    go_wp2_with (first | (go_at_call 38; refine (Hvt.out _ (by exact HA.out)).mono ?_; rintro e w1 ⟨rfl, q0, rfl⟩) | (go_at_call 39; refine (Hrow.out _ (by exact HA.out)).mono ?_; rintro e w2 ⟨rfl, rfl⟩) | (go_at_call 44; refine (Hcnt.out _).mono ?_; rintro e w3 ⟨rfl, rfl⟩) | (go_at_call 43; refine (Hlow.out _).mono ?_; rintro e w4 ⟨rfl, m, rfl⟩))
    refine bodyPost_ret (v := .tuple #[.agg #[.int .i64 X, .int .i64 Y], .int .i64 0]) (by simp [results, Tryd.results13, go_sem]) rfl ⟨rfl, ?_⟩
    exact (by repeat' (first | (with_reducible exact HB.out) | (with_reducible exact Below.refl _ _) | (with_reducible refine bdrewN ?_ _) | (with_reducible refine Below.drew ?_) | (with_reducible refine Below.setCell ?_ ?_ _) | (with_reducible refine Below.alloc ?_ ?_ _) | omega | (simp; done) | (simp; omega)))
end Go.Proofs.YtggbnibdpkblgaaDoor
