/-
  Strokes and drafts, by walks.
-/
import Derived.Test.YtggbnibdpkblgaaDoorCore
import Derived.Test.YtggbnibdpkblgaaDoorDraftPlain
import Derived.Test.YtggbnibdpkblgaaDoorShelf
import Derived.Shelf.Strings.SlTrimAscii
namespace Go.Proofs.YtggbnibdpkblgaaDoor
open Go.RowKit
set_option linter.unusedVariables false
set_option maxRecDepth 100000

theorem two_step {a b : UInt8} {l : List UInt8} {k : Nat} (h : two a b (l.take k) = true) (hk : k < l.length) (hc : l.getD k 0 = a ∨ l.getD k 0 = b) : two a b (l.take (k + 1)) = true := by
  rw [take_snocD (d := 0) hk]
  refine two_iff.2 fun c hx => ?_
  rcases List.mem_append.1 hx with hx | hx
  · exact two_iff.1 h c hx
  · simp at hx; subst hx; exact hc
theorem two_bad {a b : UInt8} {l : List UInt8} {k : Nat} (hk : k < l.length) (h1 : l.getD k 0 ≠ a) (h2 : l.getD k 0 ≠ b) : two a b l = false := by
  rw [← Bool.not_eq_true]
  intro h
  rcases two_iff.1 h _ (bat_mem hk) with e | e
  · exact h1 e
  · exact h2 e

set_option maxHeartbeats 1000000 in
theorem validStroke_any (s : ByteArray) (w : World) (hs : s.size ≤ maxLen) :
    Calls Tryd.prog 27 #[.string s] w fun e w' => e = .returned (.bool (vS s.data.toList)) ∧ Below w.heap.size w w' := by
  obtain ⟨l, Hl⟩ : ∃ l, Hid (l = s.data.toList) := ⟨_, rfl⟩
  have Hll := Lib.hid (show l.length = s.size by rw [Hl.out, size_list])
  rw [← Hl.out]
  obtain ⟨T, HT⟩ : ∃ T : ByteArray, Hid (T = str (Lib.trimS l [70, 66])) := ⟨_, rfl⟩
  have Htr := Lib.hid (fun (W : World) => by
    have h := Any.strings_Trim_laid Tryd.lays160 (by kernel_rfl) s ⟨#[70, 66]⟩ W (by unfold maxLen at hs; omega) (by decide) (ascii_of_all (by decide))
    rw [show (⟨(Lib.trimS s.data.toList (⟨#[70, 66]⟩ : ByteArray).data.toList).toArray⟩ : ByteArray) = T by rw [HT.out, Hl.out]; rfl] at h
    exact h)
  obtain ⟨N, hN⟩ : ∃ N, s.size = N := ⟨_, rfl⟩
  have hm : N ≤ 9223372036854775807 := by rw [← hN]; unfold maxLen at hs; omega
  rw [hN] at Hll
  have Hv := Lib.hid (show vS l = (decide (1 ≤ N) && decide (N ≤ 12) && two 70 66 l) by rw [vS, Hll.out])
  clear hs
  by_cases h1 : 1 ≤ N
  · have d1 : decide (1 ≤ (N : Int)) = true := by simp; omega
    have d1' : decide (1 ≤ N) = true := by simp [h1]
    by_cases h8 : N ≤ 12
    · have d8 : decide ((N : Int) ≤ 12) = true := by simp; omega
      have d8' : decide (N ≤ 12) = true := by simp [h8]
      cases h2 : two 70 66 l
      · have t1 : (T.toList == ([] : List UInt8)) = false := by rw [HT.out, str_toList]; simpa using trim_two' h2
        have t2 : (T.toList == (⟨#[]⟩ : ByteArray).toList) = false := by rw [show (⟨#[]⟩ : ByteArray).toList = [] from str_toList []]; exact t1
        rw [show vS l = false by rw [Hv.out, h2]; simp]
        clear h2 h1 h8
        go_enter Tryd.func27, Tryd.ntmps27
        go_wp2_with (go_at_call 58; refine (Htr.out _).mono ?_; rintro e w1 ⟨rfl, hb⟩)
        go_ret
        exact ⟨rfl, hb⟩
      · have t1 : (T.toList == ([] : List UInt8)) = true := by rw [HT.out, str_toList, trim_two h2]; rfl
        have t2 : (T.toList == (⟨#[]⟩ : ByteArray).toList) = true := by rw [show (⟨#[]⟩ : ByteArray).toList = [] from str_toList []]; exact t1
        rw [show vS l = true by rw [Hv.out, h2]; simp; omega]
        clear h2 h1 h8
        go_enter Tryd.func27, Tryd.ntmps27
        go_wp2_with (go_at_call 58; refine (Htr.out _).mono ?_; rintro e w1 ⟨rfl, hb⟩)
        go_ret
        exact ⟨rfl, hb⟩
    · have d8 : decide ((N : Int) ≤ 12) = false := by simp; omega
      have d8' : decide (N ≤ 12) = false := by simp [h8]
      rw [show vS l = false by rw [Hv.out, d8']; simp]
      go_enter Tryd.func27, Tryd.ntmps27
      go_wp2
      go_ret
      exact ⟨rfl, Below.refl _ _⟩
  · have d1 : decide (1 ≤ (N : Int)) = false := by simp; omega
    have d1' : decide (1 ≤ N) = false := by simp [h1]
    rw [show vS l = false by rw [Hv.out, d1']; simp]
    go_enter Tryd.func27, Tryd.ntmps27
    go_wp2
    go_ret
    exact ⟨rfl, Below.refl _ _⟩

set_option maxHeartbeats 1000000 in
theorem l06Ok_any (s : ByteArray) (w : World) (hs : s.size ≤ maxLen) :
    Calls Tryd.prog 31 #[.string s] w fun e w' => e = .returned (.bool (vS s.data.toList)) ∧ ∃ q, w' = w.drewN q := by
  obtain ⟨l, Hl⟩ : ∃ l, Hid (l = s.data.toList) := ⟨_, rfl⟩
  have Hll := Lib.hid (show l.length = s.size by rw [Hl.out, size_list])
  rw [← Hl.out]
  have hm : s.size ≤ 9223372036854775807 := by unfold maxLen at hs; omega
  have Hv := Lib.hid (show vS l = (inB s.size 1 12 && two 70 66 l) by
    rw [vS, Hll.out, inB]
    congr 1
    congr 1
    · apply decide_eq_decide.2; omega
    · apply decide_eq_decide.2; omega)
  have Hg := Lib.hid (fun k (hk : k < s.size) => show s[k]'hk = l.getD k 0 by
    have h2 : k < s.data.toList.length := hk
    rw [Hl.out]
    simp only [List.getD_eq_getElem?_getD, List.getElem?_eq_getElem h2, Option.getD_some, Array.getElem_toList]
    rfl)
  clear hs
  go_enter Tryd.func31, Tryd.ntmps31
  go_wp2
  go_loopw [3] (fun i wr => ∃ k : Nat, k ≤ s.size ∧ i = .int .i64 k ∧ Hid (two 70 66 (l.take k) = true) ∧ ∃ q, Hid (wr = w.drewN q)) (fun i _ => s.size - (intOf i).toNat)
  case atStart => exact ⟨0, Nat.zero_le _, rfl, Lib.hid (by simp [two]), 0, Lib.hid rfl⟩
  case round =>
    obtain ⟨k, hk, rfl, HP, q, Hw⟩ := hrel
    by_cases hlt : k < s.size
    · by_cases h70 : s[k]'hlt = 70
      · have e1 : (((s[k]'hlt).toNat : Int) != 70) = false := by rw [h70]; rfl
        have e1' : ((s[k]'hlt).toNat != 70) = false := by rw [h70]; rfl
        have e2 : (((s[k]'hlt).toNat : Int) == 70) = true := by rw [h70]; rfl
        have e2' : ((s[k]'hlt).toNat == 70) = true := by rw [h70]; rfl
        have Hc := Lib.hid (show two 70 66 (l.take (k + 1)) = true from two_step HP.out (by rw [Hll.out]; exact hlt) (.inl (by rw [← Hg.out k hlt]; exact h70)))
        clear h70
        go_wp2
        go_roundw
        case rel => exact ⟨k + 1, by omega, by go_num, Hc, q, Hw⟩
        case measure => simp [intOf]; omega
      · have hn1 : (s[k]'hlt).toNat ≠ 70 := fun h => h70 (UInt8.toNat_inj.1 h)
        have e1 : (((s[k]'hlt).toNat : Int) != 70) = true := by simp; omega
        have e1' : ((s[k]'hlt).toNat != 70) = true := by simp [hn1]
        have e2 : (((s[k]'hlt).toNat : Int) == 70) = false := by simp; omega
        have e2' : ((s[k]'hlt).toNat == 70) = false := by simp [hn1]
        by_cases h66 : s[k]'hlt = 66
        · have f1 : (((s[k]'hlt).toNat : Int) != 66) = false := by rw [h66]; rfl
          have f1' : ((s[k]'hlt).toNat != 66) = false := by rw [h66]; rfl
          have f2 : (((s[k]'hlt).toNat : Int) == 66) = true := by rw [h66]; rfl
          have f2' : ((s[k]'hlt).toNat == 66) = true := by rw [h66]; rfl
          have Hc := Lib.hid (show two 70 66 (l.take (k + 1)) = true from two_step HP.out (by rw [Hll.out]; exact hlt) (.inr (by rw [← Hg.out k hlt]; exact h66)))
          clear h70 h66 hn1
          go_wp2
          go_roundw
          case rel => exact ⟨k + 1, by omega, by go_num, Hc, q, Hw⟩
          case measure => simp [intOf]; omega
        · have hn2 : (s[k]'hlt).toNat ≠ 66 := fun h => h66 (UInt8.toNat_inj.1 h)
          have f1 : (((s[k]'hlt).toNat : Int) != 66) = true := by simp; omega
          have f1' : ((s[k]'hlt).toNat != 66) = true := by simp [hn2]
          have f2 : (((s[k]'hlt).toNat : Int) == 66) = false := by simp; omega
          have f2' : ((s[k]'hlt).toNat == 66) = false := by simp [hn2]
          have Hf := Lib.hid (show vS l = false by
            rw [Hv.out, two_bad (k := k) (by rw [Hll.out]; exact hlt) (by rw [← Hg.out k hlt]; exact h70) (by rw [← Hg.out k hlt]; exact h66)]
            simp)
          clear h70 h66 hn1 hn2
          go_wp2
          go_ret
          exact ⟨ret_bool Hf.out.symm, q, Hw.out⟩
    · have hkn : k = s.size := by omega
      have Hf := Lib.hid (show vS l = inB s.size 1 12 by
        have h := HP.out
        rw [hkn, List.take_of_length_le (by rw [Hll.out]; omega)] at h
        rw [Hv.out, h, Bool.and_true])
      clear hkn
      go_wp2_with (go_at_call 32; refine (l00In_any _ _ _ _).mono ?_; rintro e w1 ⟨rfl, rfl⟩)
      go_ret
      exact ⟨ret_bool Hf.out.symm, q, Hw.out⟩

theorem idx_pos {l : List UInt8} {c : UInt8} (h : c ∈ l) : 0 ≤ Lib.indexByte l c := by
  induction l with
  | nil => simp at h
  | cons b l ih =>
    unfold Lib.indexByte
    have hg := Lib.indexByte_ge l c
    by_cases hb : b = c
    · simp [hb]
    · have h2 : c ∈ l := by
        rcases List.mem_cons.1 h with e | e
        · exact absurd e.symm hb
        · exact e
      have h3 := ih h2
      have hb2 : (b == c) = false := by simp [hb]
      have h4 : (Lib.indexByte l c == -1) = false := by simp; omega
      rw [hb2, h4]
      simp; omega
theorem idx_neg {l : List UInt8} {c : UInt8} (h : c ∉ l) : ¬ 0 ≤ Lib.indexByte l c := by
  induction l with
  | nil => simp [Lib.indexByte]
  | cons b l ih =>
    unfold Lib.indexByte
    have hb : ¬ b = c := fun e => h (by simp [e])
    have h3 := ih (fun e => h (by simp [e]))
    have hg := Lib.indexByte_ge l c
    have hb2 : (b == c) = false := by simp [hb]
    have h4 : (Lib.indexByte l c == -1) = true := by simp; omega
    rw [hb2, h4]
    simp

def bothB (l : List UInt8) : Bool := decide ((70 : UInt8) ∈ l) && decide ((66 : UInt8) ∈ l)
theorem idx_mem (l : List UInt8) (c : UInt8) : decide (0 ≤ Lib.indexByte l c) = decide (c ∈ l) := by
  by_cases h : c ∈ l
  · rw [decide_eq_true h, decide_eq_true (idx_pos h)]
  · rw [decide_eq_false h, decide_eq_false (idx_neg h)]

theorem bothKinds_any (s : ByteArray) (w : World) :
    Calls Tryd.prog 29 #[.string s] w fun e w' => e = .returned (.bool (bothB s.data.toList)) ∧ w = w' := by
  have HF := Lib.hid (fun (W : World) => by
    have h := Tryd.strings_Contains_one s 70 W
    rw [idx_mem] at h
    exact h)
  have HB := Lib.hid (fun (W : World) => by
    have h := Tryd.strings_Contains_one s 66 W
    rw [idx_mem] at h
    exact h)
  obtain ⟨F, hF⟩ : ∃ F, decide ((70 : UInt8) ∈ s.data.toList) = F := ⟨_, rfl⟩
  obtain ⟨B, hB⟩ : ∃ B, decide ((66 : UInt8) ∈ s.data.toList) = B := ⟨_, rfl⟩
  rw [show bothB s.data.toList = (F && B) by rw [bothB, hF, hB]]
  rw [hF] at HF
  rw [hB] at HB
  clear hF hB
  cases F
  · go_enter Tryd.func29, Tryd.ntmps29
    go_wp2_with (go_at_call 48; (with_reducible refine (HF.out _).mono ?_); rintro e w1 ⟨rfl, rfl⟩)
    go_ret
    exact ⟨rfl, rfl⟩
  · go_enter Tryd.func29, Tryd.ntmps29
    go_wp2_with (first | (go_at_call 48; (with_reducible refine (HF.out _).mono ?_); rintro e w1 ⟨rfl, rfl⟩) | (go_at_call 48; (with_reducible refine (HB.out _).mono ?_); rintro e w1 ⟨rfl, rfl⟩))
    go_ret
    exact ⟨rfl, rfl⟩

theorem turn_ext (l : List UInt8) (s : ByteArray) (h : s.data.toList = l) (i : Nat) (hi : i ≤ s.size) : s.extract i s.size ++ s.extract 0 i = str (turnW l i) := by
  apply of_data
  rw [data_app]
  have hlen : l.length = s.size := by rw [← h]; rfl
  subst h
  simp [turnW, List.take_of_length_le]

set_option maxHeartbeats 2000000 in
theorem l09Turn_any (s : ByteArray) (w : World) (h12 : s.size ≤ 12) :
    Calls Tryd.prog 33 #[.string s] w fun e w' => e = .returned (.tuple #[.string (str (turnT s.data.toList)), .bool (goodI s.data.toList).isSome]) ∧ ∃ q, w' = w.drewN q := by
  obtain ⟨l, Hl⟩ : ∃ l, Hid (l = s.data.toList) := ⟨_, rfl⟩
  have Hll := Lib.hid (show l.length = s.size by rw [Hl.out, size_list])
  rw [← Hl.out]
  have Hg := Lib.hid (fun j (hj : j < s.size) => show (s[j]'hj).toNat = bat l j by rw [Hl.out]; exact bat_get hj)
  obtain ⟨T, HT⟩ : ∃ T, Hid (T = str (turnT l)) := ⟨_, rfl⟩
  obtain ⟨K, HK⟩ : ∃ K, Hid (K = (goodI l).isSome) := ⟨_, rfl⟩
  rw [← HT.out, ← HK.out]
  obtain ⟨N, hN⟩ : ∃ N, s.size = N := ⟨_, rfl⟩
  rw [hN] at h12 Hll
  go_enter Tryd.func33, Tryd.ntmps33
  go_wp2
  go_loopw [5] (fun i wr => ∃ k : Nat, k ≤ N ∧ i = .int .i64 k ∧ Hid (goodFrom l (N - k) k = goodI l) ∧ ∃ q, Hid (wr = w.drewN q)) (fun i _ => N - (intOf i).toNat)
  case atStart => exact ⟨0, Nat.zero_le _, rfl, Lib.hid (by unfold goodI; rw [Hll.out]; rfl), 0, Lib.hid rfl⟩
  case round =>
    obtain ⟨k, hk, rfl, Hgf, q, Hw⟩ := hrel
    by_cases hlt : k < N
    · have hks : k < s.size := by rw [hN]; exact hlt
      have Hst := Lib.hid (show goodI l = if goodT l k then some k else goodFrom l (N - (k + 1)) (k + 1) by
        rw [← Hgf.out, show N - k = (N - (k + 1)) + 1 by omega]; rfl)
      obtain ⟨j, hj⟩ : ∃ j, (k + N - 1) % N = j := ⟨_, rfl⟩
      have hjN : j < N := by rw [← hj]; exact Nat.mod_lt _ (by omega)
      have hjs : j < s.size := by rw [hN]; exact hjN
      have q1 : ((k : Int) + N - 1) % (N : Int) = (j : Int) := by
        rw [show (k : Int) + N - 1 = ((k + N - 1 : Nat) : Int) by omega, ← hj]; simp
      have q2 : ((k : Int) + N - 1).tmod (N : Int) = (j : Int) := by rw [Int.tmod_eq_emod_of_nonneg (by omega)]; exact q1
      have hz : (N : Int) ≠ 0 := by omega
      have hki : (k : Int) < N := by omega
      have hji : (j : Int) < N := by omega
      obtain ⟨c0, hc0⟩ : ∃ c : Nat, (s[k]'hks).toNat = c := ⟨_, rfl⟩
      obtain ⟨c1, hc1⟩ : ∃ c : Nat, (s[j]'hjs).toNat = c := ⟨_, rfl⟩
      have Hgt := Lib.hid (show goodT l k = ((c0 == 70) && (c1 == 66)) by
        unfold goodT
        rw [Hll.out, hj, ← hc0, ← hc1, Hg.out k hks, Hg.out j hjs])
      clear hj
      by_cases h0 : c0 = 70
      · have t0 : ((c0 : Int) == 70) = true := by simp [h0]
        have t0' : (c0 == 70) = true := by simp [h0]
        by_cases h1 : c1 = 66
        · have t1 : ((c1 : Int) == 66) = true := by simp [h1]
          have t1' : (c1 == 66) = true := by simp [h1]
          have Hi := Lib.hid (show goodI l = some k by rw [Hst.out, Hgt.out, t0', t1']; rfl)
          have Hext := Lib.hid (turn_ext l s Hl.out.symm k (by omega))
          obtain ⟨X, hX⟩ : ∃ X, s.extract k s.size = X := ⟨_, rfl⟩
          obtain ⟨Y, hY⟩ : ∃ Y, s.extract 0 k = Y := ⟨_, rfl⟩
          have hXs : X.size ≤ 12 := by rw [← hX]; simp; omega
          have hYs : Y.size ≤ 12 := by rw [← hY]; simp; omega
          have Hxy := Lib.hid (show X ++ Y = T by rw [← hX, ← hY, Hext.out, HT.out, turnT, Hi.out])
          have Hk := Lib.hid (show K = true by rw [HK.out, Hi.out]; rfl)
          rw [hN] at hX
          clear h0 h1
          go_wp2
          go_quiet (fail)
          go_wp2
          go_ret2
          have e1 := Hxy.out
          have e2 := Hk.out
          subst e1
          subst e2
          exact ⟨rfl, q + nq, by rw [Hw.out, World.drewN_drewN]⟩
        · have t1 : ((c1 : Int) == 66) = false := by simp; omega
          have t1' : (c1 == 66) = false := by simp [h1]
          have Hn := Lib.hid (show goodFrom l (N - (k + 1)) (k + 1) = goodI l by rw [Hst.out, Hgt.out, t0', t1']; rfl)
          clear h0 h1
          go_wp2
          go_roundw
          case rel => exact ⟨k + 1, by omega, by go_num, Hn, q, Hw⟩
          case measure => simp [intOf]; omega
      · have t0 : ((c0 : Int) == 70) = false := by simp; omega
        have t0' : (c0 == 70) = false := by simp [h0]
        have Hn := Lib.hid (show goodFrom l (N - (k + 1)) (k + 1) = goodI l by rw [Hst.out, Hgt.out, t0']; rfl)
        clear h0
        go_wp2
        go_roundw
        case rel => exact ⟨k + 1, by omega, by go_num, Hn, q, Hw⟩
        case measure => simp [intOf]; omega
    · have hi : goodI l = none := by rw [← Hgf.out, show N - k = 0 by omega]; rfl
      have Ht := Lib.hid (show T = ⟨#[]⟩ by rw [HT.out, turnT, hi]; rfl)
      have Hk := Lib.hid (show K = false by rw [HK.out, hi]; rfl)
      clear hi
      go_wp2
      go_ret2
      have e1 := Ht.out
      have e2 := Hk.out
      subst e1
      subst e2
      exact ⟨rfl, q, Hw.out⟩
end Go.Proofs.YtggbnibdpkblgaaDoor
