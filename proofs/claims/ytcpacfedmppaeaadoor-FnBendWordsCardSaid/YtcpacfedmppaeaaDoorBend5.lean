/-
  Bends: first words, by walks.
-/
import Derived.Test.YtcpacfedmppaeaaDoorBend3
namespace Go.Proofs.YtcpacfedmppaeaaDoor
open Go.RowKit
set_option linter.unusedVariables false

theorem run_min_strs {P : Program} (w : World) (ts : Array TypeId) (t : TypeId) (x y : ByteArray) :
    (Builtin.min_ ts t #[.string x, .string y]).run P w = .ok (.string (if Op.bytesLess x.toList y.toList || x.toList == y.toList then x else y)) w := by
  simp [Builtin.min_, Builtin.min2, Op.stringOp, asBool]
theorem turn_ext (l : List UInt8) (s : ByteArray) (h : s.data.toList = l) (i : Nat) (hi : i ≤ s.size) : s.extract i s.size ++ s.extract 0 i = str (turnW l i) := by
  apply of_data
  rw [data_app]
  have hlen : l.length = s.size := by rw [← h]; rfl
  subst h
  simp [turnW, List.take_of_length_le]
theorem firstTo_min (l : List UInt8) (k : Nat) : (if Op.bytesLess (firstTo l k) (turnW l k) || (firstTo l k == turnW l k) then str (firstTo l k) else str (turnW l k)) = str (firstTo l (k + 1)) := by
  rw [less_total]
  show _ = str (if Op.bytesLess (turnW l k) (firstTo l k) then turnW l k else firstTo l k)
  cases Op.bytesLess (turnW l k) (firstTo l k) <;> simp

set_option maxHeartbeats 2000000 in
theorem firstWord_any (s : ByteArray) (w : World) (h2 : two 98 102 s.data.toList = true) (h8 : s.size ≤ 8) :
    Calls Tryd.prog 55 #[.string s] w fun e w' => e = .returned (.string (str (firstW s.data.toList))) ∧ Below w.heap.size w w' := by
  obtain ⟨l, Hl⟩ : ∃ l, Hid (l = s.data.toList) := ⟨_, rfl⟩
  have Hll := Lib.hid (show l.length = s.size by rw [Hl.out, size_list])
  rw [← Hl.out] at h2 ⊢
  have Hg := Lib.hid (fun j (hj : j < s.size) => show (s[j]'hj).toNat = bat l j by rw [Hl.out]; exact bat_get hj)
  have Hasc := Lib.hid (fun j (hj : j < s.size) => show (s[j]'hj).toNat < 128 by
    rw [Hg.out j hj]
    rcases two_at (k := j) h2 (by rw [Hll.out]; exact hj) with h | h <;> rw [h] <;> decide)
  have Hs := Lib.hid (show str l = s by rw [Hl.out, str_of])
  clear h2
  go_enter Tryd.func55, Tryd.ntmps55
  go_wp2
  go_loopw [3] (fun v wr => ∃ j : Nat, j ≤ s.size ∧ v = .string (str (firstTo l j)) ∧ Hid (wr.heap[w.heap.size]? = some (.stringIter s j)) ∧ Hid (Below w.heap.size w wr)) (fun _ wr => s.size - wr.iterPos w.heap.size)
  case atStart => exact ⟨0, Nat.zero_le _, by rw [show firstTo l 0 = l from rfl, Hs.out], Lib.hid (World.iter_heap w s 0), Lib.hid ((Below.refl _ _).alloc (Nat.le_refl _) _)⟩
  case round =>
    obtain ⟨j, hj, rfl, Hit, Hb⟩ := hrel
    by_cases hlt : j < s.size
    · obtain ⟨W2, HW2⟩ : ∃ W2, Hid (wr.iterAt w.heap.size s (j + 1) = W2) := ⟨_, rfl⟩
      have hnx : ∀ ty, (Instr.next (.pointer (some ⟨w.heap.size, 0, none⟩)) true ty).run Tryd.prog wr = _ := fun ty => Lib.run_next_ascii_at wr w.heap.size s j ty Hit.out hlt (Hasc.out j hlt)
      rw [HW2.out] at hnx
      have Hit2 := Lib.hid (show W2.heap[w.heap.size]? = some (.stringIter s (j + 1)) by rw [← HW2.out]; exact Lib.iterAt_heap wr _ s j (j + 1) Hit.out)
      have Hb2 := Lib.hid (show Below w.heap.size w W2 by rw [← HW2.out]; exact Lib.below_iterAt Hb.out (Nat.le_refl _) s (j + 1))
      have Hpos := Lib.hid (show wr.iterPos w.heap.size = j by unfold World.iterPos; rw [Hit.out])
      have Hext := Lib.hid (turn_ext l s Hl.out.symm j hj)
      have hmin : ∀ (W : World) ts t, (Builtin.min_ ts t #[.string (str (firstTo l j)), .string (s.extract j s.size ++ s.extract 0 j)]).run Tryd.prog W = .ok (.string (str (firstTo l (j + 1)))) W := fun W ts t => by
        rw [Hext.out]
        have h := run_min_strs (P := Tryd.prog) W ts t (str (firstTo l j)) (str (turnW l j))
        rw [str_toList, str_toList] at h
        rw [h, ← firstTo_min l j]
      have hji : (j : Int) ≤ s.size := by omega
      have hjs : j ≤ s.size := hj
      have Hm2 := Lib.hid hmin
      obtain ⟨X, hX⟩ : ∃ X, s.extract j s.size = X := ⟨_, rfl⟩
      obtain ⟨Y, hY⟩ : ∃ Y, s.extract 0 j = Y := ⟨_, rfl⟩
      have hXs : X.size ≤ 8 := by rw [← hX]; simp; omega
      have hYs : Y.size ≤ 8 := by rw [← hY]; simp; omega
      rw [hX, hY] at hmin
      clear Hm2
      generalize str (firstTo l j) = F at *
      obtain ⟨F', HF'⟩ : ∃ F', Hid (F' = str (firstTo l (j + 1))) := ⟨_, rfl⟩
      rw [← HF'.out] at hmin
      go_wp2
      go_quiet (fail)
      go_wp2
      go_roundw
      case rel => exact ⟨j + 1, by omega, by rw [HF'.out], Hit2, Lib.hid (bdrewN Hb2.out _)⟩
      case measure =>
        have h1 := Hpos.out
        have h2 : (W2.drewN nq).iterPos w.heap.size = j + 1 := by
          unfold World.iterPos
          rw [show (W2.drewN nq).heap[w.heap.size]? = some (.stringIter s (j + 1)) from Hit2.out]
        omega
    · have hnx : ∀ ty, (Instr.next (.pointer (some ⟨w.heap.size, 0, none⟩)) true ty).run Tryd.prog wr = _ := fun ty => Lib.run_next_end_at wr w.heap.size s j ty Hit.out hlt
      have hjn : j = l.length := by rw [Hll.out]; omega
      go_wp2
      go_ret
      exact ⟨by rw [hjn]; rfl, Hb.out⟩

set_option maxHeartbeats 2000000 in
theorem l11First_any (s : ByteArray) (w : World) (h1 : 1 ≤ s.size) (h8 : s.size ≤ 8) :
    Calls Tryd.prog 57 #[.string s] w fun e w' => e = .returned (.string (str (firstW s.data.toList))) ∧ ∃ q, w' = w.drewN q := by
  obtain ⟨l, Hl⟩ : ∃ l, Hid (l = s.data.toList) := ⟨_, rfl⟩
  have Hll := Lib.hid (show l.length = s.size by rw [Hl.out, size_list])
  rw [← Hl.out]
  have Hs := Lib.hid (show str l = s by rw [Hl.out, str_of])
  go_enter Tryd.func57, Tryd.ntmps57
  go_wp2
  go_loopw [3, 4] (fun v i wr => ∃ j : Nat, 1 ≤ j ∧ j ≤ s.size ∧ i = .int .i64 j ∧ v = .string (str (firstTo l j)) ∧ ∃ q, Hid (wr = w.drewN q)) (fun _ i _ => s.size - (intOf i).toNat)
  case atStart => exact ⟨1, Nat.le_refl _, h1, rfl, by rw [firstTo_one, Hs.out], 0, Lib.hid rfl⟩
  case round =>
    obtain ⟨j, hj1, hj, rfl, rfl, q, Hw⟩ := hrel
    by_cases hlt : j < s.size
    · have Hext := Lib.hid (turn_ext l s Hl.out.symm j hj)
      have hji : (j : Int) ≤ s.size := by omega
      cases hb : Op.bytesLess (turnW l j) (firstTo l j)
      · have Hn := Lib.hid (show firstTo l (j + 1) = firstTo l j by show (if Op.bytesLess (turnW l j) (firstTo l j) then turnW l j else firstTo l j) = _; rw [hb]; rfl)
        have t1 : Op.bytesLess (s.extract j s.size ++ s.extract 0 j).toList (str (firstTo l j)).toList = false := by rw [Hext.out, str_toList, str_toList]; exact hb
        obtain ⟨X, hX⟩ : ∃ X, s.extract j s.size = X := ⟨_, rfl⟩
        obtain ⟨Y, hY⟩ : ∃ Y, s.extract 0 j = Y := ⟨_, rfl⟩
        have hXs : X.size ≤ 8 := by rw [← hX]; simp; omega
        have hYs : Y.size ≤ 8 := by rw [← hY]; simp; omega
        have Hxy := Lib.hid (show X ++ Y = str (turnW l j) by rw [← hX, ← hY]; exact Hext.out)
        rw [hX, hY] at t1
        clear hb
        generalize hF : str (firstTo l j) = F at *
        have HF := Lib.hid hF
        clear hF
        go_wp2
        go_quiet (fail)
        go_wp2
        go_roundw
        case rel => exact ⟨j + 1, by omega, by omega, by go_num, by rw [Hn.out, HF.out], q + nq, Lib.hid (by rw [Hw.out, World.drewN_drewN])⟩
        case measure => simp [intOf]; omega
      · have Hn := Lib.hid (show firstTo l (j + 1) = turnW l j by show (if Op.bytesLess (turnW l j) (firstTo l j) then turnW l j else firstTo l j) = _; rw [hb]; rfl)
        have t1 : Op.bytesLess (s.extract j s.size ++ s.extract 0 j).toList (str (firstTo l j)).toList = true := by rw [Hext.out, str_toList, str_toList]; exact hb
        obtain ⟨X, hX⟩ : ∃ X, s.extract j s.size = X := ⟨_, rfl⟩
        obtain ⟨Y, hY⟩ : ∃ Y, s.extract 0 j = Y := ⟨_, rfl⟩
        have hXs : X.size ≤ 8 := by rw [← hX]; simp; omega
        have hYs : Y.size ≤ 8 := by rw [← hY]; simp; omega
        have Hxy := Lib.hid (show X ++ Y = str (turnW l j) by rw [← hX, ← hY]; exact Hext.out)
        rw [hX, hY] at t1
        clear hb
        generalize hF : str (firstTo l j) = F at *
        have HF := Lib.hid hF
        clear hF
        go_wp2
        go_quiet (fail)
        go_wp2
        go_roundw
        case rel => exact ⟨j + 1, by omega, by omega, by go_num, by rw [Hn.out, Hxy.out], q + nq, Lib.hid (by rw [Hw.out, World.drewN_drewN])⟩
        case measure => simp [intOf]; omega
    · have hjn : j = l.length := by rw [Hll.out]; omega
      go_wp2
      go_ret
      exact ⟨by rw [hjn]; rfl, q, Hw.out⟩
end Go.Proofs.YtcpacfedmppaeaaDoor
