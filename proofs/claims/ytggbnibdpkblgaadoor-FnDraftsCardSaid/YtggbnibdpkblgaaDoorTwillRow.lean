/-
  Twills: rows, ways along a row, longest runs, by walks.
-/
import Derived.Test.YtggbnibdpkblgaaDoorTwill2
import Derived.Test.YtggbnibdpkblgaaDoorStrs
import Derived.Test.YtggbnibdpkblgaaDoorShelf
namespace Go.Proofs.YtggbnibdpkblgaaDoor
open Go.RowKit
set_option linter.unusedVariables false

theorem repeat_one (c : UInt8) (m : Nat) : Lib.repeatL [c] m = List.replicate m c := by
  have := Lib.repeatL_replicate c 1 m
  simpa using this
theorem info_u8 : (Tryd.prog.info? 5).map (fun i => (i.zero, i.size, i.bytes)) = some (some (.int .u8 0), 1, 1) := by kernel_rfl

theorem repeat_any (c : UInt8) (m : Nat) (w : World) (hm : m ≤ 1000) : Calls Tryd.prog 59 #[.string (str [c]), .int .i64 m] w fun e w' => e = .returned (.string (str (List.replicate m c))) ∧ Below w.heap.size w w' := by
  have h := Tryd.strings_Repeat (str [c]) m w (by omega) (by rw [str_size]; simp; omega)
  rw [str_list, repeat_one] at h
  exact h
theorem repeat_str (l : List UInt8) (m : Nat) (w : World) (hm : m ≤ 1000) (hl : l.length ≤ 1000) : Calls Tryd.prog 59 #[.string (str l), .int .i64 m] w fun e w' => e = .returned (.string (str (Lib.repeatL l m))) ∧ Below w.heap.size w w' := by
  have h2 : l.length * m ≤ 1000 * 1000 := Nat.mul_le_mul hl hm
  have h := Tryd.strings_Repeat (str l) m w (by omega) (by rw [str_size]; omega)
  rw [str_list] at h
  exact h
theorem fb0 : ((⟨#[70, 66]⟩ : ByteArray).extract 0 1) = str [70] := by decide
theorem fb1 : ((⟨#[70, 66]⟩ : ByteArray).extract 1 2) = str [66] := by decide
set_option maxHeartbeats 1000000 in
theorem rowOf_any (a : Option Addr) (n c : Nat) (xs : List Int) (st : Int) (w : World) (he : eachIn xs 1 12 = true) (h12 : xs.length ≤ 12) (ha : RV w a n c (ints xs)) :
    Calls Tryd.prog 37 #[.agg #[.slice a n c, .int .i64 st]] w fun e w' => e = .returned (.string (str (rowW xs))) ∧ Below w.heap.size w w' := by
  have hl := ha.lenI
  have hn : n ≤ 12 := by omega
  have Hl := Lib.hid hl
  have Hx := Lib.hid (fun k (hk : k < n) => eachIn_at he (k := k) (by omega))
  have Ha := Lib.hid (ha.below ((Below.refl _ _).alloc (Nat.le_refl _) (.cells #[.slice a n c, .int .i64 st] 28)))
  have hB : Below w.heap.size w (w.alloc (.cells #[.slice a n c, .int .i64 st] 28)) := (Below.refl _ _).alloc (Nat.le_refl _) _
  have HB := Lib.hid hB
  obtain ⟨W0, HW0⟩ : ∃ W0, Hid (W0 = w.alloc (.cells #[.slice a n c, .int .i64 st] 28)) := ⟨_, rfl⟩
  rw [← HW0.out] at Ha HB
  clear hl ha hB he h12
  go_enter Tryd.func37, Tryd.ntmps37
  go_wp2
  go_loopw [3, 9] (fun q i wr => ∃ k : Nat, k ≤ n ∧ i = .int .i64 k ∧ ∃ S : ByteArray, q = .string S ∧ Hid (S.data.toList = rowTo xs k) ∧ S.size ≤ 12 * k ∧ Hid (Below W0.heap.size W0 wr)) (fun _ i _ => n - (intOf i).toNat)
  case atStart => exact ⟨0, Nat.zero_le _, rfl, _, rfl, Lib.hid rfl, by simp [ByteArray.size], Lib.hid (by rw [HW0.out]; exact Below.refl _ _)⟩
  case round =>
    obtain ⟨k, hk, rfl, S, rfl, HS, hSz, Hb⟩ := hrel
    by_cases hlt : k < n
    · have Ha' : RV wr a n c (ints xs) := Ha.out.below Hb.out
      obtain ⟨b, o, rfl, hbl, hc⟩ := Ha'.cell (by omega)
      clear Ha'
      have e1 := hc k hlt
      have bx := Hx.out k hlt
      obtain ⟨m, Hm⟩ : ∃ m : Nat, Hid (xs.getD k 0 = (m : Int)) := ⟨(xs.getD k 0).toNat, Lib.hid (by omega)⟩
      rw [Hm.out] at e1 bx
      have hm : m ≤ 12 := by omega
      clear hc bx
      have Hst := Lib.hid (show rowTo xs (k + 1) = rowTo xs k ++ List.replicate m (letter k) by show _ ++ List.replicate (xs.getD k 0).toNat _ = _; rw [Hm.out]; rfl)
      rcases Nat.mod_two_eq_zero_or_one k with hp | hp
      · have hp1 : (k : Int) % 2 = 0 := by omega
        have Hlt := Lib.hid (show letter k = 70 by simp [letter, hp])
        clear hp
        go_wp2_with fail
        rw [fb0]
        refine (repeat_any 70 m _ (by omega)).mono ?_
        rintro e w2 ⟨rfl, hb2⟩
        have Hb2 := Lib.hid (bstep Hb.out hb2 (Nat.le_refl _))
        clear hb2
        have hT : (str (List.replicate m 70)).size ≤ 12 := by rw [str_size]; simp; omega
        obtain ⟨T, HT⟩ : ∃ T, Hid (T = str (List.replicate m 70)) := ⟨_, rfl⟩
        rw [← HT.out] at hT ⊢
        go_wp2
        go_roundw
        case measure => simp [intOf]; omega
        case rel => exact ⟨k + 1, by omega, by go_num, S ++ T, rfl, Lib.hid (by rw [data_app, HS.out, HT.out, str_list, Hst.out, Hlt.out]), by rw [ByteArray.size_append]; omega, Hb2⟩
      · have hp1 : (k : Int) % 2 = 1 := by omega
        have Hlt := Lib.hid (show letter k = 66 by simp [letter, hp])
        clear hp
        go_wp2_with fail
        rw [fb1]
        refine (repeat_any 66 m _ (by omega)).mono ?_
        rintro e w2 ⟨rfl, hb2⟩
        have Hb2 := Lib.hid (bstep Hb.out hb2 (Nat.le_refl _))
        clear hb2
        have hT : (str (List.replicate m 66)).size ≤ 12 := by rw [str_size]; simp; omega
        obtain ⟨T, HT⟩ : ∃ T, Hid (T = str (List.replicate m 66)) := ⟨_, rfl⟩
        rw [← HT.out] at hT ⊢
        go_wp2
        go_roundw
        case measure => simp [intOf]; omega
        case rel => exact ⟨k + 1, by omega, by go_num, S ++ T, rfl, Lib.hid (by rw [data_app, HS.out, HT.out, str_list, Hst.out, Hlt.out]), by rw [ByteArray.size_append]; omega, Hb2⟩
    · have hkn : k = n := by omega
      have Hf := Lib.hid (show S = str (rowW xs) from of_data (by rw [HS.out, rowW, Hl.out, hkn]))
      have Hbb := Lib.hid (bstep (a := w) (b := W0) (c := wr) (B := w.heap.size) HB.out Hb.out (Nat.le_refl _))
      clear hkn
      go_wp2
      go_ret
      have e1 := Hf.out
      subst e1
      exact ⟨rfl, Hbb.out⟩

set_option maxHeartbeats 1000000 in
theorem l09Row_any (b0 : Nat) (a : Option Addr) (n c : Nat) (xs : List Int) (st : Int) (w : World) (he : eachIn xs 1 12 = true) (h12 : xs.length ≤ 12) (h : TwAt w b0 a n c xs st) :
    Calls Tryd.prog 39 #[.pointer (some ⟨b0, 0, none⟩)] w fun e w' => e = .returned (.string (str (rowW xs))) ∧ w = w' := by
  obtain ⟨c0, c1, ha⟩ := h
  have hl := ha.lenI
  have hn : n ≤ 12 := by omega
  have Hl := Lib.hid hl
  have Hx := Lib.hid (fun k (hk : k < n) => eachIn_at he (k := k) (by omega))
  have Ha := Lib.hid ha
  clear hl ha he h12
  go_enter Tryd.func39, Tryd.ntmps39
  go_wp2
  go_loop [3, 4] (fun q i => ∃ k : Nat, k ≤ n ∧ i = .int .i64 k ∧ ∃ S : ByteArray, q = .string S ∧ Hid (S.data.toList = rowTo xs k) ∧ S.size ≤ 12 * k) (fun _ i => n - (intOf i).toNat)
  case atStart => exact ⟨0, Nat.zero_le _, rfl, _, rfl, Lib.hid rfl, by simp [ByteArray.size]⟩
  case round =>
    obtain ⟨k, hk, rfl, S, rfl, HS, hSz⟩ := hrel
    by_cases hlt : k < n
    · obtain ⟨b, o, rfl, hbl, hc⟩ := Ha.out.cell (by omega)
      have e1 := hc k hlt
      have bx := Hx.out k hlt
      obtain ⟨m, Hm⟩ : ∃ m : Nat, Hid (xs.getD k 0 = (m : Int)) := ⟨(xs.getD k 0).toNat, Lib.hid (by omega)⟩
      rw [Hm.out] at e1 bx
      have hm : m ≤ 12 := by omega
      clear hc bx
      have Hst := Lib.hid (show rowTo xs (k + 1) = rowTo xs k ++ List.replicate m (letter k) by show _ ++ List.replicate (xs.getD k 0).toNat _ = _; rw [Hm.out]; rfl)
      go_wp2
      go_loop [3, 5] (fun q j => ∃ i : Nat, i ≤ m ∧ j = .int .i64 i ∧ ∃ T : ByteArray, q = .string T ∧ Hid (T.data.toList = rowTo xs k ++ List.replicate i (letter k)) ∧ T.size ≤ 12 * k + i) (fun _ j => m - (intOf j).toNat)
      case atStart => exact ⟨0, Nat.zero_le _, rfl, S, rfl, Lib.hid (by rw [HS.out]; simp), by omega⟩
      case round =>
        obtain ⟨i, hi, rfl, T, rfl, HT, hTz⟩ := hrel
        by_cases him : i < m
        · have hd : decide ((i : Int) < m) = true := by simp; omega
          rcases Nat.mod_two_eq_zero_or_one k with hp | hp
          · have d1 : ((k : Int) % 2 == 0) = true := by simp; omega
            have d1' : (k % 2 == 0) = true := by simp; omega
            have Hlt := Lib.hid (show letter k = 70 by simp [letter, hp])
            clear hp
            go_wp2
            go_round
            case rel => exact ⟨i + 1, by omega, by go_num, _, rfl, Lib.hid (by rw [data_app, HT.out, Hlt.out, List.replicate_succ', List.append_assoc]), by rw [ByteArray.size_append]; show T.size + 1 ≤ _; omega⟩
            case measure => simp [intOf]; omega
          · have d1 : ((k : Int) % 2 == 0) = false := by simp; omega
            have d1' : (k % 2 == 0) = false := by simp; omega
            have Hlt := Lib.hid (show letter k = 66 by simp [letter, hp])
            clear hp
            go_wp2
            go_round
            case rel => exact ⟨i + 1, by omega, by go_num, _, rfl, Lib.hid (by rw [data_app, HT.out, Hlt.out, List.replicate_succ', List.append_assoc]), by rw [ByteArray.size_append]; show T.size + 1 ≤ _; omega⟩
            case measure => simp [intOf]; omega
        · have hd : decide ((i : Int) < m) = false := by simp; omega
          have him2 : i = m := by omega
          have HT2 := Lib.hid (show T.data.toList = rowTo xs (k + 1) by rw [HT.out, Hst.out, him2])
          clear him2
          go_wp2
          go_round
          case rel => exact ⟨k + 1, by omega, by go_num, T, rfl, HT2, by omega⟩
          case measure => simp [intOf]; omega
    · have hkn : k = n := by omega
      have Hf := Lib.hid (show S = str (rowW xs) from of_data (by rw [HS.out, rowW, Hl.out, hkn]))
      clear hkn
      go_wp2
      go_ret
      have e1 := Hf.out
      subst e1
      exact ⟨rfl, rfl⟩

theorem tmod_pos {x n : Int} (hn : 0 < n) : (x.tmod n + n).tmod n = x % n := by
  have h1 : -n < x.tmod n := by
    rcases Int.le_total 0 x with h | h
    · have := Int.tmod_nonneg n h; omega
    · have h2 := Int.lt_tmod_of_pos x hn; omega
  rw [Int.tmod_eq_emod_of_nonneg (by omega)]
  have h2 : x.tmod n + n = x + n * (1 - x.tdiv n) := by
    rw [Int.tmod_def, Int.mul_sub, Int.mul_one]; omega
  rw [h2, Int.add_mul_emod_self_left]

set_option maxHeartbeats 400000 in
theorem l09At_any (s : ByteArray) (step stake round : Int) (w : World) (hs0 : 1 ≤ s.size) (hs1 : s.size ≤ 1000) (h1 : 0 ≤ step ∧ step ≤ 1000) (h2 : 0 ≤ stake ∧ stake ≤ 1000) (h3 : 0 ≤ round ∧ round ≤ 1000) :
    Calls Tryd.prog 40 #[.string s, .int .i64 step, .int .i64 stake, .int .i64 round] w fun e w' => e = .returned (.int .u8 (bat s.data.toList ((stake - step * round) % s.size).toNat)) ∧ w = w' := by
  have hp0 : 0 ≤ step * round := Int.mul_nonneg h1.1 h3.1
  have hp1 : step * round ≤ 1000 * 1000 := Int.mul_le_mul h1.2 h3.2 h3.1 (by omega)
  obtain ⟨p, hp⟩ : ∃ p, step * round = p := ⟨_, rfl⟩
  have q0 : IntKind.i64.wrap (step * round) = p := by rw [hp]; exact IntWalk.i64_in p (by omega)
  rw [hp] at hp0 hp1 ⊢
  have hpos : (0 : Int) < s.size := by omega
  obtain ⟨r, hr⟩ : ∃ r, (stake - p).tmod s.size = r := ⟨_, rfl⟩
  have hr1 : -(s.size : Int) < r := by
    rw [← hr]
    rcases Int.le_total 0 (stake - p) with h | h
    · have := Int.tmod_nonneg (s.size : Int) h; omega
    · have h2 := Int.lt_tmod_of_pos (stake - p) hpos; omega
  have hr2 : r < s.size := by rw [← hr]; exact Int.tmod_lt_of_pos _ hpos
  obtain ⟨j, hj⟩ : ∃ j : Nat, (stake - p) % s.size = (j : Int) := Int.eq_ofNat_of_zero_le (Int.emod_nonneg _ (by omega))
  have hjl : j < s.size := by have := Int.emod_lt_of_pos (stake - p) hpos; omega
  have q2 : (r + (s.size : Int)).tmod s.size = (j : Int) := by rw [← hr, tmod_pos hpos, hj]
  have hz : (s.size : Int) ≠ 0 := by omega
  have hz' : s.size ≠ 0 := by omega
  have hji : (j : Int) < s.size := by omega
  rw [hj, Int.toNat_natCast, ← bat_get hjl]
  clear hp hj
  go_enter Tryd.func40, Tryd.ntmps40
  go_wp2
  go_ret
  exact ⟨rfl, rfl⟩
end Go.Proofs.YtggbnibdpkblgaaDoor
