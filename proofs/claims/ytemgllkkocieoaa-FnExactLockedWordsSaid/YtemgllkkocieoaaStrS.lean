/-
  Slices of texts: equality, marks, what is held, by walks.
-/
import Derived.Test.YtemgllkkocieoaaCore
import Derived.Test.YtemgllkkocieoaaStrs
import Derived.Deep.RegionHeld3
namespace Go.Proofs.Ytemgllkkocieoaa
open Go.RowKit
set_option linter.unusedVariables false

abbrev strs (L : List (List UInt8)) : List Value := L.map fun l => .string (str l)
theorem info_str : (Try.prog.info? 9).map (fun i => (i.zero, i.size, i.bytes)) = some (some (.string ⟨#[]⟩), 1, 16) := by kernel_rfl
theorem info_u8s : (Try.prog.info? 5).map (fun i => (i.zero, i.size, i.bytes)) = some (some (.int .u8 0), 1, 1) := by kernel_rfl
theorem strs_get {L : List (List UInt8)} {k : Nat} (h : k < L.length) : (strs L)[k]? = some (.string (str (L.getD k []))) := by simp [h]
theorem Own.sliceS {w : World} {lo hi : Nat} {e : TypeId} {v : Value} {L : List (List UInt8)} (h : Own w lo hi e v (strs L)) : ∃ a c, v = .slice a L.length c ∧ RV w a L.length c (strs L) := by
  obtain ⟨a, c, h1, h2⟩ := h.slice
  simp only [List.length_map] at h1 h2
  exact ⟨a, c, h1, h2⟩
theorem RV.lenS {w : World} {a : Option Addr} {n c : Nat} {L : List (List UInt8)} (h : RV w a n c (strs L)) : L.length = n := by simpa using h.1

/-- a list of texts as a result -/
def RetS (w : World) (e : TypeId) (R : List (List UInt8) × Int) (en : Ending) (w' : World) : Prop :=
  ∃ v : Value, en = .returned (.tuple #[v, .int .i64 R.2]) ∧ Own w' w.heap.size w'.heap.size e v (strs R.1) ∧ Below w.heap.size w w'

/-! ### marks -/
def digs (k : Nat) : List UInt8 := if h : k = 0 then [] else digs (k / 10) ++ [UInt8.ofNat (48 + k % 10)]
termination_by k
decreasing_by omega
theorem digs_step {k : Nat} (h : 0 < k) : digs k = digs (k / 10) ++ [UInt8.ofNat (48 + k % 10)] := by
  rw [digs, dif_neg (by omega)]
theorem digs_zero : digs 0 = [] := by rw [digs]; rfl
def markT (k : Nat) : List UInt8 := 109 :: digs k
def marksT (k n : Nat) : List (List UInt8) := (List.range n).map fun i => markT (k + i)
theorem marksT_len (k n : Nat) : (marksT k n).length = n := by simp [marksT]
theorem marksT_get {k n i : Nat} (h : i < n) : (marksT k n).getD i [] = markT (k + i) := by simp [marksT, h]

set_option maxHeartbeats 1000000 in
theorem markText_any (k : Nat) (w : World) (h0 : 1 ≤ k) (h1 : k ≤ 1000000000) :
    Calls Try.prog 16 #[.int .i64 k] w fun e w' => e = .returned (.string (str (markT k))) ∧ Below w.heap.size w w' := by
  have d0 : decide ((k : Int) ≤ 0) = false := by simp; omega
  have d0' : decide (k ≤ 0) = false := by simp; omega
  go_enter Try.func16, Try.ntmps16
  go_wp2
  go_loopw [0, 3] (fun q v wr => ∃ j : Nat, q = .int .i64 j ∧ j ≤ k ∧ ∃ S : ByteArray, v = .string S ∧ Hid (digs k = digs j ++ S.data.toList) ∧ S.size + j ≤ 1000000000 + k ∧ Hid (Below w.heap.size w wr)) (fun q _ _ => (intOf q).toNat)
  case atStart => exact ⟨k, rfl, Nat.le_refl _, ⟨#[]⟩, rfl, Lib.hid (by simp), by simp [ByteArray.size], Lib.hid (Below.refl _ _)⟩
  case round =>
    obtain ⟨j, rfl, hj, S, rfl, HS, hSz, Hb⟩ := hrel
    by_cases hj0 : 0 < j
    · have d1 : decide (0 < (j : Int)) = true := by simp; omega
      have d1' : decide (0 < j) = true := by simp; omega
      obtain ⟨r, hr⟩ : ∃ r : Nat, j % 10 = r := ⟨_, rfl⟩
      obtain ⟨q, hq⟩ : ∃ q : Nat, j / 10 = q := ⟨_, rfl⟩
      have m1 : (j : Int) % 10 = (r : Int) := by omega
      have m2 : (j : Int) / 10 = (q : Int) := by omega
      have hr9 : r ≤ 9 := by omega
      have hqj : q < j := by omega
      have Hst := Lib.hid (show digs j = digs q ++ [UInt8.ofNat (48 + r)] by rw [digs_step hj0, hr, hq])
      have w8 : IntKind.u8.wrap (48 + (r : Int)) = 48 + (r : Int) := by rw [IntKind.wrap_u8]; omega
      clear hr hq
      have hwq := IntWalk.i64_in (q : Int) (by omega)
      have hrv : RV (wr.alloc (.cells #[.int .u8 (48 + (r : Int))] 5)) (some ⟨wr.heap.size, 0, none⟩) 1 1 (u8s (bytesI [UInt8.ofNat (48 + r)])) := by
        have e : ((UInt8.ofNat (48 + r)).toNat : Int) = 48 + (r : Int) := by
          rw [UInt8.toNat_ofNat']; omega
        refine ⟨by simp [bytesI], Nat.le_refl _, by simp [maxLen], .inr ⟨wr.heap.size, 0, rfl, by simp, fun i u hu => ?_⟩⟩
        rw [cell_of_row _ wr.heap.size (0 + i) _ 5 (0, 0) (heap_alloc_new wr _)]
        simp only [bytesI, List.map_cons, List.map_nil, e] at hu
        simpa using hu
      have hcv := run_to_string (P := Try.prog) 37 9 5 Try.underlying37 Try.underlying5 Try.underlying9 hrv
      obtain ⟨T, hT⟩ : ∃ T, str [UInt8.ofNat (48 + r)] = T := ⟨_, rfl⟩
      have hTs : T.size = 1 := by rw [← hT, str_size]; rfl
      rw [hT] at hcv
      have HT := Lib.hid hT
      clear hrv hT
      go_wp2
      go_roundw
      case measure => simp [intOf]; omega
      case rel =>
        refine ⟨q, by first | rfl | (rw [m2]), by omega, T ++ S, rfl, Lib.hid ?_, ?_, Lib.hid (Hb.out.alloc (Hb.out.size) _)⟩
        · rw [HS.out, Hst.out, data_app, ← HT.out, str_list, List.append_assoc]
        · rw [ByteArray.size_append, hTs]; omega
    · have hj2 : j = 0 := by omega
      subst hj2
      have Hf := Lib.hid (show (⟨#[109]⟩ : ByteArray) ++ S = str (markT k) by
        apply of_data
        rw [data_app, markT, HS.out, digs_zero]; rfl)
      go_wp2
      go_ret
      exact ⟨congrArg (fun s => Ending.returned (.string s)) Hf.out, Hb.out⟩

set_option maxHeartbeats 1000000 in
theorem eqStrs_same (a b : Option Addr) (n c d : Nat) (L : List (List UInt8)) (w : World) (ha : RV w a n c (strs L)) (hb : RV w b n d (strs L)) :
    Calls Try.prog 7 #[.slice a n c, .slice b n d] w fun e w' => e = .returned (.bool true) ∧ ∃ m, w' = w.drewN m := by
  have hm := ha.small
  have Hl := Lib.hid ha.lenS
  have Ha := Lib.hid ha
  have Hb := Lib.hid hb
  clear ha hb
  go_enter Try.func7, Try.ntmps7
  go_wp2
  go_loopw [5] (fun i wr => ∃ k : Nat, k ≤ n ∧ i = .int .i64 k ∧ ∃ m, Hid (wr = w.drewN m)) (fun i _ => n - (intOf i).toNat)
  case atStart => exact ⟨0, Nat.zero_le _, rfl, 0, Lib.hid rfl⟩
  case round =>
    obtain ⟨k, hk, rfl, m, Hw⟩ := hrel
    by_cases hlt : k < n
    · have Ha' : RV wr a n c (strs L) := by rw [Hw.out]; exact Ha.out.drewN m
      have Hb' : RV wr b n d (strs L) := by rw [Hw.out]; exact Hb.out.drewN m
      obtain ⟨b1, o1, rfl, _, hc1⟩ := Ha'.cellv (by omega)
      obtain ⟨b2, o2, rfl, _, hc2⟩ := Hb'.cellv (by omega)
      have e1 := hc1 k _ (strs_get (by rw [Hl.out]; exact hlt))
      have e2 := hc2 k _ (strs_get (by rw [Hl.out]; exact hlt))
      have hlt' : (k : Int) < n := by omega
      clear Ha' Hb' hc1 hc2
      generalize str (L.getD k []) = S at *
      go_wp2
      go_quiet (fail)
      go_wp2
      go_roundw
      case rel => exact ⟨k + 1, by omega, by go_num, m + nq, Lib.hid (by rw [Hw.out, World.drewN_drewN])⟩
      case measure => simp [intOf]; omega
    · go_wp2
      go_ret
      exact ⟨rfl, m, Hw.out⟩

/-- the first j texts are marked -/
def markedS (k : Nat) (L : List (List UInt8)) (j : Nat) : List (List UInt8) := marksT k j ++ L.drop j
theorem markedS_zero (k : Nat) (L : List (List UInt8)) : markedS k L 0 = L := by simp [markedS, marksT]
theorem markedS_length (k : Nat) (L : List (List UInt8)) {j : Nat} (h : j ≤ L.length) : (markedS k L j).length = L.length := by simp [markedS, marksT_len]; omega
theorem markedS_all (k : Nat) (L : List (List UInt8)) {j : Nat} (h : j = L.length) : markedS k L j = marksT k L.length := by subst h; simp [markedS]
theorem markedS_step (k : Nat) (L : List (List UInt8)) {j : Nat} (h : j < L.length) : (strs (markedS k L j)).set j (.string (str (markT (k + j)))) = strs (markedS k L (j + 1)) := by
  apply List.ext_getElem?
  intro i
  simp only [markedS, List.getElem?_set, List.length_append, List.length_map, marksT_len, List.length_drop, List.getElem?_append, List.getElem?_map]
  by_cases h1 : j = i
  · subst h1
    simp [marksT]; omega
  · by_cases h2 : i < j
    · simp [marksT, h1, h2, show i < j + 1 by omega]
    · have h3 : ¬ i < j + 1 := by omega
      simp [h1, h2, h3, show j + (i - j) = i by omega, show j + 1 + (i - (j + 1)) = i by omega]

set_option maxHeartbeats 1000000 in
theorem markStrs_any (v : Value) (L : List (List UInt8)) (lo hi : Nat) (k : Nat) (w : World) (hk : 1 ≤ k) (hk' : k ≤ 1000000) (hn : L.length ≤ 1000000) (hhi : hi ≤ w.heap.size) (ho : Own w lo hi 9 v (strs L)) :
    Calls Try.prog 8 #[v, .int .i64 k] w fun e w' => e = .returned (.int .i64 ((k + L.length : Nat) : Int)) ∧ Own w' lo hi 9 v (strs (marksT k L.length)) ∧ w.grownBy w' v.ownBlock := by
  have hlen : (strs L).length = L.length := by simp
  rcases ho.1.2 with ⟨rfl, h0⟩ | ⟨g, cap, cur, rfl, hg⟩
  · have : L = [] := List.eq_nil_of_length_eq_zero (by rw [← hlen]; exact h0)
    subst this
    clear h0 hlen
    go_enter Try.func8, Try.ntmps8
    go_wp2
    go_loop [1, 5] (fun q i => q = .int .i64 k ∧ i = .int .i64 0) (fun _ _ => 0)
    case atStart => exact ⟨rfl, rfl⟩
    case round =>
      obtain ⟨rfl, rfl⟩ := hrel
      go_wp2
      go_ret
      exact ⟨rfl, ho, World.grownBy.refl _ _⟩
  · clear hg
    obtain ⟨n, hnn⟩ : ∃ n, L.length = n := ⟨_, rfl⟩
    have hlo := ho.2 g rfl
    rw [hlen, hnn] at ho ⊢
    have hown0 : w.ownsRow lo 9 1 (.slice (some ⟨g, 0, none⟩) n cap) n (strs L) := by
      have h := ho.1
      rw [hlen, hnn] at h
      exact h
    have Hvn := Lib.hid hnn
    have Ho := Lib.hid ho
    rw [hnn] at hn
    clear hnn hlen ho
    go_enter Try.func8, Try.ntmps8
    go_wp2
    go_loopw [1, 5] (fun q i wr => ∃ j : Nat, j ≤ n ∧ i = .int .i64 j ∧ q = .int .i64 ((k + j : Nat) : Int) ∧ wr.ownsRow lo 9 1 (.slice (some ⟨g, 0, none⟩) n cap) n (strs (markedS k L j)) ∧ w.grownBy wr (some g)) (fun _ i _ => n - (intOf i).toNat)
    case atStart => exact ⟨0, Nat.zero_le _, rfl, by go_num, by rw [markedS_zero]; exact hown0, World.grownBy.refl _ _⟩
    case round =>
      obtain ⟨j, hj, rfl, rfl, hown, hgr⟩ := hrel
      have hszr := hgr.size
      by_cases hlt : j < n
      · have Hown := Lib.hid hown
        have Hgr := Lib.hid hgr
        clear hown hgr
        go_wp2_with fail
        refine (markText_any (k + j) wr (by omega) (by omega)).mono ?_
        rintro e w2 ⟨rfl, hb2⟩
        have hown : w2.ownsRow lo 9 1 (.slice (some ⟨g, 0, none⟩) n cap) n (strs (markedS k L j)) := owns_below Hown.out hb2
        obtain ⟨u, hu⟩ : ∃ u, w2.cell? ⟨g, j, none⟩ = some u := by
          have := hown.cellAt j (by omega)
          have hl : (strs (markedS k L j)).length = n := by have := hown.1; omega
          rw [List.getElem?_eq_getElem (by omega)] at this
          exact ⟨_, this⟩
        have hf := hown.frozenAt j
        have hs := hown.stored j (.string (str (markT (k + j))))
        rw [markedS_step k L (by rw [Hvn.out]; exact hlt)] at hs
        have Hs := Lib.hid hs
        have Hg2 := Lib.hid (show w.grownBy w2 (some g) from ⟨hb2.os.trans Hgr.out.os, hb2.tape.trans Hgr.out.tape, hb2.output.trans Hgr.out.output, Nat.le_trans Hgr.out.size hb2.size, fun i hi hne => (hb2.block i (Nat.lt_of_lt_of_le hi Hgr.out.size)).trans (Hgr.out.block i hi hne)⟩)
        clear hs hown hb2
        go_wp2
        go_roundw
        case rel =>
          refine ⟨j + 1, by omega, by go_num, by go_num, Hs.out.1, ?_⟩
          have h2 := Hs.out.2
          exact ⟨h2.os.trans Hg2.out.os, h2.tape.trans Hg2.out.tape, h2.output.trans Hg2.out.output, Nat.le_trans Hg2.out.size h2.size, fun i hi hne => (h2.block i (Nat.lt_of_lt_of_le hi Hg2.out.size) hne).trans (Hg2.out.block i hi hne)⟩
        case measure => simp [intOf]; omega
      · have Hown := Lib.hid hown
        have Hg := Lib.hid hgr
        clear hown hgr
        go_wp2
        go_ret
        have hjn : j = n := by omega
        subst hjn
        have e1 := markedS_all k L (j := j) (by rw [Hvn.out])
        rw [Hvn.out] at e1
        have h3 := Hown.out
        rw [e1] at h3
        exact ⟨rfl, ⟨by simpa [marksT_len] using h3, Ho.out.2⟩, Hg.out⟩

set_option maxHeartbeats 1000000 in
theorem heldStrs_any (a : Option Addr) (n c : Nat) (k : Nat) (w : World) (hk : 1 ≤ k) (hk' : k ≤ 1000000) (hn : n ≤ 1000000) (ha : RV w a n c (strs (marksT k n))) :
    Calls Try.prog 9 #[.slice a n c, .int .i64 k] w fun e w' => e = .returned (.int .i64 ((k + n : Nat) : Int)) ∧ Below w.heap.size w w' := by
  have Ha := Lib.hid ha
  clear ha
  go_enter Try.func9, Try.ntmps9
  go_wp2
  go_loopw [1, 5] (fun q i wr => ∃ j : Nat, j ≤ n ∧ i = .int .i64 j ∧ q = .int .i64 ((k + j : Nat) : Int) ∧ Hid (Below w.heap.size w wr)) (fun _ i _ => n - (intOf i).toNat)
  case atStart => exact ⟨0, Nat.zero_le _, rfl, by go_num, Lib.hid (Below.refl _ _)⟩
  case round =>
    obtain ⟨j, hj, rfl, rfl, Hb⟩ := hrel
    by_cases hlt : j < n
    · have Ha' : RV wr a n c (strs (marksT k n)) := Ha.out.below Hb.out
      obtain ⟨b1, o1, rfl, hb1, hc1⟩ := Ha'.cellv (by omega)
      have e1 := hc1 j _ (strs_get (by rw [marksT_len]; exact hlt))
      rw [marksT_get hlt] at e1
      have hlt' : (j : Int) < n := by omega
      have Hmk := Lib.hid (fun W => by
        have h := markText_any (k + j) W (by omega) (by omega)
        rw [show ((k + j : Nat) : Int) = (k : Int) + (j : Int) from by omega] at h
        exact h)
      have HbW := Lib.hid hb1
      have He1 := Lib.hid e1
      clear Ha' hc1
      generalize str (markT (k + j)) = S at *
      go_wp2
      go_region_held3 (fun w' => w'.cell? ⟨b1, o1 + j, none⟩ = some (.string S) ∧ Below w.heap.size w w') (first | exact ⟨He1.out, Hb.out.os, Hb.out.tape, Hb.out.output, Hb.out.size, Hb.out.block⟩ | exact ⟨(hb2.cell (p := ⟨b1, o1 + j, none⟩) HbW.out).trans He1.out, Hb2.out⟩ | assumption) (first | (go_at_call 16; (with_reducible refine (Hmk.out _).mono ?_); rintro e w2 ⟨rfl, hb2⟩; replace hb2 : Below wr.heap.size wr w2 := ⟨hb2.os, hb2.tape, hb2.output, hb2.size, hb2.block⟩; have Hb2 := Lib.hid (bstep Hb.out hb2 (Nat.le_refl _))))
      all_goals
        go_wp2
        go_roundw
        case rel => exact ⟨j + 1, by omega, by go_num, by go_num, Hb2⟩
        case measure => simp [intOf]; omega
    · have hjn : j = n := by omega
      subst hjn
      go_wp2
      go_ret
      exact ⟨rfl, Hb.out⟩

theorem markStrs_one (v : Value) (L : List (List UInt8)) (lo hi : Nat) (w : World) (hn : L.length ≤ 1000000) (hhi : hi ≤ w.heap.size) (ho : Own w lo hi 9 v (strs L)) :
    Calls Try.prog 8 #[v, .int .i64 1] w fun e w' => e = .returned (.int .i64 (1 + (L.length : Int))) ∧ Own w' lo hi 9 v (strs (marksT 1 L.length)) ∧ w.grownBy w' v.ownBlock := by
  have h := markStrs_any v L lo hi 1 w (by omega) (by omega) hn hhi ho
  rw [show ((1 + L.length : Nat) : Int) = 1 + (L.length : Int) from by omega] at h
  exact h
theorem heldStrs_one (a : Option Addr) (n c : Nat) (w : World) (hn : n ≤ 1000000) (ha : RV w a n c (strs (marksT 1 n))) :
    Calls Try.prog 9 #[.slice a n c, .int .i64 1] w fun e w' => e = .returned (.int .i64 (1 + (n : Int))) ∧ Below w.heap.size w w' := by
  have h := heldStrs_any a n c 1 w (by omega) (by omega) hn ha
  rw [show ((1 + n : Nat) : Int) = 1 + (n : Int) from by omega] at h
  exact h
end Go.Proofs.Ytemgllkkocieoaa
