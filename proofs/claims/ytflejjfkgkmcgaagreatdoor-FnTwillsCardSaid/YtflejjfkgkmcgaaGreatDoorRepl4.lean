/-
  A replacer of single bytes, by walks: a text with its two letters exchanged.
-/
import Derived.Test.YtflejjfkgkmcgaaGreatDoorRepl3
import Derived.Laws.IdiomStrings
namespace Go.Proofs.YtflejjfkgkmcgaaGreatDoor
open Go Go.RowKit
set_option linter.unusedVariables false

/-- the other letter -/
def swB (c : UInt8) : UInt8 := if c = 70 then 66 else 70
def swapL (l : List UInt8) : List UInt8 := l.map swB
def swTo (l : List UInt8) (j : Nat) : List UInt8 := (l.take j).map swB ++ l.drop j
theorem swTo_len (l : List UInt8) (j : Nat) : (swTo l j).length = l.length := by simp [swTo]; omega
theorem swTo_zero (l : List UInt8) : swTo l 0 = l := by simp [swTo]
theorem swTo_all (l : List UInt8) {j : Nat} (h : l.length ≤ j) : swTo l j = swapL l := by simp [swTo, swapL, List.take_of_length_le h, List.drop_eq_nil_of_le h]
theorem swTo_get {l : List UInt8} {j : Nat} (h : j < l.length) : (swTo l j).getD j 0 = l.getD j 0 := by
  simp [swTo, List.getElem?_append_right, h, Nat.min_eq_left (Nat.le_of_lt h)]
theorem swTo_step {l : List UInt8} {j : Nat} (h : j < l.length) : (swTo l j).set j (swB (l.getD j 0)) = swTo l (j + 1) := by
  apply List.ext_getElem?
  intro i
  simp only [swTo, List.getElem?_set, List.length_append, List.length_map, List.length_take, List.length_drop, List.getElem?_append, List.getElem?_map, List.getElem?_take, List.getElem?_drop]
  rw [Nat.min_eq_left (Nat.le_of_lt h), Nat.min_eq_left (show j + 1 ≤ l.length by omega)]
  by_cases h1 : j = i
  · subst h1
    simp [h]; omega
  · by_cases h2 : i < j
    · simp [h1, h2, show i < j + 1 by omega]
    · have h3 : ¬ i < j + 1 := by omega
      simp [h1, h2, h3, show j + (i - j) = i by omega, show j + 1 + (i - (j + 1)) = i by omega]

def BufAt (w : World) (b : Nat) (L : List UInt8) : Prop := b < w.heap.size ∧ ∀ i, i < L.length → w.cell? ⟨b, i, none⟩ = some (.int .u8 (bat L i)) ∧ w.frozen? ⟨b, i, none⟩ = false
theorem BufAt.set {w : World} {b : Nat} {L : List UInt8} (h : BufAt w b L) {i : Nat} (hi : i < L.length) (c : UInt8) : BufAt (w.setCell ⟨b, i, none⟩ (.int .u8 c.toNat)) b (L.set i c) := by
  refine ⟨by simpa using h.1, fun j hj => ?_⟩
  rw [List.length_set] at hj
  refine ⟨?_, (World.frozen?_setCell _ _ _ _).trans (h.2 j hj).2⟩
  by_cases e : i = j
  · subst e
    rw [World.cell?_setCell_same _ _ _ (h.2 i hi).1]
    simp [bat, hi]
  · rw [World.cell?_setCell_other _ _ _ _ (fun h => e (by simpa using congrArg Addr.off h)), (h.2 j hj).1]
    simp [bat, e]
theorem BufAt.made (w : World) (s : ByteArray) (e : TypeId) (cap : Nat) : BufAt (w.alloc (.cells (bytesRow s cap) e ((bytesRow s cap).size, (bytesRow s cap).size + 1))) w.heap.size s.data.toList := by
  refine ⟨by simp, fun i hi => ?_⟩
  have hi2 : i < s.data.size := by simpa using hi
  have hh := heap_alloc_last w (.cells (bytesRow s cap) e ((bytesRow s cap).size, (bytesRow s cap).size + 1))
  have hc := bytesRow_at s cap i hi2
  have hsz : i < (bytesRow s cap).size := (Array.getElem?_eq_some_iff.1 hc).1
  constructor
  · rw [cell_of_row _ _ _ _ _ _ hh, hc]
    rw [← bat_get (s := s) hi2]
    rfl
  · unfold World.frozen?
    simp only [hh]
    simp; omega
theorem run_buf_string {P : Program} {W : World} (src dst e : TypeId) (hs : P.underlying src = some (.slice e)) (he : P.underlying e = some (.int .u8)) (hd : P.underlying dst = some .string)
    {b n c : Nat} {l : List UInt8} (hl : l.length = n) (h : BufAt W b l) : (convert src dst (.slice (some ⟨b, 0, none⟩) n c)).run P W = .ok (.string (str l)) W := by
  subst hl
  rw [run_convert_bytes_string W src dst e _ _ _ hs he hd]
  have hcell : ∀ j v, (u8s (bytesI l))[j]? = some v → W.cell? ((⟨b, 0, none⟩ : Addr).add j) = some v := by
    intro j v hv
    have hj : j < (u8s (bytesI l)).length := (List.getElem?_eq_some_iff.1 hv).1
    have hj2 : j < l.length := by simpa [bytesI] using hj
    have h0 := (h.2 j hj2).1
    have hv2 : v = .int .u8 (bat l j) := by
      simp [bytesI, hj2] at hv
      rw [← hv]; simp [bat, hj2]
    rw [hv2]
    simp only [Addr.add]
    split
    · next hz => simpa [hz] using h0
    · simpa using h0
  have h1 := run_loadCells_list (P := P) (w := W) ⟨b, 0, none⟩ (u8s (bytesI l)) hcell
  have hlen : (u8s (bytesI l)).length = l.length := by simp [bytesI]
  rw [hlen] at h1
  rw [run_bytesToString W ⟨b, 0, none⟩ l.length c (bytesI l) h1, foldl_push]
  congr 2

theorem swRow_at {c : UInt8} (h : c = 70 ∨ c = 66) : swapRow[c.toNat]? = some (.int .u8 (swB c).toNat) := by
  rcases h with rfl | rfl <;> kernel_rfl
set_option maxRecDepth 100000 in
set_option maxHeartbeats 4000000 in
theorem byteReplace_any (k : Nat) (s : ByteArray) (w : World) (hk : Blk w k swapRow 137) (h1 : 1 ≤ s.size) (h12 : s.size ≤ 100) (htw : two 70 66 s.data.toList = true) :
    Calls Tryz.prog 153 #[.pointer (some ⟨k, 0, none⟩), .string s] w fun e w' => e = .returned (.string (str (swapL s.data.toList))) ∧ Below w.heap.size w w' := by
  obtain ⟨l, Hl⟩ : ∃ l, Hid (l = s.data.toList) := ⟨_, rfl⟩
  have Hll := Lib.hid (show l.length = s.size by rw [Hl.out, size_list])
  rw [← Hl.out] at htw ⊢
  have Hk := Lib.hid hk
  have Hbat := Lib.hid (fun j (hj : j < s.size) => show (s[j]'hj).toNat = bat l j by rw [Hl.out]; exact bat_get hj)
  have Hlet := Lib.hid (fun j (hj : j < s.size) => show l.getD j 0 = 70 ∨ l.getD j 0 = 66 by
    have hj2 : j < l.length := by rw [Hll.out]; exact hj
    exact two_iff.1 htw _ (by simp [hj2]))
  have hcv := fun W => run_bytes_of_string (P := Tryz.prog) W 9 22 5 s Tryz.underlying9 Tryz.underlying22 Tryz.underlying5
  obtain ⟨N, hN⟩ : ∃ N, s.size = N := ⟨_, rfl⟩
  clear hk htw
  have hcv0 := hcv w
  obtain ⟨cap, hcap⟩ : ∃ cap, grownCap w s.size 0 5 = cap := ⟨_, rfl⟩
  rw [hcap] at hcv0
  obtain ⟨OB, hOB⟩ : ∃ OB : Obj, OB = .cells (bytesRow s cap) 5 ((bytesRow s cap).size, (bytesRow s cap).size + 1) := ⟨_, rfl⟩
  rw [← hOB] at hcv0
  have Hmade := Lib.hid (show BufAt (w.alloc OB) w.heap.size l by rw [hOB, Hl.out]; exact BufAt.made w s _ cap)
  have Hbel := Lib.hid (show Below w.heap.size w (w.alloc OB) from (Below.refl _ _).alloc (Nat.le_refl _) OB)
  rw [hN] at hcv0
  clear hcv hcap hOB
  have hnn : (none : Option Addr).isNone = true := rfl
  go_enter Tryz.func153, Tryz.ntmps153
  go_wp2
  go_loopw [5, 6] (fun v i wr => ∃ j : Nat, j ≤ N ∧ i = .int .i64 j ∧ ((j = 0 ∧ v = .slice none 0 0 ∧ wr = w) ∨ (0 < j ∧ v = .slice (some ⟨w.heap.size, 0, none⟩) N cap ∧ Hid (BufAt wr w.heap.size (swTo l j)) ∧ Hid (Below w.heap.size w wr)))) (fun _ i _ => N - (intOf i).toNat)
  case atStart => exact ⟨0, Nat.zero_le _, rfl, .inl ⟨rfl, rfl, rfl⟩⟩
  case round =>
    obtain ⟨j, hj, rfl, hst⟩ := hrel
    have hjc : j < N ∨ j = N := by omega
    rcases hst with ⟨rfl, rfl, hw⟩ | ⟨hj0, rfl, Hbuf, Hb⟩
    · subst hw
      have hjs : 0 < s.size := by omega
      have hlet := Hlet.out 0 hjs
      have hxb := Hbat.out 0 hjs
      obtain ⟨x, hx⟩ : ∃ x, (s[0]'hjs).toNat = x := ⟨_, rfl⟩
      rw [hx] at hxb
      obtain ⟨y, hy⟩ : ∃ y, (swB (l.getD 0 0)).toNat = y := ⟨_, rfl⟩
      have hrow := swRow_at hlet
      rw [hy, show (l.getD 0 0).toNat = x from hxb.symm] at hrow
      have hxy : (x = 70 ∧ y = 66) ∨ (x = 66 ∧ y = 70) := by
        rcases hlet with h | h
        · left; rw [hxb, ← hy]; unfold bat; rw [h]; exact ⟨rfl, rfl⟩
        · right; rw [hxb, ← hy]; unfold bat; rw [h]; exact ⟨rfl, rfl⟩
      have hx256 : (x : Int) < 256 := by omega
      have hx256' : x < 256 := by omega
      have n1 : ((y : Int) != (x : Int)) = true := by simp; omega
      have n2 : (y != x) = true := by simp; omega
      have n3 : ((y : Int) == (x : Int)) = false := by simp; omega
      have n4 : (y == x) = false := by simp; omega
      have e1 := Hk.out.cell x _ hrow
      have e2 := (Hk.out.alloc OB).cell x _ hrow
      have hb0 := (Hmade.out.2 0 (by rw [Hll.out]; exact hjs))
      have b1 := hb0.1
      have b2 := hb0.2
      have Hset := Lib.hid (by have h := Hmade.out.set (i := 0) (by rw [Hll.out]; exact hjs) (swB (l.getD 0 0)); rw [hy] at h; exact h)
      have Hst := Lib.hid (swTo_step (l := l) (j := 0) (by rw [Hll.out]; exact hjs))
      have Hbs := Lib.hid (Hbel.out.setCell (p := ⟨wr.heap.size, 0, none⟩) (Nat.le_refl _) (.int .u8 y))
      have hN0 : (0 : Int) < N := by omega
      clear hrow hlet hxb hb0
      go_wp2_with fail
      with_reducible apply_assumption
      simp only [Act.put, hnn, List.setIfInBounds_toArray, List.set_cons_zero, List.set_cons_succ]
      go_wp2_with fail
      go_roundw
      case rel =>
        refine ⟨1, by omega, by go_num, .inr ⟨by omega, rfl, Lib.hid ?_, Lib.hid ?_⟩⟩
        · have h := Hset.out
          rw [show l.set 0 (swB (l.getD 0 0)) = swTo l 1 by rw [← Hst.out, swTo_zero]] at h
          exact h
        · exact bdrewN Hbs.out 1
      case measure => simp [intOf]; omega
    · generalize wr = wx at *
      rcases hjc with hlt | hjN
      · have hjl : j < l.length := by rw [Hll.out]; omega
        have hjs : j < s.size := by omega
        have hlet := Hlet.out j hjs
        have hxb := Hbat.out j hjs
        obtain ⟨x, hx⟩ : ∃ x, (s[j]'hjs).toNat = x := ⟨_, rfl⟩
        rw [hx] at hxb
        obtain ⟨y, hy⟩ : ∃ y, (swB (l.getD j 0)).toNat = y := ⟨_, rfl⟩
        have hrow := swRow_at hlet
        rw [hy, show (l.getD j 0).toNat = x from hxb.symm] at hrow
        have hxy : (x = 70 ∧ y = 66) ∨ (x = 66 ∧ y = 70) := by
          rcases hlet with h | h
          · left; rw [hxb, ← hy]; unfold bat; rw [h]; exact ⟨rfl, rfl⟩
          · right; rw [hxb, ← hy]; unfold bat; rw [h]; exact ⟨rfl, rfl⟩
        have hx256 : (x : Int) < 256 := by omega
        have hx256' : x < 256 := by omega
        have n1 : ((y : Int) != (x : Int)) = true := by simp; omega
        have n2 : (y != x) = true := by simp; omega
        have n3 : ((y : Int) == (x : Int)) = false := by simp; omega
        have n4 : (y == x) = false := by simp; omega
        have e1 := (Hk.out.below Hb.out).cell x _ hrow
        have hbj := Hbuf.out.2 j (by rw [swTo_len]; exact hjl)
        have b1 := hbj.1
        have b2 := hbj.2
        have Hset := Lib.hid (by have h := Hbuf.out.set (i := j) (by rw [swTo_len]; exact hjl) (swB (l.getD j 0)); rw [hy, swTo_step hjl] at h; exact h)
        have Hbs := Lib.hid (Hb.out.setCell (p := ⟨w.heap.size, j, none⟩) (Nat.le_refl _) (.int .u8 y))
        have hji : (j : Int) < N := by omega
        clear hrow hlet hxb hbj
        go_wp2_with fail
        with_reducible apply_assumption
        simp only [Act.put, List.setIfInBounds_toArray, List.set_cons_zero, List.set_cons_succ]
        go_wp2_with fail
        go_roundw
        case rel => exact ⟨j + 1, by omega, by go_num, .inr ⟨by omega, rfl, Hset, Hbs⟩⟩
        case measure => simp [intOf]; omega
      · subst hjN
        have hbuf := Hbuf.out
        rw [swTo_all l (by rw [Hll.out]; omega)] at hbuf
        have hcv2 := run_buf_string (P := Tryz.prog) (W := wx) (c := cap) 22 9 5 Tryz.underlying22 Tryz.underlying5 Tryz.underlying9 (n := j) (by rw [swapL, List.length_map, Hll.out, hN]) hbuf
        clear hbuf
        have d0 : decide ((j : Int) < (j : Int)) = false := by simp
        go_wp2_with fail
        with_reducible apply_assumption
        simp only [Act.put, List.setIfInBounds_toArray, List.set_cons_zero, List.set_cons_succ]
        go_wp2_with fail
        go_ret
        exact ⟨rfl, Hb.out⟩
end Go.Proofs.YtflejjfkgkmcgaaGreatDoor
