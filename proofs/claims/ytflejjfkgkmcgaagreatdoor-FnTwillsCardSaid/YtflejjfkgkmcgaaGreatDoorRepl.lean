/-
  A replacer of single bytes, by walks: what build makes.
-/
import Derived.Test.YtflejjfkgkmcgaaGreatDoorOnce
import Derived.Test.YtflejjfkgkmcgaaGreatDoorStrs
import Derived.Deep.WholeRow
namespace Go.Proofs.YtflejjfkgkmcgaaGreatDoor
open Go Go.RowKit
set_option linter.unusedVariables false

/-- the first k bytes are themselves, the others 0 -/
def byteRow (k : Nat) : List Value := (List.range 256).map fun (i : Nat) => .int .u8 (if i < k then (i : Int) else 0)
theorem byteRow_len (k : Nat) : (byteRow k).length = 256 := by simp [byteRow]
theorem byteRow_step {k : Nat} (hk : k < 256) : (byteRow k).set k (.int .u8 k) = byteRow (k + 1) := by
  apply List.ext_getElem?
  intro i
  simp only [byteRow, List.getElem?_set, List.length_map, List.length_range, List.getElem?_map]
  by_cases h1 : k = i
  · subst h1; simp [hk]
  · by_cases h2 : i < 256
    · simp only [h1, if_false]
      rw [List.getElem?_range h2]
      simp only [Option.map_some]
      by_cases h3 : i < k
      · rw [if_pos h3, if_pos (show i < k + 1 by omega)]
      · rw [if_neg h3, if_neg (show ¬ i < k + 1 by omega)]
    · simp [h1, h2]
/-- the four texts of the replacer's table -/
def St4 (w : World) (h : Nat) : Prop := h < w.heap.size ∧ w.cell? ⟨h, 0, none⟩ = some (.string ⟨#[70]⟩) ∧ w.cell? ⟨h, 1, none⟩ = some (.string ⟨#[66]⟩) ∧ w.cell? ⟨h, 2, none⟩ = some (.string ⟨#[66]⟩) ∧ w.cell? ⟨h, 3, none⟩ = some (.string ⟨#[70]⟩)
theorem St4.drewN {w : World} {h : Nat} (s : St4 w h) (q : Nat) : St4 (w.drewN q) h := s
theorem St4.below {w w' : World} {h : Nat} (s : St4 w h) (hb : Below w.heap.size w w') : St4 w' h :=
  ⟨Nat.lt_of_lt_of_le s.1 hb.size, (hb.cell (p := ⟨h, 0, none⟩) s.1).trans s.2.1, (hb.cell (p := ⟨h, 1, none⟩) s.1).trans s.2.2.1, (hb.cell (p := ⟨h, 2, none⟩) s.1).trans s.2.2.2.1, (hb.cell (p := ⟨h, 3, none⟩) s.1).trans s.2.2.2.2⟩
theorem St4.other {w : World} {h g : Nat} (s : St4 w h) (hg : h ≠ g) (i : Nat) (v : Value) : St4 (w.setCell ⟨g, i, none⟩ v) h := by
  have key : ∀ j, (w.setCell ⟨g, i, none⟩ v).cell? ⟨h, j, none⟩ = w.cell? ⟨h, j, none⟩ := fun j => World.cell?_setCell_other _ _ _ _ (fun e => hg (congrArg Addr.block e).symm)
  exact ⟨by simpa using s.1, (key 0).trans s.2.1, (key 1).trans s.2.2.1, (key 2).trans s.2.2.2.1, (key 3).trans s.2.2.2.2⟩
/-- behind k rounds -/
def swK : Nat → List Value
  | 0 => byteRow 256
  | 1 => (byteRow 256).set 66 (.int .u8 70)
  | _ => ((byteRow 256).set 66 (.int .u8 70)).set 70 (.int .u8 66)
def swapRow : List Value := ((byteRow 256).set 66 (.int .u8 70)).set 70 (.int .u8 66)

theorem zeroRow : Tryz.zeroCells137 = (byteRow 0).toArray := by kernel_rfl
set_option maxRecDepth 100000 in
set_option maxHeartbeats 4000000 in
theorem build_any (g h cc : Nat) (hcc : 4 ≤ cc) (c0 c1 c2 r0 : Value) (w : World) (hb : Blk w g [c0, c1, c2, r0, .slice (some ⟨h, 0, none⟩) 4 cc] 107)
    (hr : St4 w h) :
    Calls Tryz.prog 82 #[.pointer (some ⟨g, 0, none⟩)] w fun e w' => ∃ k, w.heap.size ≤ k ∧ e = .returned (.iface 138 (.pointer (some ⟨k, 0, none⟩))) ∧ Blk w' k swapRow 137 ∧ Below w.heap.size w w' := by
  have c4 := hb.cell 4 _ rfl
  have s0 := hr.2.1
  have s1 := hr.2.2.1
  have s2 := hr.2.2.2.1
  have s3 := hr.2.2.2.2
  go_enter Tryz.func82, Tryz.ntmps82
  go_wp2
  have Hb0 := Lib.hid hb
  have Hr0 := Lib.hid hr
  clear hb hr c4 s0 s1 s2 s3
  go_loopw [4, 5] (fun a i wr => ∃ k q : Nat, k ≤ 2 ∧ i = .int .i64 (2 * k : Nat) ∧ a = .bool true ∧ Hid (wr = w.drewN q)) (fun _ i _ => 4 - (intOf i).toNat)
  case atStart => exact ⟨0, 0, by omega, rfl, rfl, Lib.hid rfl⟩
  case round =>
    obtain ⟨k, q, hk, rfl, rfl, Hw⟩ := hrel
    generalize wr = wo at *
    have hb : Blk wo g [c0, c1, c2, r0, .slice (some ⟨h, 0, none⟩) 4 cc] 107 := by rw [Hw.out]; exact Hb0.out.drewN q
    have hr : St4 wo h := by rw [Hw.out]; exact Hr0.out.drewN q
    have s0 := hr.2.1
    have s1 := hr.2.2.1
    have s2 := hr.2.2.2.1
    have s3 := hr.2.2.2.2
    have HBw := Lib.hid (show Below w.heap.size w wo by rw [Hw.out]; exact bdrewN (Below.refl _ _) q)
    have Hsw := Lib.hid (show wo.heap.size = w.heap.size by rw [Hw.out]; rfl)
    by_cases h2 : k = 2
    · subst h2
      have hbz : Blk (wo.alloc (.cells Tryz.zeroCells137 137)) wo.heap.size (byteRow 0) 137 := by
        have h := Blk.box wo (byteRow 0) 137 rfl
        rw [← zeroRow] at h
        exact h
      have hsc := run_storeCells_new (P := Tryz.prog) wo 137 Tryz.zeroCells137 Tryz.zeroCells137 (by kernel_rfl) rfl (by kernel_rfl)
      have hB0 := (Below.refl wo.heap.size wo).alloc (Nat.le_refl _) (.cells Tryz.zeroCells137 137)
      have Hb := Lib.hid hb
      have Hr := Lib.hid hr
      have Hbz := Lib.hid hbz
      have HB0 := Lib.hid hB0
      clear hb hr hbz hB0 s0 s1 s2 s3
      go_wp2_with fail
      go_loopw [61] (fun i wv => ∃ k : Nat, k ≤ 256 ∧ i = .int .i64 k ∧ Hid (Blk wv wo.heap.size (byteRow k) 137) ∧ Hid (Below wo.heap.size wo wv)) (fun i _ => 256 - (intOf i).toNat)
      case atStart => exact ⟨0, by omega, rfl, Hbz, HB0⟩
      case round =>
        obtain ⟨k, hk, rfl, Hbk, Hbl⟩ := hrel
        generalize wr = wl at *
        by_cases hlt : k < 256
        · have hc := Hbk.out.cell k (.int .u8 0) (by simp [byteRow, hlt])
          have hf := Hbk.out.frozen k
          have w8 : IntKind.u8.wrap (k : Int) = k := by rw [IntKind.wrap_u8]; omega
          have d0 : decide ((k : Int) < 256) = true := by simp; omega
          have d0' : decide (k < 256) = true := by simp [hlt]
          have Hbk2 := Lib.hid (by have h := Hbk.out.set k (.int .u8 k); rw [byteRow_step hlt] at h; exact h)
          have HB2 := Lib.hid (Hbl.out.setCell (p := ⟨wo.heap.size, k, none⟩) (Nat.le_refl _) (.int .u8 k))
          go_wp2_with fail
          go_roundw
          case rel => exact ⟨k + 1, by omega, by go_num, Hbk2, HB2⟩
          case measure => simp [intOf]; omega
        · have hk' : k = 256 := by omega
          subst hk'
          have hr3 := Hr.out.below Hbl.out
          have s0 := hr3.2.1
          have s1 := hr3.2.2.1
          have s2 := hr3.2.2.2.1
          have s3 := hr3.2.2.2.2
          go_wp2_with fail
          go_loopw [8] (fun i wv => ∃ k : Nat, k ≤ 2 ∧ i = .int .i64 (2 - 2 * (k : Int)) ∧ Hid (Blk wv wo.heap.size (swK k) 137) ∧ Hid (Below wo.heap.size wo wv)) (fun i _ => (intOf i + 2).toNat)
          case atStart => exact ⟨0, by omega, rfl, Hbk, Hbl⟩
          case round =>
            obtain ⟨k, hk, rfl, Hb3, HB3⟩ := hrel
            clear s0 s1 s2 s3 hr3 Hbk Hbl
            generalize wr = wn at *
            have hr3 := Hr.out.below HB3.out
            have s0 := hr3.2.1
            have s1 := hr3.2.2.1
            have s2 := hr3.2.2.2.1
            have s3 := hr3.2.2.2.2
            clear hr3
            have z66 : (⟨#[66]⟩ : ByteArray)[0].toNat = 66 := rfl
            have z70 : (⟨#[70]⟩ : ByteArray)[0].toNat = 70 := rfl
            rcases (show k = 0 ∨ k = 1 ∨ k = 2 by omega) with rfl | rfl | rfl
            · have hc := Hb3.out.cell 66 (.int .u8 66) (by kernel_rfl)
              have hf := Hb3.out.frozen 66
              have Hb4 := Lib.hid (Hb3.out.set 66 (.int .u8 70))
              have HB4 := Lib.hid (HB3.out.setCell (p := ⟨wo.heap.size, 66, none⟩) (Nat.le_refl _) (.int .u8 70))
              go_wp2_with fail
              go_roundw
              case rel => exact ⟨1, by omega, by go_num, Hb4, HB4⟩
              case measure => simp [intOf]
            · have hc := Hb3.out.cell 70 (.int .u8 70) (by kernel_rfl)
              have hf := Hb3.out.frozen 70
              have Hb4 := Lib.hid (Hb3.out.set 70 (.int .u8 66))
              have HB4 := Lib.hid (HB3.out.setCell (p := ⟨wo.heap.size, 70, none⟩) (Nat.le_refl _) (.int .u8 66))
              go_wp2_with fail
              go_roundw
              case rel => exact ⟨2, by omega, by go_num, Hb4, HB4⟩
              case measure => simp [intOf]
            · go_wp2_with fail
              go_ret
              exact ⟨_, Nat.le_of_eq Hsw.out.symm, rfl, Hb3.out, bstep HBw.out HB3.out (Nat.le_refl _)⟩
    · rcases (show k = 0 ∨ k = 1 by omega) with rfl | rfl
      · go_wp2
        go_roundw
        case rel => exact ⟨1, q, by omega, by go_num, rfl, Hw⟩
        case measure => simp [intOf]
      · go_wp2
        go_roundw
        case rel => exact ⟨2, q, by omega, by go_num, rfl, Hw⟩
        case measure => simp [intOf]
end Go.Proofs.YtflejjfkgkmcgaaGreatDoor
