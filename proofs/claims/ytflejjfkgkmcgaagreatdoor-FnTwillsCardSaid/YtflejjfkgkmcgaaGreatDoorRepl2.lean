/-
  A replacer of single bytes, by walks: the first use.
-/
import Derived.Test.YtflejjfkgkmcgaaGreatDoorRepl
namespace Go.Proofs.YtflejjfkgkmcgaaGreatDoor
open Go Go.RowKit
set_option linter.unusedVariables false

theorem ogtrans {a b c : World} {row : Option Nat} (h : a.grownBy b row) (k : b.grownBy c row) : a.grownBy c row :=
  ⟨k.os.trans h.os, k.tape.trans h.tape, k.output.trans h.output, Nat.le_trans h.size k.size, fun i hi hne => (k.block i (Nat.lt_of_lt_of_le hi h.size) hne).trans (h.block i hi hne)⟩
theorem ogset (w : World) (g i : Nat) (v : Value) : w.grownBy (w.setCell ⟨g, i, none⟩ v) (some g) := gsetK w g i v
theorem ogbelow {a b : World} (h : Below a.heap.size a b) (row : Option Nat) : a.grownBy b row := ⟨h.os, h.tape, h.output, h.size, fun i hi _ => h.block i hi⟩
theorem ogdrew {a b : World} {row : Option Nat} (h : a.grownBy b row) : a.grownBy b.drew row := ⟨h.os, h.tape, h.output, h.size, h.block⟩
abbrev swIface (k : Nat) : Value := .iface 138 (.pointer (some ⟨k, 0, none⟩))
set_option maxRecDepth 100000 in
theorem buildOnce_any (g h cc : Nat) (hcc : 4 ≤ cc) (c0 c1 c2 r0 : Value) (w : World) (hb : Blk w g [c0, c1, c2, r0, .slice (some ⟨h, 0, none⟩) 4 cc] 107)
    (hr : St4 w h) :
    Calls Tryz.prog 72 #[.pointer (some ⟨g, 0, none⟩)] w fun e w' => ∃ k, w.heap.size ≤ k ∧ e = .returned (.tuple #[]) ∧ Blk w' g [c0, c1, c2, swIface k, .slice none 0 0] 107 ∧ Blk w' k swapRow 137 ∧ w.grownBy w' (some g) := by
  have hlt := hb.lt
  have Hbd := Lib.hid (build_any g h cc hcc c0 c1 c2 r0 w hb hr)
  have Hb := Lib.hid hb
  clear hb hr
  go_enter Tryz.func72, Tryz.ntmps72
  go_wp2_with fail
  with_reducible refine Hbd.out.mono ?_
  rintro e w1 ⟨k, hk, rfl, hbk, hb1⟩
  have hb2 := Hb.out.below hb1
  have c3 := hb2.cell 3 _ rfl
  have f3 := hb2.frozen 3
  have c4 := hb2.cell 4 _ rfl
  have f4 := hb2.frozen 4
  have HB3 := Lib.hid ((hb2.set 3 (swIface k)).set 4 (.slice none 0 0))
  have HK3 := Lib.hid ((hbk.other (g := g) (i := 3) (by omega) (swIface k)).other (g := g) (i := 4) (by omega) (.slice none 0 0))
  have HG3 := Lib.hid (ogtrans (ogtrans (ogbelow hb1 (some g)) (ogset w1 g 3 (swIface k))) (ogset _ g 4 (.slice none 0 0)))
  clear hb2 hbk hb1
  go_wp2_with fail
  go_end0
  exact ⟨k, hk, rfl, HB3.out, HK3.out, HG3.out⟩

set_option maxRecDepth 100000 in
theorem boolLoad_zero (g : Nat) (w : World) (h : w.cell? ⟨g, 0, none⟩ = some (.int .u32 0)) : Calls Tryz.prog 80 #[.pointer (some ⟨g, 0, none⟩)] w fun e w' => e = .returned (.bool false) ∧ w = w' := by
  have hl := run_call_load (P := Tryz.prog) Tryz.func93 (by kernel_rfl) (by kernel_rfl) (by kernel_rfl) .u32 (by kernel_rfl) h
  go_enter Tryz.func80, Tryz.ntmps80
  go_wp2
  go_ret
  exact ⟨rfl, rfl⟩

set_option maxRecDepth 100000 in
set_option maxHeartbeats 2000000 in
theorem onceSlow_any (g h cc : Nat) (hcc : 4 ≤ cc) (c2 r0 : Value) (w : World) (hb : Blk w g [.int .u32 0, .int .i32 0, c2, r0, .slice (some ⟨h, 0, none⟩) 4 cc] 107)
    (hr : St4 w h) (hgh : g ≠ h) :
    Calls Tryz.prog 81 #[.pointer (some ⟨g, 0, none⟩), .func (.func 72) #[.pointer (some ⟨g, 0, none⟩)] #[]] w fun e w' => ∃ k, w.heap.size ≤ k ∧ e = .returned (.tuple #[]) ∧ Blk w' g [.int .u32 1, .int .i32 0, c2, swIface k, .slice none 0 0] 107 ∧ Blk w' k swapRow 137 ∧ w.grownBy w' (some g) := by
  have hlt := hb.lt
  have hb1 := hb.set 1 (.int .i32 1)
  simp only [List.set_cons_succ, List.set_cons_zero] at hb1
  have hr1 := hr.other (g := g) (Ne.symm hgh) 1 (.int .i32 1)
  have hbo := buildOnce_any g h cc hcc _ _ _ _ _ hb1 hr1
  have Hld := Lib.hid (boolLoad_zero g _ (hb1.cell 0 _ rfl))
  have hnot : ∀ (x : Bool) (w : World), (Op.unary .not (.bool x)).run Tryz.prog w = .ok (.bool (!x)) w := fun _ _ => rfl
  have h1 := hb.cell 1 _ rfl
  have f1 := hb.frozen 1
  have h0 := hb.cell 0 _ rfl
  have Hbo := Lib.hid hbo
  clear hbo hb hr hb1 hr1
  go_enter_defers Tryz.func81, Tryz.ntmps81
  go_wp2_with (first | (go_at_call 94; refine (lock_free ⟨g, 1, none⟩ _ (by go_simp) (by go_simp)).mono ?_; rintro e w' ⟨rfl, rfl⟩) | (go_at_call 80; with_reducible refine Hld.out.mono ?_; rintro e w' ⟨rfl, rfl⟩) | (go_at_call 72; with_reducible refine Hbo.out.mono ?_; rintro e w2 ⟨k, hk, rfl, hb2, hk2, hg2⟩))
  have hz2 := hg2.size
  have k0 := hb2.cell 0 _ rfl
  have k1 := hb2.cell 1 _ rfl
  have g0 := hb2.frozen 0
  have g1 := hb2.frozen 1
  have hb3 := (hb2.drewN 1).set 0 (.int .u32 1)
  have hk3 := (hk2.drewN 1).other (g := g) (i := 0) (by have := hb2.lt; have := hk2.lt; simp at hk; omega) (.int .u32 1)
  have hg3 := ogtrans (ogdrew hg2) (ogset w2.drew g 0 (.int .u32 1))
  simp only [List.set_cons_zero] at hb3
  have hb4 := hb3.set 1 (.int .i32 0)
  have hk4 := hk3.other (g := g) (i := 1) (by simp at hk; omega) (.int .i32 0)
  have hg4 := ogtrans hg3 (ogset _ g 1 (.int .i32 0))
  simp only [List.set_cons_succ, List.set_cons_zero] at hb4
  have HB3 := Lib.hid hb3
  have HB4 := Lib.hid hb4
  have HK4 := Lib.hid hk4
  have HG4 := Lib.hid (ogtrans (ogset w g 1 (.int .i32 1)) hg4)
  clear hb3 hb4 hk3 hk4 hg3 hg4
  go_wp2
  refine leaves_cons (f := 96) (args := #[.pointer (some ⟨g, 0, none⟩), .bool true]) (by simp) (by simp [go_sem]) ?_
  refine (store_deferred ⟨g, 0, none⟩ (.int .u32 0) .returning _ k0 g0).mono ?_
  rintro e u' w'' ⟨rfl, rfl, rfl⟩
  refine leaves_cons (f := 95) (args := #[.pointer (some ⟨g, 1, none⟩)]) (by simp [settle]) (by simp [go_sem]) ?_
  refine (unlock_deferred ⟨g, 1, none⟩ _ _ (HB3.out.cell 1 _ rfl) (HB3.out.frozen 1)).mono ?_
  rintro e u' w'' ⟨rfl, rfl, rfl⟩
  simp [Leaves, settle, results, Tryz.results81]
  exact ⟨k, by simpa using hk, HB4.out, HK4.out, HG4.out⟩

set_option maxRecDepth 100000 in
theorem onceDo_any (g h cc : Nat) (hcc : 4 ≤ cc) (c2 r0 : Value) (w : World) (hb : Blk w g [.int .u32 0, .int .i32 0, c2, r0, .slice (some ⟨h, 0, none⟩) 4 cc] 107) (hr : St4 w h) (hgh : g ≠ h) :
    Calls Tryz.prog 71 #[.pointer (some ⟨g, 0, none⟩), .func (.func 72) #[.pointer (some ⟨g, 0, none⟩)] #[]] w fun e w' => ∃ k, w.heap.size ≤ k ∧ e = .returned (.tuple #[]) ∧ Blk w' g [.int .u32 1, .int .i32 0, c2, swIface k, .slice none 0 0] 107 ∧ Blk w' k swapRow 137 ∧ w.grownBy w' (some g) := by
  have Hld := Lib.hid (boolLoad_zero g _ (hb.cell 0 _ rfl))
  have Hsl := Lib.hid (onceSlow_any g h cc hcc c2 r0 w hb hr hgh)
  have h0 := hb.cell 0 _ rfl
  clear hb hr
  go_enter Tryz.func71, Tryz.ntmps71
  go_wp2_with (first | (go_at_call 80; with_reducible refine Hld.out.mono ?_; rintro e w' ⟨rfl, rfl⟩) | (go_at_call 81; with_reducible refine Hsl.out.mono ?_; rintro e w2 ⟨k, hk, rfl, hb2, hk2, hg2⟩))
  go_end0
  exact ⟨k, hk, rfl, hb2, hk2, hg2⟩
end Go.Proofs.YtflejjfkgkmcgaaGreatDoor
