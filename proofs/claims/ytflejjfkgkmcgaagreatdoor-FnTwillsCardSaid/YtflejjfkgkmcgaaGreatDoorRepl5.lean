/-
  The other side of a stroke, by walks.
-/
import Derived.Test.YtflejjfkgkmcgaaGreatDoorRepl4
import Derived.Test.YtflejjfkgkmcgaaGreatDoorDraft
namespace Go.Proofs.YtflejjfkgkmcgaaGreatDoor
open Go Go.RowKit
set_option linter.unusedVariables false

set_option maxRecDepth 100000 in
set_option maxHeartbeats 2000000 in
theorem replacerReplace_any (g h cc : Nat) (hcc : 4 ≤ cc) (s : ByteArray) (w : World) (hb : Blk w g [.int .u32 0, .int .i32 0, .int .u32 0, .nilIface, .slice (some ⟨h, 0, none⟩) 4 cc] 107) (hr : St4 w h) (hgh : g ≠ h)
    (h1 : 1 ≤ s.size) (h12 : s.size ≤ 100) (htw : two 70 66 s.data.toList = true) :
    Calls Tryz.prog 60 #[.pointer (some ⟨g, 0, none⟩), .string s] w fun e w' => e = .returned (.string (str (swapL s.data.toList))) ∧ w.grownBy w' (some g) := by
  have Hdo := Lib.hid (onceDo_any g h cc hcc _ _ w hb hr hgh)
  have Hrp := Lib.hid (fun k W hk => byteReplace_any k s W hk h1 h12 htw)
  have c0 := hb.cell 0 _ rfl
  generalize str (swapL s.data.toList) = T at *
  clear hb hr htw
  go_enter Tryz.func60, Tryz.ntmps60
  go_wp2_with fail
  with_reducible refine Hdo.out.mono ?_
  rintro e w1 ⟨k, hk, rfl, hb1, hk1, hg1⟩
  have c3 := hb1.cell 3 _ rfl
  have Hk1 := Lib.hid hk1
  have Hg1 := Lib.hid hg1
  clear hk1 hg1 hb1
  go_wp2_with fail
  with_reducible refine (Hrp.out k _ Hk1.out).mono ?_
  rintro e w2 ⟨rfl, hb2⟩
  have Hg2 := Lib.hid (ogtrans Hg1.out (ogbelow hb2 (some g)))
  clear hb2
  go_wp2_with fail
  go_ret
  exact ⟨rfl, Hg2.out⟩

theorem st4_box (w : World) : St4 (w.alloc (.cells #[.string ⟨#[70]⟩, .string ⟨#[66]⟩, .string ⟨#[66]⟩, .string ⟨#[70]⟩] 9)) w.heap.size := by
  have h := CellsAt.box w #[.string ⟨#[70]⟩, .string ⟨#[66]⟩, .string ⟨#[66]⟩, .string ⟨#[70]⟩] 9
  exact ⟨h.1, h.2 0 _ rfl, h.2 1 _ rfl, h.2 2 _ rfl, h.2 3 _ rfl⟩
theorem otherSide_any (s : ByteArray) (w : World) (h1 : 1 ≤ s.size) (h12 : s.size ≤ 100) (htw : two 70 66 s.data.toList = true) :
    Calls Tryz.prog 40 #[.string s] w fun e w' => e = .returned (.string (str (swapL s.data.toList))) ∧ Below w.heap.size w w' := by
  have Hnr := Lib.hid (newReplacer_any w.heap.size _ (st4_box w))
  have Hrp := Lib.hid (fun g h cc hcc W hb hr hgh => replacerReplace_any g h cc hcc s W hb hr hgh h1 h12 htw)
  generalize str (swapL s.data.toList) = T at *
  have HB := Lib.hid ((Below.refl w.heap.size w).alloc (Nat.le_refl _) (.cells #[.string ⟨#[70]⟩, .string ⟨#[66]⟩, .string ⟨#[66]⟩, .string ⟨#[70]⟩] 9))
  clear htw
  go_enter Tryz.func40, Tryz.ntmps40
  go_wp2_with fail
  with_reducible refine Hnr.out.mono ?_
  rintro e w1 ⟨g, h, cc, rfl, hcc, hgh, hg, hh, hb1, hs1, hbel⟩
  have Hb1 := Lib.hid hb1
  have Hs1 := Lib.hid hs1
  have HB1 := Lib.hid (bstep HB.out hbel (Nat.le_refl _))
  have hz1 := HB1.out.size
  have hgz : w.heap.size ≤ g := by simp at hg; omega
  clear hb1 hs1 hbel
  go_wp2_with fail
  with_reducible refine (Hrp.out g h cc hcc _ Hb1.out Hs1.out hgh).mono ?_
  rintro e w2 ⟨rfl, hg2⟩
  have HB2 := Lib.hid (HB1.out.grown hg2 hz1 (fun k hk => by simp at hk; omega))
  clear hg2
  go_wp2_with fail
  go_ret
  exact ⟨rfl, HB2.out⟩

def otherR (l : List UInt8) : ByteArray × Int := if vS l then (str (swapL l), 0) else (⟨#[]⟩, 1)
abbrev retSI (r : ByteArray × Int) : Ending := .returned (.tuple #[.string r.1, .int .i64 r.2])


end Go.Proofs.YtflejjfkgkmcgaaGreatDoor
