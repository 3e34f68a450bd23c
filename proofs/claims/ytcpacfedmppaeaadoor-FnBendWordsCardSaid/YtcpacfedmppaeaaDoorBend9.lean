/-
  Bends: how many rods can be drawn out, by walks.
-/
import Derived.Test.YtcpacfedmppaeaaDoorBend8
namespace Go.Proofs.YtcpacfedmppaeaaDoor
open Go.RowKit
set_option linter.unusedVariables false

def drawnR (l : List UInt8) (st : Int) : Int × Int := if codeS l st = 0 then ((((outW l st.toNat).length : Nat) : Int), 0) else (0, codeS l st)

set_option maxHeartbeats 1000000 in
theorem drawnOutE_any (s : ByteArray) (st : Int) (w : World) (hs : s.size ≤ maxLen) :
    Calls Tryd.prog 9 #[.string s, .int .i64 st] w fun e w' => e = rt2 (drawnR s.data.toList st) ∧ Below w.heap.size w w' := by
  have Hv := Lib.hid (fun W => by
    have h := bendCode_any s st 0 W hs
    rw [codeB_zero] at h
    exact h)
  by_cases hc : codeS s.data.toList st = 0
  · obtain ⟨hv, hst⟩ := codeS_ok hc
    have h8 := vB_iff.1 hv
    obtain ⟨N, rfl⟩ : ∃ N : Nat, st = (N : Int) := ⟨st.toNat, by omega⟩
    have Hd := Lib.hid (fun W => drawnOut_any s N W h8.2.2 h8.2.1 (by omega))
    rw [show drawnR s.data.toList N = ((((outW s.data.toList N).length : Nat) : Int), 0) by rw [drawnR, if_pos hc, Int.toNat_natCast]]
    rw [hc] at Hv
    clear hc hv h8 hst
    generalize (outW s.data.toList N).length = R at *
    go_enter Tryd.func9, Tryd.ntmps9
    go_wp2_with (first | (go_at_call 36; refine (Hv.out _).mono ?_; rintro e w1 ⟨rfl, hb⟩) | (go_at_call 40; refine (Hd.out _).mono ?_; rintro e w2 ⟨rfl, hb2⟩))
    go_ret2
    exact ⟨rfl, bstep hb hb2 (Nat.le_refl _)⟩
  · rw [show drawnR s.data.toList st = (0, codeS s.data.toList st) by rw [drawnR, if_neg hc]]
    have hc2 : (codeS s.data.toList st == 0) = false := by simp [hc]
    have hc3 : (codeS s.data.toList st != 0) = true := by simp [hc]
    obtain ⟨C, hC⟩ : ∃ C, codeS s.data.toList st = C := ⟨_, rfl⟩
    rw [hC] at Hv hc hc2 hc3 ⊢
    go_enter Tryd.func9, Tryd.ntmps9
    go_wp2_with (go_at_call 36; refine (Hv.out _).mono ?_; rintro e w1 ⟨rfl, hb⟩)
    go_ret2
    exact ⟨rfl, hb⟩

set_option maxHeartbeats 1000000 in
theorem specDrawnOut_any (s : ByteArray) (st : Int) (w : World) (hs : s.size ≤ maxLen) :
    Calls Tryd.prog 10 #[.string s, .int .i64 st] w fun e w' => e = rt2 (drawnR s.data.toList st) ∧ Below w.heap.size w w' := by
  have Hv := Lib.hid (fun W => l11Code_any s st W hs)
  by_cases hc : codeS s.data.toList st = 0
  · obtain ⟨hv, hst⟩ := codeS_ok hc
    have h8 := vB_iff.1 hv
    obtain ⟨N, rfl⟩ : ∃ N : Nat, st = (N : Int) := ⟨st.toNat, by omega⟩
    have Hd := Lib.hid (fun g W hc hg => l11Out_any s N g W h8.2.1 (by omega) hc hg)
    rw [show drawnR s.data.toList N = ((((outW s.data.toList N).length : Nat) : Int), 0) by rw [drawnR, if_pos hc, Int.toNat_natCast]]
    rw [hc] at Hv
    clear hc hv h8 hst
    generalize outW s.data.toList N = R at *
    go_enter Tryd.func10, Tryd.ntmps10
    go_wp2_with (first | (go_at_call 38; refine (Hv.out _).mono ?_; rintro e w1 ⟨rfl, q, rfl⟩) | (go_at_call 41; refine (Hd.out w.heap.size ((w.alloc (.cells #[.int .i64 0] 2)).drewN q) (show (w.alloc (.cells #[.int .i64 0] 2)).cell? _ = _ from cell_boxed rfl) (by show w.heap.size < (w.alloc _).heap.size; simp)).mono ?_; rintro e w2 ⟨v, rfl, ho, hb2⟩; have Hb2 := Lib.hid hb2; obtain ⟨a1, c1, rfl, hr1⟩ := ho.sliceI; clear hr1 ho hb2))
    go_ret2
    exact ⟨rfl, bstep (bdrewN ((Below.refl _ _).alloc (Nat.le_refl _) _) q) Hb2.out (Nat.le_refl _)⟩
  · rw [show drawnR s.data.toList st = (0, codeS s.data.toList st) by rw [drawnR, if_neg hc]]
    have hc2 : (codeS s.data.toList st == 0) = false := by simp [hc]
    have hc3 : (codeS s.data.toList st != 0) = true := by simp [hc]
    obtain ⟨C, hC⟩ : ∃ C, codeS s.data.toList st = C := ⟨_, rfl⟩
    rw [hC] at Hv hc hc2 hc3 ⊢
    go_enter Tryd.func10, Tryd.ntmps10
    go_wp2_with (go_at_call 38; refine (Hv.out _).mono ?_; rintro e w1 ⟨rfl, q, rfl⟩)
    go_ret2
    exact ⟨rfl, bdrewN (Below.refl _ _) q⟩
end Go.Proofs.YtcpacfedmppaeaaDoor
