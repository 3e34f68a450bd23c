/-
  Weaves, by walks: rounds, and after how many a weave begins again; plain facts for the law on weaves.
-/
import Derived.Test.YtngllaaminognaaGreatDoorWeave
import Derived.Test.YtngllaaminognaaGreatDoorWeavePlain
namespace Go.Proofs.YtngllaaminognaaGreatDoor
open Go.RowKit
set_option linter.unusedVariables false

theorem codeW_ok {l : List UInt8} {st : Int} (hv : vS l = true) (h1 : 3 ≤ st) (h2 : st ≤ 60) : codeW l st = 0 := by
  unfold codeW
  rw [if_pos hv, if_pos (show areSt st = true from inB_iff.2 ⟨h1, h2⟩)]

theorem BeginsAgain_any (s : ByteArray) (m : Nat) (w : World) (hv : vS s.data.toList = true) (h0 : 3 ≤ m) (h1 : m ≤ 60) :
    Calls Tryz.prog 8 #[.string s, .int .i64 m] w fun e w' => e = .returned (.tuple #[.int .i64 (agW s.size m : Nat), .int .i64 0]) ∧ Below w.heap.size w w' := by
  obtain ⟨hs0, hs1, htw⟩ := vS_iff.1 hv
  rw [size_list] at hs0 hs1
  have Hc := Lib.hid (fun W => strokeCode_any s m W (by unfold maxLen; omega))
  rw [codeW_ok hv (by omega) (by omega)] at Hc
  have Hb := Lib.hid (fun W => beginsAgain_any s m W hs0 (by omega) (by omega) (by omega))
  generalize agW s.size m = M at *
  clear hv htw
  go_enter Tryz.func8, Tryz.ntmps8
  go_wp2_with (first | (go_at_call 14; with_reducible refine (Hc.out _).mono ?_; rintro e w1 ⟨rfl, hb1⟩; have Hb1 := Lib.hid hb1; clear hb1) | (go_at_call 15; with_reducible refine (Hb.out _).mono ?_; rintro e w2 ⟨rfl, q, rfl⟩))
  go_ret2
  exact ⟨rfl, bdrewN Hb1.out q⟩

set_option maxHeartbeats 1000000 in
theorem RoundOf_any (s : ByteArray) (m r : Nat) (w : World) (hv : vS s.data.toList = true) (h0 : 3 ≤ m) (h1 : m ≤ 60) (hr : r ≤ 100) :
    Calls Tryz.prog 9 #[.string s, .int .i64 m, .int .i64 r] w fun e w' => e = .returned (.tuple #[.string (str (alongL s.data.toList (r * m : Nat) 1 m)), .int .i64 0]) ∧ Below w.heap.size w w' := by
  obtain ⟨hs0, hs1, htw⟩ := vS_iff.1 hv
  rw [size_list] at hs0 hs1
  have Hv := Lib.hid (fun W => validStroke_any s W (by unfold maxLen; omega))
  rw [hv] at Hv
  have hp : r * m ≤ 100 * 60 := Nat.mul_le_mul hr h1
  have hpi : (r : Int) * (m : Int) = ((r * m : Nat) : Int) := by simp
  have Ha := Lib.hid (fun W => along_any s (r * m : Nat) 1 m W hs0 (by omega) (by omega) (by omega) (by omega) (by omega))
  have Hst := Lib.hid (fun W => areStakes_any m W)
  rw [show areSt (m : Int) = true from inB_iff.2 ⟨by omega, by omega⟩] at Hst
  have Hin := Lib.hid (fun W => within_any (r : Int) 0 100 W)
  rw [show inB (r : Int) 0 100 = true from inB_iff.2 ⟨by omega, by omega⟩] at Hin
  obtain ⟨p, hpp⟩ : ∃ p : Nat, r * m = p := ⟨_, rfl⟩
  rw [hpp] at hp hpi Ha ⊢
  generalize str (alongL s.data.toList (p : Nat) 1 m) = T at *
  have q1 : IntKind.i64.wrap ((r : Int) * (m : Int)) = (p : Int) := by rw [hpi]; exact IntWalk.i64_in _ (by omega)
  clear hv htw hpp
  go_enter Tryz.func9, Tryz.ntmps9
  go_wp2_with (first | (go_at_call 12; with_reducible refine (Hv.out _).mono ?_; rintro e w1 ⟨rfl, hb1⟩; have Hb1 := Lib.hid hb1; clear hb1) | (go_at_call 16; with_reducible refine (Hst.out _).mono ?_; rintro e w2 ⟨rfl, rfl⟩) | (go_at_call 17; with_reducible refine (Hin.out _).mono ?_; rintro e w2 ⟨rfl, rfl⟩) | (go_at_call 18; with_reducible refine (Ha.out _).mono ?_; rintro e w3 ⟨rfl, hb3⟩; have Hb3 := Lib.hid (bstep Hb1.out hb3 (Nat.le_refl _)); clear hb3))
  go_ret2
  exact ⟨rfl, Hb3.out⟩

/-- a weave does not begin again before it does -/
theorem again_first {n m r : Nat} (hn : 1 ≤ n) (hm : 1 ≤ m) (h0 : 0 < r) (h : r < agW n m) : (r * m) % n ≠ 0 := by
  intro hz
  have hd : n ∣ r * m := Nat.dvd_of_mod_eq_zero hz
  have hg : 0 < Nat.gcd n m := Nat.gcd_pos_of_pos_left m (by omega)
  have e : agW n m = n / Nat.gcd n m := by
    unfold agW gcdI
    simp only [Int.toNat_natCast]
    rw [← Int.natCast_ediv, Int.toNat_natCast]
  rw [e] at h
  have h2 : n / Nat.gcd n m ∣ r := by
    have h3 : n / Nat.gcd n m ∣ r * (m / Nat.gcd n m) := by
      have h4 := Nat.div_dvd_div (Nat.gcd_dvd_left n m) hd
      rwa [Nat.mul_div_assoc r (Nat.gcd_dvd_right n m)] at h4
    exact (Nat.coprime_div_gcd_div_gcd hg).dvd_of_dvd_mul_right h3
  exact absurd (Nat.le_of_dvd h0 h2) (by omega)
theorem again_mul {n m : Nat} (hn : 1 ≤ n) (hm : 1 ≤ m) : (agW n m * m) % n = 0 := by
  obtain ⟨q, hq⟩ := agW_mul (n := n) (st := (m : Int)) hn (by omega)
  have : ((agW n m * m : Nat) : Int) = (n : Int) * q := by rw [← hq]; simp
  have h2 : ((agW n m * m : Nat) : Int) % (n : Int) = 0 := by rw [this]; simp
  omega
theorem round_at (l : List UInt8) (p m k : Nat) (hk : k < m) : bat (alongL l (p : Nat) 1 m) k = bat l ((p + k) % l.length) := by
  unfold bat
  rw [alongL_get hk]
  congr 2
  rw [show ((p : Int) + (k : Int) * 1) = ((p + k : Nat) : Int) by simp]
  omega
end Go.Proofs.YtngllaaminognaaGreatDoor
