/-
  Laid rods, on: the first join above an earlier one; stakes for rods.
-/
import Derived.Test.YtdbgicfbigjmmaaLaid7
namespace Go.Proofs.Ytdbgicfbigjmmaa
open Go.RowKit
set_option linter.unusedVariables false

def firstL (L : List Nat) : Int × Int := match L with | [] => (0, 3) | q :: _ => ((q : Int), 0)
def firstR (st : Int) (l : List Int) (be : Int) : Int × Int := if laidC st l be = 0 then firstL (allAbv st l be) else (0, laidC st l be)
theorem abovesTo_pre (P : List Int) (st be : Int) {m n : Nat} (h : m ≤ n) : ∃ r, abovesTo P st be n = abovesTo P st be m ++ r := by
  induction n with
  | zero => obtain rfl : m = 0 := by omega
            exact ⟨[], by simp⟩
  | succ n ih =>
    by_cases e : m = n + 1
    · subst e; exact ⟨[], by simp⟩
    · obtain ⟨r, hr⟩ := ih (by omega)
      exact ⟨r ++ (if abv P st be n then [n] else []), by rw [abovesTo_step, hr, List.append_assoc]⟩
theorem aboves_first {P : List Int} {st be : Int} {k n : Nat} (h : abovesTo P st be k = []) (hk : abv P st be k = true) (hn : k < n) : firstL (abovesTo P st be n) = ((k : Int), 0) := by
  obtain ⟨r, hr⟩ := abovesTo_pre P st be (m := k + 1) (n := n) (by omega)
  rw [hr, abovesTo_step, h, hk]
  rfl

set_option maxHeartbeats 1000000 in
theorem firstAbove_any (st be : Int) (a : Option Addr) (n c : Nat) (xs : List Int) (w : World) (ha : RV w a n c (ints xs)) :
    Calls Try.prog 22 #[.int .i64 st, .slice a n c, .int .i64 be] w fun e w' => e = rt2 (firstR st xs be) ∧ Below w.heap.size w w' := by
  by_cases hc : laidC st xs be = 0
  · obtain ⟨hst, hok⟩ := laidC_ok hc
    have hpb := plBd_of hok
    have hpl := hpb.1
    have Hpb := Lib.hid hpb
    rw [show firstR st xs be = firstL (abovesTo (places xs) st be (places xs).length) by simp [firstR, hc, allAbv]]
    have hcode := fun W h => laidCode_any st be a n c xs W h
    rw [hc] at hcode
    have Hcode := Lib.hid hcode
    have hplc := Lib.hid (fun W h => placesOf_any a n c xs W hok h)
    have Ha := Lib.hid ha
    clear ha hpb hok hcode hc
    generalize places xs = P at *
    go_enter Try.func22, Try.ntmps22
    go_wp2_with (first | (go_at_call 25; refine (Hcode.out _ Ha.out).mono ?_; rintro e w' ⟨rfl, rfl⟩) | (go_at_call 32; refine (hplc.out _ Ha.out).mono ?_; rintro e w1 ⟨v, rfl, ho, hb⟩; obtain ⟨a1, c1, rfl, hr1⟩ := ho.sliceI))
    have Hr := Lib.hid hr1
    have Hb := Lib.hid hb
    clear hr1 ho hb
    go_loop [22] (fun i => ∃ k : Nat, k ≤ P.length ∧ i = .int .i64 k ∧ Hid (abovesTo P st be k = [])) (fun i => P.length - (intOf i).toNat)
    case atStart => exact ⟨0, Nat.zero_le _, rfl, Lib.hid (by simp [abovesTo])⟩
    case round =>
      obtain ⟨k, hk, rfl, hR⟩ := hrel
      by_cases hlt : k < P.length
      · cases hab : abv P st be k
        · go_wp2_with (go_at_call 33; refine (isAbove_any _ _ _ _ _ _ _ _ hst Hpb.out hlt Hr.out).mono ?_; rintro e w' ⟨rfl, rfl⟩)
          go_round
          case rel => exact ⟨k + 1, by omega, by go_num, Lib.hid (by rw [abovesTo_step, hR.out, hab]; rfl)⟩
          case measure => simp [intOf]; omega
        · go_wp2_with (go_at_call 33; refine (isAbove_any _ _ _ _ _ _ _ _ hst Hpb.out hlt Hr.out).mono ?_; rintro e w' ⟨rfl, rfl⟩)
          go_ret2
          exact ⟨(congrArg rt2 (aboves_first hR.out hab hlt)).symm, Hb.out⟩
      · have hkn : k = P.length := by omega
        have Hf := Lib.hid (show firstL (abovesTo P st be P.length) = (0, 3) by rw [← hkn, hR.out]; rfl)
        clear hkn
        go_wp2
        go_ret2
        exact ⟨(congrArg rt2 Hf.out).symm, Hb.out⟩
  · rw [show firstR st xs be = (0, laidC st xs be) by simp [firstR, hc]]
    go_enter Try.func22, Try.ntmps22
    go_wp2_with (go_at_call 25; refine (laidCode_any _ _ _ _ _ _ _ ha).mono ?_; rintro e w' ⟨rfl, rfl⟩)
    go_ret2
    exact ⟨rfl, Below.refl _ _⟩

end Go.Proofs.Ytdbgicfbigjmmaa
