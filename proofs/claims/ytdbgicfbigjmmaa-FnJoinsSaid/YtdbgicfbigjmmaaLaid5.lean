/-
  Laid rods, on: joins that lie above earlier ones.
-/
import Derived.Test.YtdbgicfbigjmmaaLaid3
import Derived.Test.YtdbgicfbigjmmaaNumPlain
namespace Go.Proofs.Ytdbgicfbigjmmaa
open Go.RowKit
set_option linter.unusedVariables false

/-- how far apart, to and fro -/
def far (a b : Int) : Int := max (a - b) (b - a)
/-- join k lies above one of the first j -/
def abvTo (P : List Int) (st be : Int) (k j : Nat) : Bool := (List.range j).any fun q => decide (far (P.getD k 0 - P.getD q 0) st ≤ be)
theorem abvTo_step (P : List Int) (st be : Int) (k j : Nat) : abvTo P st be k (j + 1) = (abvTo P st be k j || decide (far (P.getD k 0 - P.getD j 0) st ≤ be)) := by simp [abvTo, List.range_succ]
theorem abvTo_hit {P : List Int} {st be : Int} {k j m : Nat} (hm : j ≤ m) (h : abvTo P st be k j = true) : abvTo P st be k m = true := by
  simp only [abvTo, List.any_eq_true, List.mem_range] at *
  obtain ⟨q, hq, h⟩ := h
  exact ⟨q, by omega, h⟩
def abv (P : List Int) (st be : Int) (k : Nat) : Bool := abvTo P st be k k
/-- those of the first j joins that lie above earlier ones -/
def abovesTo (P : List Int) (st be : Int) (j : Nat) : List Nat := (List.range j).filter (abv P st be)
theorem abovesTo_step (P : List Int) (st be : Int) (j : Nat) : abovesTo P st be (j + 1) = abovesTo P st be j ++ (if abv P st be j then [j] else []) := by
  simp only [abovesTo, List.range_succ, List.filter_append]
  congr 1
  by_cases h : abv P st be j = true <;> simp [h]
theorem abovesTo_len (P : List Int) (st be : Int) (j : Nat) : (abovesTo P st be j).length ≤ j := by
  have := List.length_filter_le (abv P st be) (List.range j)
  simpa [abovesTo] using this
/-- bounds of places -/
def PlBd (P : List Int) : Prop := P.length ≤ 7 ∧ ∀ j, j < P.length → 0 ≤ P.getD j 0 ∧ P.getD j 0 ≤ 1400
theorem plBd_of {l : List Int} (h : okRods l = true) : PlBd (places l) := by
  refine ⟨by have := (okRods_iff.1 h).2; rw [places_len]; omega, fun j hj => ?_⟩
  have := places_at h hj; omega

set_option maxHeartbeats 1000000 in
theorem isAbove_any (st be : Int) (a : Option Addr) (n c : Nat) (P : List Int) (k : Nat) (w : World) (hst : 3 ≤ st ∧ st ≤ 60) (hP : PlBd P) (hk : k < n) (ha : RV w a n c (ints P)) :
    Calls Try.prog 33 #[.int .i64 st, .slice a n c, .int .i64 k, .int .i64 be] w fun e w' => e = .returned (.bool (abv P st be k)) ∧ w = w' := by
  have hl := ha.lenI
  have hm := ha.small
  have hnc : n ≤ c := ha.2.1
  have hcm := ha.2.2.1
  have h7 : n ≤ 7 := by have := hP.1; omega
  obtain ⟨b, o, rfl, hb, hc⟩ := ha.cell (by omega)
  have ek := hc k hk
  have bk := hP.2 k (by omega)
  have Hc := Lib.hid hc
  have Hx := Lib.hid (fun j (hj : j < n) => hP.2 j (by omega))
  have hkc : k ≤ c := by omega
  have Habv := Lib.hid (show abv P st be k = abvTo P st be k k from rfl)
  clear hc ha hl hP
  unfold maxLen at hcm
  go_enter Try.func33, Try.ntmps33
  go_wp2
  go_loop [15] (fun i => ∃ j : Nat, j ≤ k ∧ i = .int .i64 j ∧ Hid (abvTo P st be k j = false)) (fun i => k - (intOf i).toNat)
  case atStart => exact ⟨0, Nat.zero_le _, rfl, Lib.hid (by simp [abvTo])⟩
  case round =>
    obtain ⟨j, hj, rfl, hR⟩ := hrel
    by_cases hlt : j < k
    · have e1 := Hc.out j (by omega)
      have b1 := Hx.out j (by omega)
      have hs := abvTo_step P st be k j
      rw [hR.out, Bool.false_or] at hs
      have Hs := Lib.hid hs
      clear hs
      generalize P.getD k 0 = u at *
      generalize P.getD j 0 = v at *
      have hw := IntWalk.i64_in (u - v) (by omega)
      cases hd : decide (far (u - v) st ≤ be)
      · have hd2 : decide (max (u - v - st) (st - (u - v)) ≤ be) = false := hd
        go_wp2_with (go_at_call 43; refine (distance_any _ _ _ (by omega) (by omega)).mono ?_; rintro e w' ⟨rfl, rfl⟩)
        go_round
        case rel => exact ⟨j + 1, by omega, by go_num, Lib.hid (by rw [Hs.out, hd])⟩
        case measure => simp [intOf]; omega
      · have hd2 : decide (max (u - v - st) (st - (u - v)) ≤ be) = true := hd
        go_wp2_with (go_at_call 43; refine (distance_any _ _ _ (by omega) (by omega)).mono ?_; rintro e w' ⟨rfl, rfl⟩)
        go_ret
        exact ⟨ret_bool (by rw [Habv.out, abvTo_hit (by omega) (Hs.out.trans hd)]), rfl⟩
    · have hjk : j = k := by omega
      subst hjk
      go_wp2
      go_ret
      exact ⟨ret_bool (by rw [Habv.out, hR.out]), rfl⟩

set_option maxHeartbeats 1000000 in
theorem aboves_any (st be : Int) (a : Option Addr) (n c : Nat) (xs : List Int) (w : World) (hst : 3 ≤ st ∧ st ≤ 60) (hok : okRods xs = true) (ha : RV w a n c (ints xs)) :
    Calls Try.prog 30 #[.int .i64 st, .slice a n c, .int .i64 be] w fun e w' => e = .returned (.int .i64 (abovesTo (places xs) st be (places xs).length).length) ∧ Below w.heap.size w w' := by
  have hpb := plBd_of hok
  have hpl := hpb.1
  have Hpb := Lib.hid hpb
  have hplc := Lib.hid (fun W h => placesOf_any a n c xs W hok h)
  have Ha := Lib.hid ha
  have hal := fun j => abovesTo_len (places xs) st be j
  clear ha hpb hok
  generalize places xs = P at *
  go_enter Try.func30, Try.ntmps30
  go_wp2_with (go_at_call 32; refine (hplc.out _ Ha.out).mono ?_; rintro e w1 ⟨v, rfl, ho, hb⟩; obtain ⟨a1, c1, rfl, hr1⟩ := ho.sliceI)
  have Hr := Lib.hid hr1
  have Hb := Lib.hid hb
  clear hr1 ho hb
  go_loop [7, 14] (fun q i => ∃ k : Nat, k ≤ P.length ∧ i = .int .i64 k ∧ ∃ s : Nat, s ≤ 7 ∧ q = .int .i64 s ∧ Hid (s = (abovesTo P st be k).length)) (fun _ i => P.length - (intOf i).toNat)
  case atStart => exact ⟨0, Nat.zero_le _, rfl, 0, by omega, rfl, Lib.hid (by simp [abovesTo])⟩
  case round =>
    obtain ⟨k, hk, rfl, s, hs7, rfl, Hs⟩ := hrel
    by_cases hlt : k < P.length
    · have hst2 := Lib.hid (abovesTo_step P st be k)
      have h2 := hal (k + 1)
      cases hab : abv P st be k
      · go_wp2_with (go_at_call 33; refine (isAbove_any _ _ _ _ _ _ _ _ hst Hpb.out hlt Hr.out).mono ?_; rintro e w' ⟨rfl, rfl⟩)
        go_round
        case rel => exact ⟨k + 1, by omega, by go_num, s, hs7, rfl, Lib.hid (by rw [hst2.out, hab, Hs.out]; simp)⟩
        case measure => simp [intOf]; omega
      · have h3 : (abovesTo P st be (k + 1)).length = s + 1 := by rw [hst2.out, hab, Hs.out]; simp
        have H3 := Lib.hid h3
        have h4 : s + 1 ≤ 7 := by omega
        clear h2 h3
        go_wp2_with (go_at_call 33; refine (isAbove_any _ _ _ _ _ _ _ _ hst Hpb.out hlt Hr.out).mono ?_; rintro e w' ⟨rfl, rfl⟩)
        go_round
        case rel => exact ⟨k + 1, by omega, by go_num, s + 1, h4, by go_num, Lib.hid H3.out.symm⟩
        case measure => simp [intOf]; omega
    · have hkn : k = P.length := by omega
      have Hkn := Lib.hid hkn
      clear hkn
      go_wp2
      go_ret
      exact ⟨ret_int (by rw [Hs.out, Hkn.out]), Hb.out⟩
end Go.Proofs.Ytdbgicfbigjmmaa
