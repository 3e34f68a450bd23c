/-
  Laid rods, on: where joins lie.
-/
import Derived.Test.YtfpcbccmpdkkpaaLaid3
namespace Go.Proofs.Ytfpcbccmpdkkpaa
open Go.RowKit
set_option linter.unusedVariables false

/-- the first k are reduced -/
def modTo (P : List Int) (st : Int) (k : Nat) : List Int := (P.take k).map (· % st) ++ P.drop k
theorem modTo_zero (P : List Int) (st : Int) : modTo P st 0 = P := by simp [modTo]
theorem modTo_all (P : List Int) (st : Int) : modTo P st P.length = P.map (· % st) := by simp [modTo]
theorem modTo_get {P : List Int} {st : Int} {k : Nat} (h : k < P.length) : (modTo P st k).getD k 0 = P.getD k 0 := by
  have hm : min k P.length = k := by omega
  simp [modTo, List.getElem?_append, hm]
theorem modTo_step {P : List Int} {st : Int} {k : Nat} (h : k < P.length) : (ints (modTo P st k)).set k (.int .i64 (P.getD k 0 % st)) = ints (modTo P st (k + 1)) := by
  apply List.ext_getElem?
  intro i
  have hm : min k P.length = k := by omega
  have hm1 : min (k + 1) P.length = k + 1 := by omega
  simp only [modTo, List.map_append, List.getElem?_set, List.length_append, List.length_map, List.length_take, List.length_drop, List.getElem?_append, List.getElem?_map, List.getElem?_take, List.getElem?_drop, hm, hm1]
  by_cases h1 : k = i
  · subst h1
    simp [h]; omega
  · by_cases h2 : i < k
    · simp [h1, h2, show i < k + 1 by omega]
    · have h3 : ¬ i < k + 1 := by omega
      simp [h1, h2, h3, show k + (i - k) = i by omega, show k + 1 + (i - (k + 1)) = i by omega]
def joinsR (st : Int) (l : List Int) : List Int × Int := if vLaid st l then ((places l).map (· % st), 0) else ([], 1)
theorem joinsR_len (st : Int) (l : List Int) : (joinsR st l).1.length ≤ 1000000 := by
  unfold joinsR; split
  · next h =>
    have h2 : areSt st = true ∧ okRods l = true := by simpa [vLaid] using h
    have := (okRods_iff.1 h2.2).2
    simp only [List.length_map, places_len]; omega
  · simp

set_option maxHeartbeats 1000000 in
theorem joinsOf_any (st : Int) (a : Option Addr) (n c : Nat) (xs : List Int) (w : World) (ha : RV w a n c (ints xs)) :
    Calls Try.prog 20 #[.int .i64 st, .slice a n c] w fun e w' => RetL w 2 (joinsR st xs) e w' := by
  have Ha := Lib.hid ha
  cases hv : vLaid st xs
  · rw [show joinsR st xs = ([], 1) by simp [joinsR, hv]]
    clear ha
    go_enter Try.func20, Try.ntmps20
    go_wp2_with (go_at_call 15; refine (validLaid_any _ _ _ _ _ _ Ha.out).mono ?_; rintro e w' ⟨rfl, rfl⟩)
    go_ret2
    exact ⟨_, rfl, Own.nil _ _ _ _, Below.refl _ _⟩
  · have hv2 : areSt st = true ∧ okRods xs = true := by simpa [vLaid] using hv
    have hst := inB_iff.1 hv2.1
    have hpl : (places xs).length ≤ 7 := by have := (okRods_iff.1 hv2.2).2; rw [places_len]; omega
    have Hx := Lib.hid (fun k hk => places_at hv2.2 (j := k) hk)
    rw [show joinsR st xs = ((places xs).map (· % st), 0) by simp [joinsR, hv]]
    have hplc := Lib.hid (fun W h => placesOf_any a n c xs W hv2.2 h)
    clear ha hv2
    generalize places xs = P at *
    go_enter Try.func20, Try.ntmps20
    go_wp2_with (first | (go_at_call 15; refine (validLaid_any _ _ _ _ _ _ Ha.out).mono ?_; rintro e w' ⟨rfl, rfl⟩) | (go_at_call 47; refine (hplc.out _ Ha.out).mono ?_; rintro e w1 ⟨v, rfl, ho, hb⟩; obtain ⟨a1, c1, rfl, hr1⟩ := ho.sliceI))
    clear hr1
    have hO := ho.1
    simp only [List.length_map] at hO
    have Hb := Lib.hid hb
    have hbs := hb.size
    clear ho hb
    go_loopw [16] (fun i wr => ∃ k : Nat, k ≤ P.length ∧ i = .int .i64 k ∧ wr.ownsRow w.heap.size 2 1 (.slice a1 P.length c1) P.length (ints (modTo P st k)) ∧ Below w.heap.size w wr) (fun i _ => P.length - (intOf i).toNat)
    case atStart => exact ⟨0, Nat.zero_le _, rfl, by rw [modTo_zero]; exact hO, Hb.out⟩
    case round =>
      obtain ⟨k, hk, rfl, hown, hbel⟩ := hrel
      by_cases hlt : k < P.length
      · have hrv := (owns_read hown).1
        obtain ⟨b, o, rfl, hbl, hc⟩ := hrv.cell (by omega)
        have e1 := hc k hlt
        rw [modTo_get hlt] at e1
        clear hc hrv
        have ho0 : o = 0 := by
          rcases hown.2 with ⟨h, _⟩ | ⟨g, cap, cur, h, _⟩
          · simp at h
          · simp at h; omega
        subst ho0
        simp only [Nat.zero_add] at e1
        have hf := hown.frozenAt k
        have bx := Hx.out k hlt
        have hs := hown.stored k (.int .i64 (P.getD k 0 % st))
        rw [modTo_step hlt] at hs
        have Hs := Lib.hid hs
        have hbb : w.heap.size ≤ b := by
          rcases hown.2 with ⟨h, _⟩ | ⟨g, cap, cur, h, h2, _⟩
          · simp at h
          · simp at h; omega
        have Hbel := Lib.hid hbel
        have hsz := hbel.size
        clear hs hown hbel
        generalize P.getD k 0 = u at *
        have q2 : u.tmod st = u % st := Int.tmod_eq_emod_of_nonneg (by omega)
        have q4 := Int.emod_nonneg u (show st ≠ 0 by omega)
        have q5 := Int.emod_lt_of_pos u (show 0 < st by omega)
        have hz : st ≠ 0 := by omega
        have q7 := IntWalk.i64_in (u % st) (by omega)
        go_wp2
        go_roundw
        case rel =>
          exact ⟨k + 1, by omega, by go_num, Hs.out.1, Hbel.out.grown Hs.out.2 (by omega) (fun k hk => by simp at hk; omega)⟩
        case measure => simp [intOf]; omega
      · have hkn : k = P.length := by omega
        subst hkn
        rw [modTo_all] at hown
        have Hown := Lib.hid hown
        have Hbel := Lib.hid hbel
        clear hown hbel
        go_wp2
        go_ret2
        refine ⟨_, rfl, ?_, Hbel.out⟩
        have := Own.of Hown.out
        simpa using this

set_option maxHeartbeats 1000000 in
theorem specJoinsOf_any (st : Int) (a : Option Addr) (n c : Nat) (xs : List Int) (w : World) (ha : RV w a n c (ints xs)) :
    Calls Try.prog 19 #[.int .i64 st, .slice a n c] w fun e w' => RetL w 2 (joinsR st xs) e w' := by
  have Ha := Lib.hid ha
  cases hv : vLaid st xs
  · rw [show joinsR st xs = ([], 1) by simp [joinsR, hv]]
    clear ha
    go_enter Try.func19, Try.ntmps19
    go_wp2_with (go_at_call 41; refine (l10Ok_any _ _ _ _ _ _ Ha.out).mono ?_; rintro e w' ⟨rfl, rfl⟩)
    go_ret2
    exact ⟨_, rfl, Own.nil _ _ _ _, Below.refl _ _⟩
  · have hv2 : areSt st = true ∧ okRods xs = true := by simpa [vLaid] using hv
    have hst := inB_iff.1 hv2.1
    have hpl : (places xs).length ≤ 7 := by have := (okRods_iff.1 hv2.2).2; rw [places_len]; omega
    have Hx := Lib.hid (fun k hk => places_at hv2.2 (j := k) hk)
    rw [show joinsR st xs = ((places xs).map (· % st), 0) by simp [joinsR, hv]]
    have hplc := Lib.hid (fun W h => l10Joins_any a n c xs W hv2.2 h)
    clear ha hv2
    generalize places xs = P at *
    go_enter Try.func19, Try.ntmps19
    go_wp2_with (first | (go_at_call 41; refine (l10Ok_any _ _ _ _ _ _ Ha.out).mono ?_; rintro e w' ⟨rfl, rfl⟩) | (go_at_call 46; refine (hplc.out _ Ha.out).mono ?_; rintro e w1 ⟨v, rfl, ho, hb⟩; obtain ⟨a1, c1, rfl, hr1⟩ := ho.sliceI))
    clear hr1
    have hO := ho.1
    simp only [List.length_map] at hO
    have Hb := Lib.hid hb
    have hbs := hb.size
    clear ho hb
    go_loopw [7] (fun i wr => ∃ k : Nat, k ≤ P.length ∧ i = .int .i64 k ∧ wr.ownsRow w.heap.size 2 1 (.slice a1 P.length c1) P.length (ints (modTo P st k)) ∧ Below w.heap.size w wr) (fun i _ => P.length - (intOf i).toNat)
    case atStart => exact ⟨0, Nat.zero_le _, rfl, by rw [modTo_zero]; exact hO, Hb.out⟩
    case round =>
      obtain ⟨k, hk, rfl, hown, hbel⟩ := hrel
      by_cases hlt : k < P.length
      · have hrv := (owns_read hown).1
        obtain ⟨b, o, rfl, hbl, hc⟩ := hrv.cell (by omega)
        have e1 := hc k hlt
        rw [modTo_get hlt] at e1
        clear hc hrv
        have ho0 : o = 0 := by
          rcases hown.2 with ⟨h, _⟩ | ⟨g, cap, cur, h, _⟩
          · simp at h
          · simp at h; omega
        subst ho0
        simp only [Nat.zero_add] at e1
        have hf := hown.frozenAt k
        have bx := Hx.out k hlt
        have hs := hown.stored k (.int .i64 (P.getD k 0 % st))
        rw [modTo_step hlt] at hs
        have Hs := Lib.hid hs
        have hbb : w.heap.size ≤ b := by
          rcases hown.2 with ⟨h, _⟩ | ⟨g, cap, cur, h, h2, _⟩
          · simp at h
          · simp at h; omega
        have Hbel := Lib.hid hbel
        have hsz := hbel.size
        clear hs hown hbel
        generalize P.getD k 0 = u at *
        have q2 : u.tmod st = u % st := Int.tmod_eq_emod_of_nonneg (by omega)
        have q4 := Int.emod_nonneg u (show st ≠ 0 by omega)
        have q5 := Int.emod_lt_of_pos u (show 0 < st by omega)
        have hz : st ≠ 0 := by omega
        have q7 := IntWalk.i64_in (u % st) (by omega)
        go_wp2
        go_roundw
        case rel =>
          exact ⟨k + 1, by omega, by go_num, Hs.out.1, Hbel.out.grown Hs.out.2 (by omega) (fun k hk => by simp at hk; omega)⟩
        case measure => simp [intOf]; omega
      · have hkn : k = P.length := by omega
        subst hkn
        rw [modTo_all] at hown
        have Hown := Lib.hid hown
        have Hbel := Lib.hid hbel
        clear hown hbel
        go_wp2
        go_ret2
        refine ⟨_, rfl, ?_, Hbel.out⟩
        have := Own.of Hown.out
        simpa using this

end Go.Proofs.Ytfpcbccmpdkkpaa
