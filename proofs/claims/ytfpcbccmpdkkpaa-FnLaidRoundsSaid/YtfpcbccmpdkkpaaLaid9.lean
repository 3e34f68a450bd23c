/-
  Laid rods, on: the numbers of stakes for rods.
-/
import Derived.Test.YtfpcbccmpdkkpaaLaid8
namespace Go.Proofs.Ytfpcbccmpdkkpaa
open Go.RowKit
set_option linter.unusedVariables false

def rodSt (l : List Int) (be : Int) (k : Nat) : Bool := decide ((abovesTo (places l) (3 + (k : Int)) be (places l).length).length = 0)
def goodTo (l : List Int) (be : Int) (k : Nat) : List Int := ((List.range k).filter (rodSt l be)).map fun (j : Nat) => 3 + (j : Int)
theorem goodTo_step (l : List Int) (be : Int) (k : Nat) : goodTo l be (k + 1) = goodTo l be k ++ (if rodSt l be k then [3 + (k : Int)] else []) := by
  simp only [goodTo, List.range_succ, List.filter_append, List.map_append]
  congr 1
  by_cases h : rodSt l be k = true <;> simp [h]
theorem goodTo_len (l : List Int) (be : Int) (k : Nat) : (goodTo l be k).length ≤ k := by
  have := List.length_filter_le (rodSt l be) (List.range k)
  simpa [goodTo] using this
def stakesR (l : List Int) (be most : Int) : List Int × Int := if laidC 3 l be = 0 then if areSt most then (goodTo l be (most - 2).toNat, 0) else ([], 2) else ([], laidC 3 l be)
theorem stakesR_len (l : List Int) (be most : Int) : (stakesR l be most).1.length ≤ 1000000 := by
  unfold stakesR
  split
  · split
    · next h =>
      have := inB_iff.1 h
      have := goodTo_len l be (most - 2).toNat
      show (goodTo l be (most - 2).toNat).length ≤ _
      omega
    · simp
  · simp

set_option maxHeartbeats 1000000 in
theorem stakesForRods_any (be most : Int) (a : Option Addr) (n c : Nat) (xs : List Int) (w : World) (ha : RV w a n c (ints xs)) :
    Calls Try.prog 28 #[.slice a n c, .int .i64 be, .int .i64 most] w fun e w' => RetL w 2 (stakesR xs be most) e w' := by
  have Ha := Lib.hid ha
  by_cases hc : laidC 3 xs be = 0
  · obtain ⟨hst, hok⟩ := laidC_ok hc
    have hcode := fun W h => laidCode_any 3 be a n c xs W h
    rw [hc] at hcode
    have Hcode := Lib.hid hcode
    clear hcode
    cases hm : areSt most
    · rw [show stakesR xs be most = ([], 2) by simp [stakesR, hc, hm]]
      clear hc ha
      go_enter Try.func28, Try.ntmps28
      go_wp2_with (first | (go_at_call 50; refine (Hcode.out _ Ha.out).mono ?_; rintro e w' ⟨rfl, rfl⟩) | (go_at_call 42; refine (areStakes_any _ _).mono ?_; rintro e w' ⟨rfl, rfl⟩))
      go_ret2
      exact ⟨_, rfl, Own.nil _ _ _ _, Below.refl _ _⟩
    · have hmm := inB_iff.1 hm
      obtain ⟨M, hM⟩ : ∃ M : Nat, M = (most - 2).toNat := ⟨_, rfl⟩
      have hM2 : most = M + 2 := by omega
      rw [show stakesR xs be most = (goodTo xs be M, 0) by simp [stakesR, hc, hm, hM]]
      have Hfin := Lib.hid hm
      have hMb : M ≤ 58 := by omega
      have hab := Lib.hid (fun (s : Int) (hs : 3 ≤ s ∧ s ≤ 60) (W : World) (h : RV W a n c (ints xs)) => aboves_any s be a n c xs W hs hok h)
      clear hc ha hM
      have hgl := fun k => goodTo_len xs be k
      have HM := Lib.hid hM2
      clear hM2
      go_enter Try.func28, Try.ntmps28
      go_wp2_with (first | (go_at_call 50; refine (Hcode.out _ Ha.out).mono ?_; rintro e w' ⟨rfl, rfl⟩) | (go_at_call 42; refine (areStakes_any _ _).mono ?_; rintro e w' ⟨rfl, rfl⟩))
      go_loopw [9, 10] (fun v i wr => ∃ k : Nat, k ≤ M ∧ i = .int .i64 (3 + (k : Int)) ∧ ∃ pre, Hid (pre = goodTo xs be k) ∧ pre.length ≤ 60 ∧ wr.ownsRow w.heap.size 2 1 v pre.length (ints pre) ∧ Below w.heap.size w wr) (fun _ i _ => M + 3 - (intOf i).toNat)
      case atStart => exact ⟨0, Nat.zero_le _, rfl, [], Lib.hid (by simp [goodTo]), by simp, owns_empty rfl (Nat.le_refl _), (Below.refl _ _).alloc (Nat.le_refl _) _⟩
      case round =>
        obtain ⟨k, hk, rfl, pre, Hp, hpl, hown, hbel⟩ := hrel
        obtain ⟨a', c', rfl⟩ := owns_slice hown
        have hsz := hbel.size
        by_cases hlt : k < M
        · have hd : decide (3 + (k : Int) ≤ most) = true := by have := HM.out; simp; omega
          obtain ⟨m, hm0⟩ : ∃ m : Nat, m = (abovesTo (places xs) (3 + (k : Int)) be (places xs).length).length := ⟨_, rfl⟩
          have hab2 := fun W h => hab.out (3 + (k : Int)) (by omega) W h
          rw [← hm0] at hab2
          have Hab := Lib.hid hab2
          have Hs := Lib.hid (goodTo_step xs be k)
          have hrs : rodSt xs be k = decide (m = 0) := by rw [rodSt, hm0]
          have Hrs := Lib.hid hrs
          have Ha' := Lib.hid (RV.below Ha.out hbel)
          have hw := IntWalk.i64_in (3 + (k : Int) + 1) (by omega)
          clear hab2 hm0 hrs
          by_cases h0 : m = 0
          · subst h0
            go_wp2_with fail
            refine (Hab.out _ Ha'.out).mono ?_
            rintro e w2 ⟨rfl, hb2⟩
            have hsz2 := hb2.size
            replace hbel := bstep hbel hb2 (Nat.le_refl _)
            have hown : w2.ownsRow w.heap.size 2 1 (.slice a' pre.length c') pre.length (ints pre) := owns_below hown hb2
            clear hb2
            go_wp2_with (at_builtin; refine wpList_app1 rfl _ _ 22 rfl w.heap.size 2 _ 8 Try.underlying22 info_i64 (by decide) rfl _ pre.length _ rfl (hown.alloc _) w2.heap.size (.int .i64 (3 + (k : Int))) rfl ?c1 rfl ?c2 ?c3 ?_)
            case c1 => exact cell_boxed rfl
            case c2 => omega
            case c3 => simp; omega
            intro v1 w3 hown1 hgrow
            have hb1 := below_app (hbel.alloc (by omega) _) (hown.alloc _) hgrow (Nat.le_refl _) (by simp; omega)
            clear hown hgrow
            go_wp2
            go_roundw
            case measure => simp [intOf]; omega
            case rel =>
              have hpre : pre ++ [3 + (k : Int)] = goodTo xs be (k + 1) := by rw [Hs.out, Hrs.out, Hp.out]; simp
              exact ⟨k + 1, by omega, by go_num, pre ++ [3 + (k : Int)], Lib.hid hpre, by rw [hpre]; have := hgl (k + 1); omega, by simpa using hown1, hb1⟩
          · have h1 : ((m : Int) == 0) = false := by simp; omega
            go_wp2_with fail
            refine (Hab.out _ Ha'.out).mono ?_
            rintro e w2 ⟨rfl, hb2⟩
            replace hbel := bstep hbel hb2 (Nat.le_refl _)
            have hown : w2.ownsRow w.heap.size 2 1 (.slice a' pre.length c') pre.length (ints pre) := owns_below hown hb2
            clear hb2
            have Hown := Lib.hid hown
            have Hbel := Lib.hid hbel
            clear hown hbel
            go_wp2_with fail
            go_roundw
            case measure => simp [intOf]; omega
            case rel => exact ⟨k + 1, by omega, by go_num, pre, Lib.hid (by rw [Hs.out, Hrs.out, Hp.out]; simp [h0]), hpl, Hown.out, Hbel.out⟩
        · have hd : decide (3 + (k : Int) ≤ most) = false := by have := HM.out; simp; omega
          have hkm : k = M := by omega
          have Hown := Lib.hid hown
          have Hbel := Lib.hid hbel
          have Hpf := Lib.hid (show pre = goodTo xs be M by rw [Hp.out, hkm])
          clear hown hbel hkm
          go_wp2
          go_ret2
          have e1 := Hpf.out
          subst e1
          exact ⟨_, rfl, Own.of Hown.out, Hbel.out⟩
  · rw [show stakesR xs be most = ([], laidC 3 xs be) by simp [stakesR, hc]]
    clear ha
    go_enter Try.func28, Try.ntmps28
    go_wp2_with (go_at_call 50; refine (laidCode_any _ _ _ _ _ _ _ Ha.out).mono ?_; rintro e w' ⟨rfl, rfl⟩)
    go_ret2
    exact ⟨_, rfl, Own.nil _ _ _ _, Below.refl _ _⟩
set_option maxHeartbeats 1000000 in
theorem specStakesForRods_any (be most : Int) (a : Option Addr) (n c : Nat) (xs : List Int) (w : World) (ha : RV w a n c (ints xs)) :
    Calls Try.prog 27 #[.slice a n c, .int .i64 be, .int .i64 most] w fun e w' => RetL w 2 (stakesR xs be most) e w' := by
  have Ha := Lib.hid ha
  have hv3 : vLaid 3 xs = okRods xs := by simp [vLaid, show areSt 3 = true from rfl]
  cases hok : okRods xs
  · rw [show stakesR xs be most = ([], 1) by simp [stakesR, laidC, hv3, hok]]
    have Hok := Lib.hid hok
    clear ha hv3 hok
    go_enter Try.func27, Try.ntmps27
    go_wp2_with (go_at_call 53; refine (l10Rods_any _ _ _ _ _ Ha.out).mono ?_; rintro e w' ⟨rfl, rfl⟩; rw [Hok.out])
    go_ret2
    exact ⟨_, rfl, Own.nil _ _ _ _, Below.refl _ _⟩
  · have hlr := fun W h => l10Rods_any a n c xs W h
    rw [hok] at hlr
    have Hlr := Lib.hid hlr
    have hin := fun W => l00In_any be 0 5 W
    have hst := fun W => l06Stakes_any most W
    clear hlr
    cases hb : inB be 0 5
    · rw [show stakesR xs be most = ([], 2) by simp [stakesR, laidC, hv3, hok, hb]]
      rw [hb] at hin
      have Hin := Lib.hid hin
      have Hst := Lib.hid hst
      clear ha hv3 hok hin hst hb
      go_enter Try.func27, Try.ntmps27
      go_wp2_with (first | (go_at_call 53; refine (Hlr.out _ Ha.out).mono ?_; rintro e w' ⟨rfl, rfl⟩) | (go_at_call 54; refine (Hin.out _).mono ?_; rintro e w' ⟨rfl, rfl⟩) | (go_at_call 55; refine (Hst.out _).mono ?_; rintro e w' ⟨rfl, rfl⟩))
      go_ret2
      exact ⟨_, rfl, Own.nil _ _ _ _, Below.refl _ _⟩
    · rw [hb] at hin
      cases hm : areSt most
      · rw [show stakesR xs be most = ([], 2) by simp [stakesR, laidC, hv3, hok, hb, hm]]
        rw [hm] at hst
        have Hin := Lib.hid hin
        have Hst := Lib.hid hst
        clear ha hv3 hok hin hst hb hm
        go_enter Try.func27, Try.ntmps27
        go_wp2_with (first | (go_at_call 53; refine (Hlr.out _ Ha.out).mono ?_; rintro e w' ⟨rfl, rfl⟩) | (go_at_call 54; refine (Hin.out _).mono ?_; rintro e w' ⟨rfl, rfl⟩) | (go_at_call 55; refine (Hst.out _).mono ?_; rintro e w' ⟨rfl, rfl⟩))
        go_ret2
        exact ⟨_, rfl, Own.nil _ _ _ _, Below.refl _ _⟩
      · rw [hm] at hst
        have Hin := Lib.hid hin
        have Hst := Lib.hid hst
        have hmm := inB_iff.1 hm
        obtain ⟨M, hM⟩ : ∃ M : Nat, M = (most - 2).toNat := ⟨_, rfl⟩
        have hM2 : most = M + 2 := by omega
        rw [show stakesR xs be most = (goodTo xs be M, 0) by simp [stakesR, laidC, hv3, hok, hb, hm, hM]]
        have hMb : M ≤ 58 := by omega
        have hab := Lib.hid (fun (s : Int) (hs : 3 ≤ s ∧ s ≤ 60) (W : World) (h : RV W a n c (ints xs)) => l10Above_any s be a n c xs W hs hok h)
        have hgl := fun k => goodTo_len xs be k
        have HM := Lib.hid hM2
        clear hM2 ha hM hv3 hok hin hst hb hm
        go_enter Try.func27, Try.ntmps27
        go_wp2_with (first | (go_at_call 53; refine (Hlr.out _ Ha.out).mono ?_; rintro e w' ⟨rfl, rfl⟩) | (go_at_call 54; refine (Hin.out _).mono ?_; rintro e w' ⟨rfl, rfl⟩) | (go_at_call 55; refine (Hst.out _).mono ?_; rintro e w' ⟨rfl, rfl⟩))
        go_loopw [8, 9] (fun v i wr => ∃ k : Nat, k ≤ M ∧ i = .int .i64 (3 + (k : Int)) ∧ ∃ pre, Hid (pre = goodTo xs be k) ∧ pre.length ≤ 60 ∧ wr.ownsRow w.heap.size 2 1 v pre.length (ints pre) ∧ Below w.heap.size w wr) (fun _ i _ => M + 3 - (intOf i).toNat)
        case atStart => exact ⟨0, Nat.zero_le _, rfl, [], Lib.hid (by simp [goodTo]), by simp, owns_empty rfl (Nat.le_refl _), (Below.refl _ _).alloc (Nat.le_refl _) _⟩
        case round =>
          obtain ⟨k, hk, rfl, pre, Hp, hpl, hown, hbel⟩ := hrel
          obtain ⟨a', c', rfl⟩ := owns_slice hown
          have hsz := hbel.size
          by_cases hlt : k < M
          · have hd : decide (3 + (k : Int) ≤ most) = true := by have := HM.out; simp; omega
            obtain ⟨L, hL0⟩ : ∃ L : List Nat, L = abovesTo (places xs) (3 + (k : Int)) be (places xs).length := ⟨_, rfl⟩
            obtain ⟨m, hm0⟩ : ∃ m : Nat, m = (nats L).length := ⟨_, rfl⟩
            have hab2 := fun W h => hab.out (3 + (k : Int)) (by omega) W h
            rw [← hL0] at hab2
            have Hab := Lib.hid hab2
            have Hm0 := Lib.hid hm0
            have Hs := Lib.hid (goodTo_step xs be k)
            have hrs : rodSt xs be k = decide (m = 0) := by rw [rodSt, hm0, hL0]; simp [nats]
            have Hrs := Lib.hid hrs
            have Ha' := Lib.hid (RV.below Ha.out hbel)
            have hw := IntWalk.i64_in (3 + (k : Int) + 1) (by omega)
            clear hab2 hm0 hL0 hrs
            by_cases h0 : m = 0
            · subst h0
              go_wp2_with fail
              refine (Hab.out _ Ha'.out).mono ?_
              rintro e w2 ⟨v2, rfl, ho2, hb2⟩
              obtain ⟨a2, c2, rfl, hr2⟩ := ho2.sliceI
              rw [← Hm0.out]
              clear hr2 ho2
              have hsz2 := hb2.size
              replace hbel := bstep hbel hb2 (Nat.le_refl _)
              have hown : w2.ownsRow w.heap.size 2 1 (.slice a' pre.length c') pre.length (ints pre) := owns_below hown hb2
              clear hb2
              go_wp2_with (at_builtin; refine wpList_app1 rfl _ _ 22 rfl w.heap.size 2 _ 8 Try.underlying22 info_i64 (by decide) rfl _ pre.length _ rfl (hown.alloc _) w2.heap.size (.int .i64 (3 + (k : Int))) rfl ?c1 rfl ?c2 ?c3 ?_)
              case c1 => exact cell_boxed rfl
              case c2 => omega
              case c3 => simp; omega
              intro v1 w3 hown1 hgrow
              have hb1 := below_app (hbel.alloc (by omega) _) (hown.alloc _) hgrow (Nat.le_refl _) (by simp; omega)
              clear hown hgrow
              go_wp2
              go_roundw
              case measure => simp [intOf]; omega
              case rel =>
                have hpre : pre ++ [3 + (k : Int)] = goodTo xs be (k + 1) := by rw [Hs.out, Hrs.out, Hp.out]; simp
                exact ⟨k + 1, by omega, by go_num, pre ++ [3 + (k : Int)], Lib.hid hpre, by rw [hpre]; have := hgl (k + 1); omega, by simpa using hown1, hb1⟩
            · have h1 : ((m : Int) == 0) = false := by simp; omega
              go_wp2_with fail
              refine (Hab.out _ Ha'.out).mono ?_
              rintro e w2 ⟨v2, rfl, ho2, hb2⟩
              obtain ⟨a2, c2, rfl, hr2⟩ := ho2.sliceI
              rw [← Hm0.out]
              clear hr2 ho2
              replace hbel := bstep hbel hb2 (Nat.le_refl _)
              have hown : w2.ownsRow w.heap.size 2 1 (.slice a' pre.length c') pre.length (ints pre) := owns_below hown hb2
              clear hb2
              have Hown := Lib.hid hown
              have Hbel := Lib.hid hbel
              clear hown hbel
              go_wp2_with fail
              go_roundw
              case measure => simp [intOf]; omega
              case rel => exact ⟨k + 1, by omega, by go_num, pre, Lib.hid (by rw [Hs.out, Hrs.out, Hp.out]; simp [h0]), hpl, Hown.out, Hbel.out⟩
          · have hd : decide (3 + (k : Int) ≤ most) = false := by have := HM.out; simp; omega
            have hkm : k = M := by omega
            have Hown := Lib.hid hown
            have Hbel := Lib.hid hbel
            have Hpf := Lib.hid (show pre = goodTo xs be M by rw [Hp.out, hkm])
            clear hown hbel hkm
            go_wp2
            go_ret2
            have e1 := Hpf.out
            subst e1
            exact ⟨_, rfl, Own.of Hown.out, Hbel.out⟩
end Go.Proofs.Ytfpcbccmpdkkpaa
