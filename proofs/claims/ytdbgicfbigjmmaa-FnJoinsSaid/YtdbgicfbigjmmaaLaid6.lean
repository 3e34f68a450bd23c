/-
  Laid rods, on: joins that lie above earlier ones, the reference.
-/
import Derived.Test.YtdbgicfbigjmmaaLaid5
namespace Go.Proofs.Ytdbgicfbigjmmaa
open Go.RowKit
set_option linter.unusedVariables false

def nats (l : List Nat) : List Int := l.map fun (i : Nat) => (i : Int)

set_option maxHeartbeats 2000000 in
theorem l10Above_any (st be : Int) (a : Option Addr) (n c : Nat) (xs : List Int) (w : World) (hst : 3 ≤ st ∧ st ≤ 60) (hok : okRods xs = true) (ha : RV w a n c (ints xs)) :
    Calls Try.prog 31 #[.int .i64 st, .slice a n c, .int .i64 be] w fun e w' => ∃ v : Value, e = .returned v ∧ Own w' w.heap.size w'.heap.size 2 v (ints (nats (abovesTo (places xs) st be (places xs).length))) ∧ Below w.heap.size w w' := by
  have hpb := plBd_of hok
  have hpl := hpb.1
  have Hx := Lib.hid hpb.2
  have hplc := Lib.hid (fun W h => l10Joins_any a n c xs W hok h)
  have Ha := Lib.hid ha
  have hal := fun j => abovesTo_len (places xs) st be j
  clear ha hpb hok
  generalize places xs = P at *
  go_enter Try.func31, Try.ntmps31
  go_wp2_with (go_at_call 41; refine (hplc.out _ Ha.out).mono ?_; rintro e w1 ⟨v, rfl, ho, hb⟩; obtain ⟨a1, c1, rfl, hr1⟩ := ho.sliceI)
  have Hr := Lib.hid hr1
  have Hb := Lib.hid hb
  have hbs := hb.size
  clear hr1 ho hb
  go_loopw [8, 9] (fun v i wr => ∃ k : Nat, k ≤ P.length ∧ i = .int .i64 k ∧ ∃ pre, Hid (pre = nats (abovesTo P st be k)) ∧ pre.length ≤ 7 ∧ wr.ownsRow w1.heap.size 2 1 v pre.length (ints pre) ∧ Below w1.heap.size w1 wr) (fun _ i _ => P.length - (intOf i).toNat)
  case atStart => exact ⟨0, Nat.zero_le _, rfl, [], Lib.hid (by simp [abovesTo, nats]), by simp, owns_empty rfl (Nat.le_refl _), (Below.refl _ _).alloc (Nat.le_refl _) _⟩
  case round =>
    obtain ⟨k, hk, rfl, pre, Hp, hpl2, hown, hbel⟩ := hrel
    obtain ⟨a', c', rfl⟩ := owns_slice hown
    have hsz := hbel.size
    by_cases hlt : k < P.length
    · have Hr' := Lib.hid (Hr.out.below hbel)
      have Hown := Lib.hid hown
      have Hbel := Lib.hid hbel
      clear hown hbel
      obtain ⟨W2, rfl⟩ : ∃ W2, W2 = wr := ⟨wr, rfl⟩
      go_wp2
      go_loopw [10, 11] (fun g j wq => ∃ q : Nat, q ≤ k ∧ j = .int .i64 q ∧ g = .bool (abvTo P st be k q) ∧ ∃ m, Hid (wq = W2.drewN m)) (fun _ j _ => k - (intOf j).toNat)
      case atStart => exact ⟨0, Nat.zero_le _, rfl, by simp [abvTo], 0, rfl⟩
      case round =>
        obtain ⟨q, hq, rfl, rfl, m, Hw⟩ := hrel
        by_cases hqk : q < k
        · have Ha' : RV wr a1 P.length c1 (ints P) := by rw [Hw.out]; exact Hr'.out.drewN m
          obtain ⟨b, o, rfl, hbl, hc⟩ := Ha'.cell (by omega)
          clear Ha'
          have e1 := hc k hlt
          have e2 := hc q (by omega)
          have b1 := Hx.out k hlt
          have b2 := Hx.out q (by omega)
          have hs := abvTo_step P st be k q
          clear hc
          generalize P.getD k 0 = u at *
          generalize P.getD q 0 = v at *
          have hw1 := IntWalk.i64_in (u - v) (by omega)
          have hw2 := IntWalk.i64_in (u - v - st) (by omega)
          cases hg : abvTo P st be k q
          · rw [hg, Bool.false_or] at hs
            have Hs := Lib.hid hs
            clear hs
            go_wp2
            go_quiet ((go_at_call 42; exact Calls.quiet_of_same ((l00Size_any (u - v - st) _ (by omega) (by omega)).mono fun e w' ⟨h1, h2⟩ => ⟨h1, h2.symm⟩)))
            go_wp2
            go_roundw
            case rel => exact ⟨q + 1, by omega, by go_num, by rw [Hs.out, far, show max (u - v - st) (st - (u - v)) = max (u - v - st) (-(u - v - st)) by omega], m + nq, Lib.hid (by rw [Hw.out, World.drewN_drewN])⟩
            case measure => simp [intOf]; omega
          · rw [hg, Bool.true_or] at hs
            have Hs := Lib.hid hs
            clear hs
            go_wp2
            go_quiet (fail)
            go_wp2
            go_roundw
            case rel => exact ⟨q + 1, by omega, by go_num, by rw [Hs.out], m + nq, Lib.hid (by rw [Hw.out, World.drewN_drewN])⟩
            case measure => simp [intOf]; omega
        · have hqk2 : q = k := by omega
          subst hqk2
          have Hst := Lib.hid (abovesTo_step P st be q)
          have hab : abv P st be q = abvTo P st be q q := rfl
          have h2 := hal (q + 1)
          have hown : wr.ownsRow w1.heap.size 2 1 (.slice a' pre.length c') pre.length (ints pre) := by rw [Hw.out]; exact Hown.out
          have hbel : Below w1.heap.size w1 wr := by rw [Hw.out]; exact bdrewN Hbel.out m
          have hsz2 := hbel.size
          cases hg : abvTo P st be q q
          · rw [hg] at hab
            have Hab := Lib.hid hab
            have HO := Lib.hid hown
            have HB := Lib.hid hbel
            clear hab hown hbel h2
            go_wp2
            go_roundw
            case rel => exact ⟨q + 1, by omega, by go_num, pre, Lib.hid (by rw [Hst.out, Hab.out, Hp.out]; simp), hpl2, HO.out, HB.out⟩
            case measure => simp [intOf]; omega
          · rw [hg] at hab
            have hpre : pre ++ [(q : Int)] = nats (abovesTo P st be (q + 1)) := by rw [Hst.out, hab, Hp.out]; simp [nats]
            have hln : (pre ++ [(q : Int)]).length ≤ 7 := by rw [hpre, nats, List.length_map]; omega
            have Hpre := Lib.hid hpre
            clear hab hpre h2
            go_wp2_with (at_builtin; refine wpList_app1 rfl _ _ 22 rfl w1.heap.size 2 _ 8 Try.underlying22 info_i64 (by decide) rfl _ pre.length _ rfl (hown.alloc _) wr.heap.size (.int .i64 q) rfl ?c1 rfl ?c2 ?c3 ?_)
            case c1 => exact cell_boxed rfl
            case c2 => omega
            case c3 => simp; omega
            intro v1 w2 hown1 hgrow
            have hb1 := below_app (hbel.alloc (by omega) _) (hown.alloc _) hgrow (Nat.le_refl _) (by simp; omega)
            clear hown hgrow
            go_wp2
            go_roundw
            case measure => simp [intOf]; omega
            case rel => exact ⟨q + 1, by omega, by go_num, pre ++ [(q : Int)], Hpre, hln, by simpa using hown1, hb1⟩
    · have hkn : k = P.length := by omega
      have Hfin := Lib.hid (show pre = nats (abovesTo P st be P.length) by rw [Hp.out, hkn])
      clear hkn
      go_wp2
      go_ret
      have e1 := Hfin.out
      subst e1
      exact ⟨_, rfl, (Own.of hown).mono hbs (Nat.le_refl _), bstep Hb.out hbel (Nat.le_refl _)⟩
end Go.Proofs.Ytdbgicfbigjmmaa
