/-
  Twills, on: plain ones, periods, by walks.
-/
import Derived.Test.YtggbnibdpkblgaaDoorTwill4
import Derived.Test.YtggbnibdpkblgaaDoorTwillPlain2
import Derived.Lib.OthersKept
import Derived.Deep.RegionHeld3
namespace Go.Proofs.YtggbnibdpkblgaaDoor
open Go.RowKit
set_option linter.unusedVariables false

def periodR (xs : List Int) (st : Int) : Int × Int × Int :=
  if vTwill xs st then ((period (rowW xs) : Nat), (againN (period (rowW xs)) st : Nat), 0) else (0, 0, 1)

set_option maxHeartbeats 2000000 in
theorem periodOf_any (s : ByteArray) (w : World) (hs0 : 1 ≤ s.size) (hs1 : s.size ≤ 100) :
    Calls Tryd.prog 47 #[.string s] w fun e w' => e = .returned (.int .i64 (period s.data.toList : Nat)) ∧ Below w.heap.size w w' := by
  obtain ⟨l, Hl⟩ : ∃ l, Hid (l = s.data.toList) := ⟨_, rfl⟩
  have Hll := Lib.hid (show l.length = s.size by rw [Hl.out, size_list])
  rw [← Hl.out]
  obtain ⟨N, hN⟩ : ∃ N, s.size = N := ⟨_, rfl⟩
  rw [hN] at hs0 hs1 Hll
  have Hok := Lib.hid (show perOk l N = true by rw [← Hll.out]; exact perOk_all l (by rw [Hll.out]; omega))
  go_enter Tryd.func47, Tryd.ntmps47
  go_wp2
  go_loopw [3] (fun q wr => ∃ p : Nat, q = .int .i64 p ∧ 1 ≤ p ∧ p ≤ N ∧ Hid (perFrom l (N - p) p = period l) ∧ Hid (Below w.heap.size w wr)) (fun q _ => N - (intOf q).toNat)
  case atStart => exact ⟨1, rfl, by omega, hs0, Lib.hid (by unfold period; rw [Hll.out]), Lib.hid (Below.refl _ _)⟩
  case round =>
    obtain ⟨p, rfl, hp0, hpN, Hp, Hb⟩ := hrel
    have hz : (p : Int) ≠ 0 := by omega
    have hz' : p ≠ 0 := by omega
    by_cases hmod : N % p = 0
    · have m0 : (N : Int) % (p : Int) = 0 := by omega
      have m0' : (N : Int).tmod (p : Int) = 0 := by rw [Int.tmod_eq_emod_of_nonneg (by omega)]; exact m0
      obtain ⟨d, hd⟩ : ∃ d : Nat, N / p = d := ⟨_, rfl⟩
      have q1 : (N : Int).tdiv (p : Int) = (d : Int) := by rw [Int.tdiv_eq_ediv_of_nonneg (by omega), ← hd]; simp
      have q2 : (N : Int) / (p : Int) = (d : Int) := by rw [← hd]; simp
      have hd1 : d ≤ 100 := by rw [← hd]; exact Nat.le_trans (Nat.div_le_self _ _) hs1
      have hwd : IntKind.i64.wrap (d : Int) = (d : Int) := IntWalk.i64_in _ (by omega)
      have Hex := Lib.hid (show s.extract 0 p = str (l.take p) by
        apply of_data; rw [Hl.out]; simp)
      have Hrep := Lib.hid (fun W => repeat_str (l.take p) d W (by omega) (by simp; rw [Hll.out]; omega))
      obtain ⟨Q, HQ⟩ : ∃ Q, Hid (Q = str (Lib.repeatL (l.take p) d)) := ⟨_, rfl⟩
      rw [← HQ.out] at Hrep
      have Hpk := Lib.hid (show perOk l p = (Lib.repeatL (l.take p) d == l) by unfold perOk; rw [Hll.out, hmod, hd]; simp)
      have hpN' : (p : Int) ≤ N := by omega
      clear hmod hd
      cases hb : (Lib.repeatL (l.take p) d == l)
      · have t1 : (Q.toList == s.toList) = false := by
          rw [HQ.out, str_toList, ByteArray.toList_eq, ← Hl.out]; exact hb
        have Hpm := Lib.hid (show perOk l p = false by rw [Hpk.out, hb])
        have hpl : p < N := by
          rcases Nat.lt_or_ge p N with h | h
          · exact h
          · have : p = N := by omega
            have h1 := Hpm.out; rw [this, Hok.out] at h1; exact absurd h1 (by simp)
        clear hb
        go_wp2
        go_region_held3 (fun w' => Below w.heap.size w w') (first | exact ⟨Hb.out.os, Hb.out.tape, Hb.out.output, Hb.out.size, Hb.out.block⟩ | exact Hb2.out | assumption) (first | (go_at_call 59; rw [Hex.out]; (with_reducible refine (Hrep.out _).mono ?_); rintro e w2 ⟨rfl, hb2⟩; replace hb2 : Below wr.heap.size wr w2 := ⟨hb2.os, hb2.tape, hb2.output, hb2.size, hb2.block⟩; have Hb2 := Lib.hid (bstep Hb.out hb2 (Nat.le_refl _)); clear hb2))
        all_goals
          clear hwd
          go_wp2
          go_roundw
          case measure => simp [intOf]; omega
          case rel => exact ⟨p + 1, by go_num, by omega, by omega, Lib.hid (by rw [← Hp.out, show N - p = (N - (p + 1)) + 1 by omega, perFrom_miss Hpm.out]), Hb2⟩
      · have t1 : (Q.toList == s.toList) = true := by
          rw [HQ.out, str_toList, ByteArray.toList_eq, ← Hl.out]; exact hb
        have Hf := Lib.hid (show p = period l by rw [← Hp.out, perFrom_hit (by rw [Hpk.out, hb])])
        clear hb
        go_wp2
        go_region_held3 (fun w' => Below w.heap.size w w') (first | exact ⟨Hb.out.os, Hb.out.tape, Hb.out.output, Hb.out.size, Hb.out.block⟩ | exact Hb2.out | assumption) (first | (go_at_call 59; rw [Hex.out]; (with_reducible refine (Hrep.out _).mono ?_); rintro e w2 ⟨rfl, hb2⟩; replace hb2 : Below wr.heap.size wr w2 := ⟨hb2.os, hb2.tape, hb2.output, hb2.size, hb2.block⟩; have Hb2 := Lib.hid (bstep Hb.out hb2 (Nat.le_refl _)); clear hb2))
        all_goals
          clear hwd
          go_wp2
          go_ret
          have e1 := Hf.out
          subst e1
          exact ⟨rfl, Hb2.out⟩
    · obtain ⟨d, hd⟩ : ∃ d : Nat, N % p = d := ⟨_, rfl⟩
      have m0 : (N : Int) % (p : Int) = (d : Int) := by rw [← hd]; simp
      have m0' : (N : Int).tmod (p : Int) = (d : Int) := by rw [Int.tmod_eq_emod_of_nonneg (by omega)]; exact m0
      have d1 : ((d : Int) != 0) = true := by simp; omega
      have d1' : (d != 0) = true := by simp; omega
      have d2 : ((d : Int) == 0) = false := by simp; omega
      have d2' : (d == 0) = false := by simp; omega
      have Hpm := Lib.hid (show perOk l p = false by unfold perOk; rw [Hll.out]; simp [hmod])
      have hpl : p < N := by
        rcases Nat.lt_or_ge p N with h | h
        · exact h
        · have : p = N := by omega
          have h1 := Hpm.out; rw [this, Hok.out] at h1; exact absurd h1 (by simp)
      clear hmod hd
      go_wp2
      go_quiet (fail)
      go_wp2
      go_roundw
      case measure => simp [intOf]; omega
      case rel => exact ⟨p + 1, by go_num, by omega, by omega, Lib.hid (by rw [← Hp.out, show N - p = (N - (p + 1)) + 1 by omega, perFrom_miss Hpm.out]), Lib.hid (bdrewN Hb.out _)⟩

set_option maxHeartbeats 2000000 in
theorem l09Period_any (s : ByteArray) (w : World) (hs0 : 1 ≤ s.size) (hs1 : s.size ≤ 100) :
    Calls Tryd.prog 49 #[.string s] w fun e w' => e = .returned (.int .i64 (period s.data.toList : Nat)) ∧ ∃ q, w' = w.drewN q := by
  obtain ⟨l, Hl⟩ : ∃ l, Hid (l = s.data.toList) := ⟨_, rfl⟩
  have Hll := Lib.hid (show l.length = s.size by rw [Hl.out, size_list])
  rw [← Hl.out]
  obtain ⟨N, hN⟩ : ∃ N, s.size = N := ⟨_, rfl⟩
  rw [hN] at hs0 hs1 Hll
  go_enter Tryd.func49, Tryd.ntmps49
  go_wp2
  go_loopw [4] (fun q wr => ∃ p : Nat, q = .int .i64 p ∧ 1 ≤ p ∧ p ≤ N ∧ Hid (perFrom l (N - p) p = period l) ∧ ∃ m, Hid (wr = w.drewN m)) (fun q _ => N - (intOf q).toNat)
  case atStart => exact ⟨1, rfl, by omega, hs0, Lib.hid (by unfold period; rw [Hll.out]), 0, Lib.hid rfl⟩
  case round =>
    obtain ⟨p, rfl, hp0, hpN, Hp, m, Hw⟩ := hrel
    have hz : (p : Int) ≠ 0 := by omega
    have hz' : p ≠ 0 := by omega
    by_cases hpl : p < N
    · have Hpk := Lib.hid (show perOk l p = (decide (N % p = 0) && (l.take p == l.drop (N - p)) && (l.drop p == l.take (N - p))) by
        have h := perOk_spec (l := l) (p := p) (by omega) (by rw [Hll.out]; exact hpl)
        rw [Hll.out] at h; exact h)
      obtain ⟨d, hd⟩ : ∃ d : Nat, N - p = d := ⟨_, rfl⟩
      have hwd : IntKind.i64.wrap ((N : Int) - (p : Int)) = (d : Int) := by rw [IntWalk.i64_in _ (by omega)]; omega
      have hdN : d ≤ N := by omega
      have hdNi : (d : Int) ≤ N := by omega
      have hpNi : (p : Int) ≤ N := by omega
      have hpli : (p : Int) < N := by omega
      have Hd := Lib.hid hd
      rw [hd] at Hpk
      have x1 : (s.extract 0 p).toList = l.take p := by rw [ByteArray.toList_eq, Hl.out]; simp
      have x2 : (s.extract d N).toList = l.drop d := by
        rw [ByteArray.toList_eq, Hl.out]
        simp
        rw [List.take_of_length_le]
        rw [List.length_drop, size_list, hN]
        omega
      have x3 : (s.extract p N).toList = l.drop p := by
        rw [ByteArray.toList_eq, Hl.out]
        simp
        rw [List.take_of_length_le]
        rw [List.length_drop, size_list, hN]
        omega
      have x4 : (s.extract 0 d).toList = l.take d := by rw [ByteArray.toList_eq, Hl.out]; simp
      have Hx := Lib.hid (show (s.extract 0 p).toList = l.take p ∧ (s.extract d N).toList = l.drop d ∧ (s.extract p N).toList = l.drop p ∧ (s.extract 0 d).toList = l.take d from ⟨x1, x2, x3, x4⟩)
      clear hd x1 x2 x3 x4
      by_cases hmod : N % p = 0
      · have m0 : (N : Int) % (p : Int) = 0 := by omega
        have m0' : (N : Int).tmod (p : Int) = 0 := by rw [Int.tmod_eq_emod_of_nonneg (by omega)]; exact m0
        cases hb1 : (l.take p == l.drop d)
        · have t1 : ((s.extract 0 p).toList == (s.extract d N).toList) = false := by rw [Hx.out.1, Hx.out.2.1]; exact hb1
          have Hpm := Lib.hid (show perOk l p = false by rw [Hpk.out, hb1]; simp)
          clear hmod hb1
          go_wp2
          go_quiet (fail)
          go_wp2
          go_roundw
          case measure => simp [intOf]; omega
          case rel => exact ⟨p + 1, by go_num, by omega, by omega, Lib.hid (by rw [← Hp.out, show N - p = (N - (p + 1)) + 1 by omega, perFrom_miss Hpm.out]), m + nq, Lib.hid (by rw [Hw.out, World.drewN_drewN])⟩
        · have t1 : ((s.extract 0 p).toList == (s.extract d N).toList) = true := by rw [Hx.out.1, Hx.out.2.1]; exact hb1
          cases hb2 : (l.drop p == l.take d)
          · have t2 : ((s.extract p N).toList == (s.extract 0 d).toList) = false := by rw [Hx.out.2.2.1, Hx.out.2.2.2]; exact hb2
            have Hpm := Lib.hid (show perOk l p = false by rw [Hpk.out, hb2]; simp)
            clear hmod hb1 hb2
            go_wp2
            go_quiet (fail)
            go_wp2
            go_roundw
            case measure => simp [intOf]; omega
            case rel => exact ⟨p + 1, by go_num, by omega, by omega, Lib.hid (by rw [← Hp.out, show N - p = (N - (p + 1)) + 1 by omega, perFrom_miss Hpm.out]), m + nq, Lib.hid (by rw [Hw.out, World.drewN_drewN])⟩
          · have t2 : ((s.extract p N).toList == (s.extract 0 d).toList) = true := by rw [Hx.out.2.2.1, Hx.out.2.2.2]; exact hb2
            have Hf := Lib.hid (show p = period l by rw [← Hp.out, perFrom_hit (by rw [Hpk.out, hb1, hb2, hmod]; rfl)])
            clear hmod hb1 hb2
            go_wp2
            go_quiet (fail)
            go_wp2
            go_ret
            have e1 := Hf.out
            subst e1
            exact ⟨rfl, m + nq, by rw [Hw.out, World.drewN_drewN]⟩
      · obtain ⟨d3, hd3⟩ : ∃ d : Nat, N % p = d := ⟨_, rfl⟩
        have m0 : (N : Int) % (p : Int) = (d3 : Int) := by rw [← hd3]; simp
        have m0' : (N : Int).tmod (p : Int) = (d3 : Int) := by rw [Int.tmod_eq_emod_of_nonneg (by omega)]; exact m0
        have d2 : ((d3 : Int) == 0) = false := by simp; omega
        have d2' : (d3 == 0) = false := by simp; omega
        have Hpm := Lib.hid (show perOk l p = false by rw [Hpk.out]; simp [hmod])
        clear hmod hd3
        go_wp2
        go_quiet (fail)
        go_wp2
        go_roundw
        case measure => simp [intOf]; omega
        case rel => exact ⟨p + 1, by go_num, by omega, by omega, Lib.hid (by rw [← Hp.out, show N - p = (N - (p + 1)) + 1 by omega, perFrom_miss Hpm.out]), m + nq, Lib.hid (by rw [Hw.out, World.drewN_drewN])⟩
    · have hpn : p = N := by omega
      have Hf := Lib.hid (show N = period l by rw [← Hp.out, hpn, Nat.sub_self]; rfl)
      have d0 : decide ((p : Int) < N) = false := by simp; omega
      clear hpn
      go_wp2
      go_ret
      have e1 := Hf.out
      exact ⟨ret_int (by rw [← e1]), m, Hw.out⟩
end Go.Proofs.YtggbnibdpkblgaaDoor
