/-
  Twills, on: faces, by walks.
-/
import Derived.Test.YtggbnibdpkblgaaDoorTwill8
import Derived.Test.YtggbnibdpkblgaaDoorStrS
namespace Go.Proofs.YtggbnibdpkblgaaDoor
open Go.RowKit
set_option linter.unusedVariables false

/-- line r of a face -/
def lineW (l : List UInt8) (st : Int) (m r : Nat) : List UInt8 := (List.range m).map fun (k : Nat) => l.getD (((k : Int) - st * r) % l.length).toNat 0
theorem lineW_len (l : List UInt8) (st : Int) (m r : Nat) : (lineW l st m r).length = m := by simp [lineW]
theorem lineW_step (l : List UInt8) (st : Int) (m r : Nat) : lineW l st (m + 1) r = lineW l st m r ++ [l.getD (((m : Int) - st * r) % l.length).toNat 0] := by simp [lineW, List.range_succ]
def faceTo (l : List UInt8) (st : Int) (m k : Nat) : List (List UInt8) := (List.range k).map fun r => lineW l st m r
theorem faceTo_len (l : List UInt8) (st : Int) (m k : Nat) : (faceTo l st m k).length = k := by simp [faceTo]
theorem faceTo_step (l : List UInt8) (st : Int) (m k : Nat) : faceTo l st m (k + 1) = faceTo l st m k ++ [lineW l st m k] := by simp [faceTo, List.range_succ]
def faceR (xs : List Int) (st s r : Int) : List (List UInt8) × Int :=
  if vTwill xs st then if inB s 1 40 && inB r 1 40 then (faceTo (rowW xs) st s.toNat r.toNat, 0) else ([], 2) else ([], 1)
theorem faceR_len (xs : List Int) (st s r : Int) : (faceR xs st s r).1.length ≤ 40 := by
  unfold faceR
  split
  · split
    · next h =>
      simp only [Bool.and_eq_true] at h
      have := inB_iff.1 h.2
      show (faceTo _ _ _ _).length ≤ 40
      rw [faceTo_len]; omega
    · simp
  · simp
theorem line_along (l : List UInt8) (st : Int) (m r : Nat) : alongL l ((l.length : Int) - (r * st) % l.length) 1 m = lineW l st m r := by
  unfold alongL lineW
  apply List.map_congr_left
  intro k _
  have h : ((l.length : Int) - ((r : Int) * st) % l.length + (k : Int) * 1) % l.length = ((k : Int) - st * r) % l.length := by
    have h2 : ((r : Int) * st) % l.length = (r : Int) * st - l.length * (((r : Int) * st) / l.length) := Int.emod_def _ _
    have h3 : (l.length : Int) - ((r : Int) * st) % l.length + (k : Int) * 1 = ((k : Int) - st * r) + l.length * (1 + ((r : Int) * st) / l.length) := by
      rw [h2, Int.mul_add, Int.mul_one, Int.mul_one, Int.mul_comm (r : Int) st]; omega
    rw [h3, Int.add_mul_emod_self_left]
  rw [h]

set_option maxHeartbeats 2000000 in
theorem faceOf_any (a : Option Addr) (n c : Nat) (xs : List Int) (st sk ro : Int) (w : World) (ha : RV w a n c (ints xs)) :
    Calls Tryd.prog 20 #[.agg #[.slice a n c, .int .i64 st], .int .i64 sk, .int .i64 ro] w fun e w' => RetS w 9 (faceR xs st sk ro) e w' := by
  have hA0 := TwAt.boxed st 28 ha
  have hB0 : Below w.heap.size w (w.alloc (.cells #[.slice a n c, .int .i64 st] 28)) := (Below.refl _ _).alloc (Nat.le_refl _) _
  have HA := Lib.hid hA0
  have HB := Lib.hid hB0
  have Hvt0 := Lib.hid (fun W h => validTwill_any a n c xs st W h)
  cases hv : vTwill xs st
  · rw [show faceR xs st sk ro = ([], 1) by simp [faceR, hv]]
    rw [hv] at Hvt0
    clear ha hA0 hB0 hv
    go_enter Tryd.func20, Tryd.ntmps20
    go_wp2_with (go_at_call 36; refine (Hvt0.out _ (by exact HA.out.2.2)).mono ?_; rintro e w1 ⟨rfl, hb⟩)
    go_ret2
    exact ⟨_, rfl, Own.nil _ _ _ _, bstep HB.out hb (by simp)⟩
  · obtain ⟨he, h7, hN0, hN1, hst0, hst1⟩ := row_facts hv
    rw [hv] at Hvt0
    by_cases hsr : (inB sk 1 40 && inB ro 1 40) = true
    · have hsr2 := hsr
      simp only [Bool.and_eq_true] at hsr2
      have hs1 := inB_iff.1 hsr2.1
      have hr1 := inB_iff.1 hsr2.2
      obtain ⟨m, rfl⟩ := Int.eq_ofNat_of_zero_le (show 0 ≤ sk by omega)
      obtain ⟨R, rfl⟩ := Int.eq_ofNat_of_zero_le (show 0 ≤ ro by omega)
      obtain ⟨l, Hl⟩ : ∃ l, Hid (l = rowW xs) := ⟨_, rfl⟩
      obtain ⟨N, HN⟩ : ∃ N, Hid (N = l.length) := ⟨_, rfl⟩
      rw [← Hl.out, ← HN.out] at hN0 hN1 hst1
      obtain ⟨s, Hs⟩ : ∃ s, Hid (s = str l) := ⟨_, rfl⟩
      have hsN : s.size = N := by rw [Hs.out, str_size, HN.out]
      have hsl : s.data.toList = l := by rw [Hs.out, str_list]
      rw [show faceR xs st m R = (faceTo l st m R, 0) by unfold faceR; rw [if_pos hv, if_pos hsr, ← Hl.out]; simp]
      have Hrow := Lib.hid (by
        have h := fun W h => rowOf_any a n c xs st W he h7 h
        rw [← Hl.out, ← Hs.out] at h
        exact h)
      have Hw1 := Lib.hid (by have h := fun W => within_any m 1 40 W; rw [hsr2.1] at h; exact h)
      have Hw2 := Lib.hid (by have h := fun W => within_any R 1 40 W; rw [hsr2.2] at h; exact h)
      have Hal := Lib.hid (fun (r : Nat) (f : Int) (hr : r < R) (hf : f = (N : Int) - (r * st) % N) (W : World) => by
        have h0 := Int.emod_nonneg ((r : Int) * st) (show (N : Int) ≠ 0 by omega)
        have h1 := Int.emod_lt_of_pos ((r : Int) * st) (show (0 : Int) < N by omega)
        have h := along_any s f 1 m W (by omega) (by omega) (by omega) (by omega) (by omega) (by omega)
        rw [hsl, hf, HN.out, line_along] at h
        rw [← HN.out, ← hf] at h
        exact h)
      clear ha hA0 hB0 hv he h7 hsl hsr hsr2
      go_enter Tryd.func20, Tryd.ntmps20
      go_wp2_with fail
      refine (Hvt0.out _ (by exact HA.out.2.2)).mono ?_
      rintro e w1 ⟨rfl, hb1⟩
      have hca := (hb1.cell (p := ⟨w.heap.size, 0, none⟩) (by simp)).trans HA.out.1
      have hcb := (hb1.cell (p := ⟨w.heap.size, 1, none⟩) (by simp)).trans HA.out.2.1
      have HRV := Lib.hid (HA.out.2.2.below hb1)
      have HB1 := Lib.hid (bstep HB.out hb1 (by simp))
      have hz1 : w.heap.size < w1.heap.size := (by have := hb1.size; simp at this; omega)
      clear hb1
      go_wp2_with fail
      refine (Hw1.out _).mono ?_
      rintro e w' ⟨rfl, rfl⟩
      go_wp2_with fail
      refine (Hw2.out _).mono ?_
      rintro e w' ⟨rfl, rfl⟩
      go_wp2_with fail
      refine (Hrow.out _ (by exact HRV.out)).mono ?_
      rintro e w2 ⟨rfl, hb2⟩
      have Hcb2 := Lib.hid ((hb2.cell (p := ⟨w.heap.size, 1, none⟩) hz1).trans hcb)
      have HB2 := Lib.hid (bstep HB1.out hb2 (Nat.le_refl _))
      have hz2 : w.heap.size < w2.heap.size := (by have := hb2.size; omega)
      clear hb2 hca hcb
      go_wp2
      go_loopw [9, 29] (fun v i wr => ∃ k : Nat, k ≤ R ∧ i = .int .i64 k ∧ ∃ pre : List (List UInt8), Hid (pre = faceTo l st m k) ∧ pre.length ≤ 40 ∧ wr.ownsRow w2.heap.size 9 1 v pre.length (strs pre) ∧ Below w2.heap.size w2 wr) (fun _ i _ => R - (intOf i).toNat)
      case atStart => exact ⟨0, Nat.zero_le _, rfl, [], Lib.hid (by simp [faceTo]), by simp, owns_empty rfl (Nat.le_refl _), (Below.refl _ _).alloc (Nat.le_refl _) _⟩
      case round =>
        obtain ⟨k, hk, rfl, pre, Hp, hpl, hown, hbel⟩ := hrel
        obtain ⟨a', c', rfl⟩ := owns_slice hown
        have hsz := hbel.size
        by_cases hlt : k < R
        · have hcr : wr.cell? ⟨w.heap.size, 1, none⟩ = some (.int .i64 st) := (hbel.cell (p := ⟨w.heap.size, 1, none⟩) hz2).trans Hcb2.out
          have Hst := Lib.hid (faceTo_step l st m k)
          have hp0 : 0 ≤ (k : Int) * st := Int.mul_nonneg (by omega) (by omega)
          have hp1 : (k : Int) * st ≤ 40 * 12 := Int.mul_le_mul (by omega) (by omega) (by omega) (by omega)
          obtain ⟨p, hp⟩ : ∃ p, (k : Int) * st = p := ⟨_, rfl⟩
          have q0 : IntKind.i64.wrap ((k : Int) * st) = p := by rw [hp]; exact IntWalk.i64_in p (by omega)
          obtain ⟨g, hg⟩ : ∃ g, p % (N : Int) = g := ⟨_, rfl⟩
          have hg0 : 0 ≤ g := by rw [← hg]; exact Int.emod_nonneg _ (by omega)
          have hg1 : g < N := by rw [← hg]; exact Int.emod_lt_of_pos _ (by omega)
          have q1 : p.tmod (N : Int) = g := by rw [Int.tmod_eq_emod_of_nonneg (by omega)]; exact hg
          have hz : (N : Int) ≠ 0 := by omega
          have Ha2 := Lib.hid (Hal.out k ((N : Int) - g) hlt (by rw [hp, hg]))
          have Hown := Lib.hid hown
          have Hbel := Lib.hid hbel
          clear hown hbel hp
          go_wp2_with fail
          refine (Ha2.out _).mono ?_
          rintro e w3 ⟨rfl, hb3⟩
          have hown : w3.ownsRow w2.heap.size 9 1 (.slice a' pre.length c') pre.length (strs pre) := owns_below Hown.out hb3
          have hbel : Below w2.heap.size w2 w3 := bstep Hbel.out hb3 (Nat.le_refl _)
          have hsz3 := hbel.size
          clear hb3
          obtain ⟨T, HT⟩ : ∃ T, Hid (T = str (lineW l st m k)) := ⟨_, rfl⟩
          rw [← HT.out]
          go_wp2_with (at_builtin; refine wpList_app1 rfl _ _ 45 rfl w2.heap.size 9 _ 16 Tryd.underlying45 info_str (by decide) rfl _ pre.length _ rfl (hown.alloc _) w3.heap.size (.string T) rfl ?c1 rfl ?c2 ?c3 ?_)
          case c1 => exact cell_boxed rfl
          case c2 => omega
          case c3 => simp; omega
          intro v1 w4 hown1 hgrow
          have hb4 := below_app (hbel.alloc (by omega) _) (hown.alloc _) hgrow (Nat.le_refl _) (by simp; omega)
          clear hown hgrow
          go_wp2
          go_roundw
          case measure => simp [intOf]; omega
          case rel =>
            have hpre : pre ++ [lineW l st m k] = faceTo l st m (k + 1) := by rw [Hst.out, Hp.out]
            refine ⟨k + 1, by omega, by go_num, pre ++ [lineW l st m k], Lib.hid hpre, by rw [hpre, faceTo_len]; omega, ?_, hb4⟩
            rw [HT.out] at hown1
            simpa using hown1
        · have hkn : k = R := by omega
          have Hown := Lib.hid hown
          have Hbel := Lib.hid hbel
          have Hpf := Lib.hid (show pre = faceTo l st m R by rw [Hp.out, hkn])
          clear hown hbel hkn
          go_wp2
          go_ret2
          have e1 := Hpf.out
          subst e1
          have ho := Own.of Hown.out
          exact ⟨_, rfl, ho.mono (by omega) (Nat.le_refl _), bstep HB2.out Hbel.out (Nat.le_refl _)⟩
    · have hsr2 : (inB sk 1 40 && inB ro 1 40) = false := by simpa using hsr
      rw [show faceR xs st sk ro = ([], 2) by unfold faceR; rw [if_pos hv, hsr2]; rfl]
      have Hw1 := Lib.hid (fun W => within_any sk 1 40 W)
      have Hw2 := Lib.hid (fun W => within_any ro 1 40 W)
      clear ha hA0 hB0 hv he h7 hsr
      cases h1 : inB sk 1 40
      · rw [h1] at Hw1
        clear hsr2 h1
        go_enter Tryd.func20, Tryd.ntmps20
        go_wp2_with fail
        refine (Hvt0.out _ (by exact HA.out.2.2)).mono ?_
        rintro e w1 ⟨rfl, hb1⟩
        go_wp2_with fail
        refine (Hw1.out _).mono ?_
        rintro e w' ⟨rfl, rfl⟩
        go_wp2_with fail
        go_ret2
        exact ⟨_, rfl, Own.nil _ _ _ _, bstep HB.out hb1 (by simp)⟩
      · have h2 : inB ro 1 40 = false := by rw [h1] at hsr2; simpa using hsr2
        rw [h1] at Hw1
        rw [h2] at Hw2
        clear hsr2 h1 h2
        go_enter Tryd.func20, Tryd.ntmps20
        go_wp2_with fail
        refine (Hvt0.out _ (by exact HA.out.2.2)).mono ?_
        rintro e w1 ⟨rfl, hb1⟩
        go_wp2_with fail
        refine (Hw1.out _).mono ?_
        rintro e w' ⟨rfl, rfl⟩
        go_wp2_with fail
        refine (Hw2.out _).mono ?_
        rintro e w' ⟨rfl, rfl⟩
        go_wp2_with fail
        go_ret2
        exact ⟨_, rfl, Own.nil _ _ _ _, bstep HB.out hb1 (by simp)⟩
end Go.Proofs.YtggbnibdpkblgaaDoor
