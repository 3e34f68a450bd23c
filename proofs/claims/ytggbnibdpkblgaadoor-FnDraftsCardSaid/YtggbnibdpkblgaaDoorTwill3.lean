/-
  Twills, on: floats, by walks.
-/
import Derived.Test.YtggbnibdpkblgaaDoorTwillRow2
import Derived.Test.YtggbnibdpkblgaaDoorNumPlain
namespace Go.Proofs.YtggbnibdpkblgaaDoor
open Go.RowKit
set_option linter.unusedVariables false

abbrev rt3t (R : Int × Int × Int) : Ending := .returned (.tuple #[.int .i64 R.1, .int .i64 R.2.1, .int .i64 R.2.2])
/-- the greatest of the first k numbers -/
def upR (r : Nat → Nat) : Nat → Nat
  | 0 => 0
  | k + 1 => max (upR r k) (r k)
theorem upR_le {r : Nat → Nat} {B n : Nat} (h : ∀ k, k < n → r k ≤ B) : ∀ k, k ≤ n → upR r k ≤ B := by
  intro k
  induction k with
  | zero => intro _; simp [upR]
  | succ k ih => intro hk; have := ih (by omega); have := h k (by omega); simp only [upR]; omega
/-- so many rounds until a stake's way begins again -/
def againN (n : Nat) (st : Int) : Nat := ((n : Int) / gcdI n st).toNat
def stakeRun (l : List UInt8) (st : Int) (k : Nat) : Nat := longRun (alongL l k (l.length - st) (againN l.length st))
def floatsR (xs : List Int) (st : Int) : Int × Int × Int :=
  if vTwill xs st then ((longRun (rowW xs) : Nat), (upR (stakeRun (rowW xs) st) (rowW xs).length : Nat), 0) else (0, 0, 1)
theorem againN_spec {n : Nat} {st : Int} (hn : 1 ≤ n) (h0 : 1 ≤ st) : (n : Int).tdiv (gcdI n st) = (againN n st : Int) ∧ 1 ≤ againN n st ∧ againN n st ≤ n ∧ 1 ≤ gcdI n st ∧ gcdI n st ≤ st := by
  have hg := gcdI_pos (x := (n : Int)) (y := st) (by omega) (by omega)
  have hd := (gcdI_dvd (x := (n : Int)) (y := st) (by omega) (by omega)).1
  have h1 : 0 ≤ (n : Int) / gcdI n st := Int.ediv_nonneg (by omega) (by omega)
  have h2 : (n : Int) / gcdI n st ≤ n := Int.ediv_le_self _ (by omega)
  have h3 : (n : Int) / gcdI n st * gcdI n st = n := Int.ediv_mul_cancel hd
  have h4 : (n : Int) / gcdI n st ≠ 0 := by intro e; rw [e] at h3; omega
  refine ⟨?_, ?_, ?_, hg.1, hg.2⟩
  · rw [Int.tdiv_eq_ediv_of_nonneg (by omega), againN]; omega
  · rw [againN]; omega
  · rw [againN]; omega
theorem longRun_le (l : List UInt8) : longRun l ≤ l.length := by unfold longRun; omega
theorem alongIdx {n : Nat} {k st i : Int} : (k + i * ((n : Int) - st)) % n = (k - st * i) % n := by
  have : k + i * ((n : Int) - st) = (k - st * i) + n * i := by
    rw [Int.mul_sub, Int.mul_comm i n, Int.mul_comm i st]; omega
  rw [this, Int.add_mul_emod_self_left]

set_option maxHeartbeats 2000000 in
theorem floatsOf_any (a : Option Addr) (n c : Nat) (xs : List Int) (st : Int) (w : World) (ha : RV w a n c (ints xs)) :
    Calls Tryd.prog 18 #[.agg #[.slice a n c, .int .i64 st]] w fun e w' => e = rt3t (floatsR xs st) ∧ Below w.heap.size w w' := by
  have hA0 := TwAt.boxed st 28 ha
  have hB0 : Below w.heap.size w (w.alloc (.cells #[.slice a n c, .int .i64 st] 28)) := (Below.refl _ _).alloc (Nat.le_refl _) _
  have HA := Lib.hid hA0
  have HB := Lib.hid hB0
  cases hv : vTwill xs st
  · rw [show floatsR xs st = (0, 0, 1) by simp [floatsR, hv]]
    have Hvt := Lib.hid (by
      have h := fun W h => validTwill_any a n c xs st W h
      rw [hv] at h
      exact h)
    clear ha hA0 hB0 hv
    go_enter Tryd.func18, Tryd.ntmps18
    go_wp2_with (go_at_call 36; refine (Hvt.out _ (by exact HA.out.2.2)).mono ?_; rintro e w1 ⟨rfl, hb⟩)
    go_ret3
    exact ⟨rfl, bstep HB.out hb (by simp)⟩
  · obtain ⟨he, h2, _, h4, h5, h6, h7⟩ := vTwill_iff hv
    have hrl := rowW_len he
    obtain ⟨l, Hl⟩ : ∃ l, Hid (l = rowW xs) := ⟨_, rfl⟩
    obtain ⟨N, HN⟩ : ∃ N, Hid (N = l.length) := ⟨_, rfl⟩
    rw [← Hl.out] at hrl
    rw [← HN.out] at hrl
    have hN0 : 2 ≤ N := by omega
    have hN1 : N ≤ 12 := by omega
    have hst0 : 1 ≤ st := h5
    have hst1 : st ≤ (N : Int) - 1 := by omega
    obtain ⟨s, Hs⟩ : ∃ s, Hid (s = str l) := ⟨_, rfl⟩
    have hsN : s.size = N := by rw [Hs.out, str_size, HN.out]
    have hsl : s.data.toList = l := by rw [Hs.out, str_list]
    obtain ⟨q1, q2, q3, q4, q5⟩ := againN_spec (n := N) (st := st) (by omega) hst0
    obtain ⟨M, HM⟩ : ∃ M, Hid (M = againN N st) := ⟨_, rfl⟩
    obtain ⟨G, HG⟩ : ∃ G, Hid (G = gcdI N st) := ⟨_, rfl⟩
    rw [← HM.out, ← HG.out] at q1
    rw [← HM.out] at q2 q3
    rw [← HG.out] at q4 q5
    obtain ⟨T, HT⟩ : ∃ T : Nat → ByteArray, Hid (∀ k, T k = str (alongL l k (N - st) M)) := ⟨_, fun _ => rfl⟩
    obtain ⟨r, Hr⟩ : ∃ r : Nat → Nat, Hid (∀ k, r k = longRun (alongL l k (N - st) M)) := ⟨_, fun _ => rfl⟩
    have hrb : ∀ k, r k ≤ 12 := fun k => by rw [Hr.out]; have := longRun_le (alongL l k (N - st) M); rw [alongL_len] at this; omega
    have Hrb := Lib.hid hrb
    have hres : floatsR xs st = (((longRun l : Nat) : Int), ((upR r N : Nat) : Int), 0) := by
      unfold floatsR
      rw [if_pos hv, ← Hl.out, ← HN.out]
      have : stakeRun l st = r := by funext k; rw [Hr.out]; unfold stakeRun; rw [← HN.out, ← HM.out]
      rw [this]
    rw [hres]
    have Hvt := Lib.hid (by
      have h := fun W h => validTwill_any a n c xs st W h
      rw [hv] at h
      exact h)
    have Hrow := Lib.hid (by
      have h := fun W h => rowOf_any a n c xs st W he h7 h
      rw [← Hl.out, ← Hs.out] at h
      exact h)
    have Hdv := Lib.hid (by
      have h := fun W => divisor_any N st W (by omega) (by omega) (by omega) (by omega)
      rw [← HG.out] at h
      exact h)
    have Hal := Lib.hid (fun (k : Nat) (hk : k < N) (W : World) => by
      have h := along_any s k ((N : Int) - st) M W (by omega) (by omega) (by omega) (by omega) (by omega) (by omega)
      rw [hsl, ← HT.out k] at h
      exact h)
    have Hlr := Lib.hid (fun (k : Nat) (W : World) => by
      have h := longestRun_any (T k) W (by rw [HT.out k, str_size, alongL_len]; omega) (by rw [HT.out k, str_size, alongL_len]; omega)
      rw [show longRun (T k).data.toList = r k by rw [HT.out k, str_list, Hr.out k]] at h
      exact h)
    have Hl0 := Lib.hid (fun (W : World) => by
      have h := longestRun_any s W (by omega) (by omega)
      rw [hsl] at h
      exact h)
    obtain ⟨R0, HR0⟩ : ∃ R0, Hid (R0 = longRun l) := ⟨_, rfl⟩
    rw [← HR0.out] at Hl0 ⊢
    have hGz : G ≠ 0 := by omega
    have q1' : (N : Int) / G = (M : Int) := by rw [← Int.tdiv_eq_ediv_of_nonneg (by omega)]; exact q1
    clear ha hA0 hB0 hv he h2 h4 h5 h6 h7 hrl hsl hrb hres
    go_enter Tryd.func18, Tryd.ntmps18
    go_wp2_with (first | (go_at_call 36; refine (Hvt.out _ (by exact HA.out.2.2)).mono ?_; rintro e w1 ⟨rfl, hb1⟩; have hca := (hb1.cell (p := ⟨w.heap.size, 0, none⟩) (by simp)).trans HA.out.1; have hcb := (hb1.cell (p := ⟨w.heap.size, 1, none⟩) (by simp)).trans HA.out.2.1; have HRV := Lib.hid (HA.out.2.2.below hb1); have HB1 := Lib.hid (bstep HB.out hb1 (by simp)); have hz1 : w.heap.size < w1.heap.size := (by have := hb1.size; simp at this; omega); clear hb1) | (go_at_call 37; refine (Hrow.out _ (by exact HRV.out)).mono ?_; rintro e w2 ⟨rfl, hb2⟩; have hcb2 := (hb2.cell (p := ⟨w.heap.size, 1, none⟩) hz1).trans hcb; have HB2 := Lib.hid (bstep HB1.out hb2 (Nat.le_refl _)); have hz2 : w.heap.size < w2.heap.size := (by have := hb2.size; omega); clear hb2))
    have Hcb2 := Lib.hid hcb2
    clear hca hcb hcb2
    go_loopw [6, 17] (fun q i wr => ∃ k : Nat, k ≤ N ∧ i = .int .i64 k ∧ ∃ A : Nat, q = .int .i64 A ∧ A ≤ 12 ∧ Hid (A = upR r k) ∧ Hid (Below w2.heap.size w2 wr)) (fun _ i _ => N - (intOf i).toNat)
    case atStart => exact ⟨0, Nat.zero_le _, rfl, 0, rfl, by omega, Lib.hid rfl, Lib.hid (Below.refl _ _)⟩
    case round =>
      obtain ⟨k, hk, rfl, A, rfl, hA12, HAk, Hbw⟩ := hrel
      by_cases hlt : k < N
      · have hcr : wr.cell? ⟨w.heap.size, 1, none⟩ = some (.int .i64 st) := (Hbw.out.cell (p := ⟨w.heap.size, 1, none⟩) hz2).trans Hcb2.out
        have hrk := Hrb.out k
        have hwr : IntKind.i64.wrap ((N : Int) - st) = (N : Int) - st := IntWalk.i64_in _ (by omega)
        have hwM : IntKind.i64.wrap (M : Int) = (M : Int) := IntWalk.i64_in _ (by omega)
        go_wp2
        go_region_with (first | (go_at_call 53; refine (Hdv.out _).mono ?_; rintro e w' ⟨rfl, md, rfl⟩) | (go_at_call 52; (with_reducible refine (Hal.out k hlt _).mono ?_); rintro e w3 ⟨rfl, hb3⟩; replace hb3 : Below wr.heap.size wr w3 := ⟨hb3.os, hb3.tape, hb3.output, hb3.size, hb3.block⟩; have Hb3 := Lib.hid (bstep Hbw.out hb3 (Nat.le_refl _)); clear hb3) | (go_at_call 51; (with_reducible refine (Hlr.out k _).mono ?_); rintro e w4 ⟨rfl, q, rfl⟩))
        all_goals
          clear hwr hwM
          go_wp2
          go_roundw
          case measure => simp [intOf]; omega
          case rel => exact ⟨k + 1, by omega, by go_num, max A (r k), congrArg (Value.int .i64) (by omega), by omega, Lib.hid (by rw [HAk.out]; rfl), Lib.hid (bdrewN Hb3.out q)⟩
      · have hkn : k = N := by omega
        have Hf := Lib.hid (show A = upR r N by rw [HAk.out, hkn])
        clear hkn
        go_wp2_with (go_at_call 51; refine (Hl0.out _).mono ?_; rintro e w4 ⟨rfl, q, rfl⟩)
        go_ret3
        have e1 := Hf.out
        subst e1
        exact ⟨rfl, bdrewN (bstep HB2.out Hbw.out (Nat.le_refl _)) q⟩
end Go.Proofs.YtggbnibdpkblgaaDoor
