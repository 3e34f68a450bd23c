/-
  Twills, on: plain ones, by walks.
-/
import Derived.Test.YtggbnibdpkblgaaDoorTwill6
namespace Go.Proofs.YtggbnibdpkblgaaDoor
open Go.RowKit
set_option linter.unusedVariables false

abbrev rtb (R : Bool × Int) : Ending := .returned (.tuple #[.bool R.1, .int .i64 R.2])
def plainR (xs : List Int) (st : Int) : Bool × Int := if vTwill xs st then (plainTo (rowW xs) st (rowW xs).length, 0) else (false, 1)

set_option maxHeartbeats 2000000 in
theorem isPlain_any (a : Option Addr) (n c : Nat) (xs : List Int) (st : Int) (w : World) (ha : RV w a n c (ints xs)) :
    Calls Tryd.prog 9 #[.agg #[.slice a n c, .int .i64 st]] w fun e w' => e = rtb (plainR xs st) ∧ Below w.heap.size w w' := by
  have hA0 := TwAt.boxed st 28 ha
  have hB0 : Below w.heap.size w (w.alloc (.cells #[.slice a n c, .int .i64 st] 28)) := (Below.refl _ _).alloc (Nat.le_refl _) _
  have HA := Lib.hid hA0
  have HB := Lib.hid hB0
  cases hv : vTwill xs st
  · rw [show plainR xs st = (false, 1) by simp [plainR, hv]]
    have Hvt := Lib.hid (by
      have h := fun W h => validTwill_any a n c xs st W h
      rw [hv] at h
      exact h)
    clear ha hA0 hB0 hv
    go_enter Tryd.func9, Tryd.ntmps9
    go_wp2_with (go_at_call 36; refine (Hvt.out _ (by exact HA.out.2.2)).mono ?_; rintro e w1 ⟨rfl, hb⟩)
    go_ret2
    exact ⟨rfl, bstep HB.out hb (by simp)⟩
  · obtain ⟨he, h7, hN0, hN1, hst0, hst1⟩ := row_facts hv
    obtain ⟨l, Hl⟩ : ∃ l, Hid (l = rowW xs) := ⟨_, rfl⟩
    obtain ⟨N, HN⟩ : ∃ N, Hid (N = l.length) := ⟨_, rfl⟩
    rw [← Hl.out, ← HN.out] at hN0 hN1 hst1
    obtain ⟨s, Hs⟩ : ∃ s, Hid (s = str l) := ⟨_, rfl⟩
    have hsN : s.size = N := by rw [Hs.out, str_size, HN.out]
    have hsl : s.data.toList = l := by rw [Hs.out, str_list]
    obtain ⟨stn, hstn⟩ : ∃ m : Nat, st = (m : Int) := ⟨st.toNat, by omega⟩
    have Hstn := Lib.hid hstn
    have hres : plainR xs st = (plainTo l st N, 0) := by unfold plainR; rw [if_pos hv, ← Hl.out, ← HN.out]
    have Hres := Lib.hid hres
    have Hvt := Lib.hid (by
      have h := fun W h => validTwill_any a n c xs st W h
      rw [hv] at h
      exact h)
    have Hrow := Lib.hid (by
      have h := fun W h => rowOf_any a n c xs st W he h7 h
      rw [← Hl.out, ← Hs.out] at h
      exact h)
    have Hbat := Lib.hid (fun k (hk : k < s.size) => show (s[k]'hk).toNat = bat l k by rw [← hsl]; exact bat_get hk)
    have Htwo := Lib.hid (fun k (hk : k < s.size) => show (s[k]'hk).toNat < 128 by
      rw [Hbat.out k hk]
      have h2 := rowTo_two xs xs.length
      rcases two_at (k := k) h2 (by show k < (rowW xs).length; rw [← Hl.out, ← HN.out]; omega) with h | h <;> (show bat l k < 128; rw [Hl.out]; unfold rowW; rw [h]; decide))
    clear ha hA0 hB0 hv he h7 hsl hstn hres
    have hstn2 : 1 ≤ stn := by have := Hstn.out; omega
    have hstn3 : stn + 1 ≤ N := by have := Hstn.out; omega
    go_enter Tryd.func9, Tryd.ntmps9
    go_wp2_with (first | (go_at_call 36; refine (Hvt.out _ (by exact HA.out.2.2)).mono ?_; rintro e w1 ⟨rfl, hb1⟩; have hca := (hb1.cell (p := ⟨w.heap.size, 0, none⟩) (by simp)).trans HA.out.1; have hcb := (hb1.cell (p := ⟨w.heap.size, 1, none⟩) (by simp)).trans HA.out.2.1; have HRV := Lib.hid (HA.out.2.2.below hb1); have HB1 := Lib.hid (bstep HB.out hb1 (by simp)); have hz1 : w.heap.size < w1.heap.size := (by have := hb1.size; simp at this; omega); clear hb1) | (go_at_call 37; refine (Hrow.out _ (by exact HRV.out)).mono ?_; rintro e w2 ⟨rfl, hb2⟩; have hcb2 := (hb2.cell (p := ⟨w.heap.size, 1, none⟩) hz1).trans hcb; have HB2 := Lib.hid (bstep HB1.out hb2 (Nat.le_refl _)); have hz2 : w.heap.size < w2.heap.size := (by have := hb2.size; omega); clear hb2))
    have Hcb2 := Lib.hid hcb2
    clear hca hcb hcb2
    go_loopw [] (fun wr => ∃ k : Nat, k ≤ N ∧ Hid (wr.heap[w2.heap.size]? = some (.stringIter s k)) ∧ Hid (Below w2.heap.size w2 wr) ∧ Hid (plainTo l st k = true)) (fun wr => N - wr.iterPos w2.heap.size)
    case atStart => exact ⟨0, Nat.zero_le _, Lib.hid (World.iter_heap w2 s 0), Lib.hid ((Below.refl _ _).alloc (Nat.le_refl _) _), Lib.hid (by simp [plainTo])⟩
    case round =>
      obtain ⟨k, hk, Hit, Hb, HP⟩ := hrel
      by_cases hlt : k < N
      · have hks : k < s.size := by rw [hsN]; exact hlt
        have hnx : ∀ ty, (Instr.next (.pointer (some ⟨w2.heap.size, 0, none⟩)) true ty).run Tryd.prog wr = _ := fun ty => Lib.run_next_ascii_at wr w2.heap.size s k ty Hit.out hks (Htwo.out k hks)
        have Hit2 := Lib.hid (Lib.iterAt_heap wr w2.heap.size s k (k + 1) Hit.out)
        have hb2 : Below w2.heap.size w2 (wr.iterAt w2.heap.size s (k + 1)) := Lib.below_iterAt Hb.out (Nat.le_refl _) s (k + 1)
        have hcr : (wr.iterAt w2.heap.size s (k + 1)).cell? ⟨w.heap.size, 1, none⟩ = some (.int .i64 st) := (hb2.cell (p := ⟨w.heap.size, 1, none⟩) hz2).trans Hcb2.out
        have Hb2 := Lib.hid hb2
        have hpos : wr.iterPos w2.heap.size = k := by unfold World.iterPos; rw [Hit.out]
        have Hpos := Lib.hid hpos
        clear hb2 hpos
        obtain ⟨j1, hj1⟩ : ∃ j, (k + 1) % N = j := ⟨_, rfl⟩
        obtain ⟨j2, hj2⟩ : ∃ j, (k + stn) % N = j := ⟨_, rfl⟩
        have hj1l : j1 < N := by rw [← hj1]; exact Nat.mod_lt _ (by omega)
        have hj2l : j2 < N := by rw [← hj2]; exact Nat.mod_lt _ (by omega)
        have q1 : ((k : Int) + 1) % (N : Int) = (j1 : Int) := by rw [← hj1]; simp
        have q2 : ((k : Int) + st) % (N : Int) = (j2 : Int) := by rw [← hj2, Hstn.out]; simp
        have q1t : ((k : Int) + 1).tmod (N : Int) = (j1 : Int) := by rw [Int.tmod_eq_emod_of_nonneg (by omega)]; exact q1
        have q2t : ((k : Int) + st).tmod (N : Int) = (j2 : Int) := by rw [Int.tmod_eq_emod_of_nonneg (by omega)]; exact q2
        have hj1s : j1 < s.size := by rw [hsN]; exact hj1l
        have hj2s : j2 < s.size := by rw [hsN]; exact hj2l
        have hj1i : (j1 : Int) < N := by omega
        have hj2i : (j2 : Int) < N := by omega
        have hki : (k : Int) < N := by omega
        have hz : (N : Int) ≠ 0 := by omega
        have hz' : N ≠ 0 := by omega
        have hw1 : IntKind.i64.wrap ((k : Int) + 1) = (k : Int) + 1 := IntWalk.i64_in _ (by omega)
        have hw2 : IntKind.i64.wrap ((k : Int) + st) = (k : Int) + st := IntWalk.i64_in _ (by omega)
        have hn1 : (0 : Int) ≤ (k : Int) + 1 := by omega
        have hn2 : (0 : Int) ≤ (k : Int) + st := by omega
        obtain ⟨c0, hc0⟩ : ∃ c : Nat, (s[k]'hks).toNat = c := ⟨_, rfl⟩
        obtain ⟨c1, hc1⟩ : ∃ c : Nat, (s[j1]'hj1s).toNat = c := ⟨_, rfl⟩
        obtain ⟨c2, hc2⟩ : ∃ c : Nat, (s[j2]'hj2s).toNat = c := ⟨_, rfl⟩
        have hPA : plainAt l st k = ((c0 != c1) && (c0 != c2)) := by
          unfold plainAt
          rw [← HN.out, hj1, q2, Int.toNat_natCast, ← hc0, ← hc1, ← hc2, Hbat.out k hks, Hbat.out j1 hj1s, Hbat.out j2 hj2s]
        have HPA0 := Lib.hid hPA
        clear hj1 hj2 hPA
        by_cases h01 : c0 = c1
        · have t1 : ((c0 : Int) == (c1 : Int)) = true := by simp [h01]
          have t1' : (c0 == c1) = true := by simp [h01]
          have Hf := Lib.hid (show plainTo l st N = false from plainTo_bad (by rw [HPA0.out]; simp [h01]) hlt)
          clear h01
          go_wp2
          go_quiet (fail)
          go_wp2
          go_ret2
          exact ⟨(Hres.out.trans (by rw [Hf.out])) ▸ rfl, bdrewN (bstep HB2.out Hb2.out (Nat.le_refl _)) _⟩
        · have t1 : ((c0 : Int) == (c1 : Int)) = false := by simp; omega
          have t1' : (c0 == c1) = false := by simp [h01]
          by_cases h02 : c0 = c2
          · have t2 : ((c0 : Int) == (c2 : Int)) = true := by simp [h02]
            have t2' : (c0 == c2) = true := by simp [h02]
            have Hf := Lib.hid (show plainTo l st N = false from plainTo_bad (by rw [HPA0.out]; simp [h02]) hlt)
            clear h01 h02
            go_wp2
            go_quiet (fail)
            go_wp2
            go_ret2
            exact ⟨(Hres.out.trans (by rw [Hf.out])) ▸ rfl, bdrewN (bstep HB2.out Hb2.out (Nat.le_refl _)) _⟩
          · have t2 : ((c0 : Int) == (c2 : Int)) = false := by simp; omega
            have t2' : (c0 == c2) = false := by simp [h02]
            have HPA := Lib.hid (show plainAt l st k = true by rw [HPA0.out]; simp [h01, h02])
            clear h01 h02
            go_wp2
            go_quiet (fail)
            go_wp2
            go_roundw
            case rel => exact ⟨k + 1, by omega, Hit2, Lib.hid (bdrewN Hb2.out _), Lib.hid (by rw [plainTo_step, HP.out, HPA.out]; rfl)⟩
            case measure =>
              have h1 := Hpos.out
              have h2 : (((wr.iterAt w2.heap.size s (k + 1)).drewN nq).iterPos w2.heap.size) = k + 1 := by
                unfold World.iterPos
                rw [show ((wr.iterAt w2.heap.size s (k + 1)).drewN nq).heap[w2.heap.size]? = some (.stringIter s (k + 1)) from Hit2.out]
              omega
      · have hkn : k = N := by omega
        have hnx : ∀ ty, (Instr.next (.pointer (some ⟨w2.heap.size, 0, none⟩)) true ty).run Tryd.prog wr = _ := fun ty => Lib.run_next_end_at wr w2.heap.size s k ty Hit.out (by rw [hsN]; exact hlt)
        have Hf := Lib.hid (show plainTo l st N = true by rw [← hkn]; exact HP.out)
        clear hkn
        go_wp2
        go_ret2
        exact ⟨(Hres.out.trans (by rw [Hf.out])) ▸ rfl, bstep HB2.out Hb.out (Nat.le_refl _)⟩

set_option maxHeartbeats 2000000 in
theorem specIsPlain_any (a : Option Addr) (n c : Nat) (xs : List Int) (st : Int) (w : World) (ha : RV w a n c (ints xs)) :
    Calls Tryd.prog 10 #[.agg #[.slice a n c, .int .i64 st]] w fun e w' => e = rtb (plainR xs st) ∧ Below w.heap.size w w' := by
  have hA0 := TwAt.boxed st 28 ha
  have hB0 : Below w.heap.size w (w.alloc (.cells #[.slice a n c, .int .i64 st] 28)) := (Below.refl _ _).alloc (Nat.le_refl _) _
  have HA := Lib.hid hA0
  have HB := Lib.hid hB0
  cases hv : vTwill xs st
  · rw [show plainR xs st = (false, 1) by simp [plainR, hv]]
    have Hvt := Lib.hid (by
      have h := fun W h => l09Ok_any w.heap.size a n c xs st W h
      rw [hv] at h
      exact h)
    clear ha hA0 hB0 hv
    go_enter Tryd.func10, Tryd.ntmps10
    go_wp2_with (go_at_call 38; refine (Hvt.out _ (by exact HA.out)).mono ?_; rintro e w1 ⟨rfl, q, rfl⟩)
    go_ret2
    exact ⟨rfl, bdrewN HB.out q⟩
  · obtain ⟨he, h7, hN0, hN1, hst0, hst1⟩ := row_facts hv
    obtain ⟨l, Hl⟩ : ∃ l, Hid (l = rowW xs) := ⟨_, rfl⟩
    obtain ⟨N, HN⟩ : ∃ N, Hid (N = l.length) := ⟨_, rfl⟩
    rw [← Hl.out, ← HN.out] at hN0 hN1 hst1
    obtain ⟨s, Hs⟩ : ∃ s, Hid (s = str l) := ⟨_, rfl⟩
    have hsN : s.size = N := by rw [Hs.out, str_size, HN.out]
    have hsl : s.data.toList = l := by rw [Hs.out, str_list]
    have hres : plainR xs st = (plainTo' l st N, 0) := by unfold plainR; rw [if_pos hv, ← Hl.out, plain_same, ← HN.out]
    have Hres := Lib.hid hres
    have Hvt := Lib.hid (by
      have h := fun W h => l09Ok_any w.heap.size a n c xs st W h
      rw [hv] at h
      exact h)
    have Hrow := Lib.hid (by
      have h := fun W h => l09Row_any w.heap.size a n c xs st W he h7 h
      rw [← Hl.out, ← Hs.out] at h
      exact h)
    have Hbat := Lib.hid (fun k (hk : k < s.size) => show (s[k]'hk).toNat = bat l k by rw [← hsl]; exact bat_get hk)
    have Hat := Lib.hid (fun (k : Nat) (hk : k < N) (W : World) => by
      have h := l09At_any s st k 1 W (by omega) (by omega) (by omega) (by omega) (by omega)
      rw [hsl, hsN, Int.mul_one] at h
      exact h)
    clear ha hB0 hv he h7 hsl hres
    obtain ⟨W0, HW0⟩ : ∃ W0, Hid (W0 = w.alloc (.cells #[.slice a n c, .int .i64 st] 28)) := ⟨_, rfl⟩
    go_enter Tryd.func10, Tryd.ntmps10
    go_wp2_with (first | (go_at_call 38; refine (Hvt.out _ (by exact HA.out)).mono ?_; rintro e w1 ⟨rfl, q0, rfl⟩) | (go_at_call 39; refine (Hrow.out _ (by exact HA.out)).mono ?_; rintro e w2 ⟨rfl, rfl⟩))
    clear hA0
    go_loopw [6] (fun i wr => ∃ k : Nat, k ≤ N ∧ i = .int .i64 k ∧ Hid (plainTo' l st k = true) ∧ ∃ q, Hid (wr = W0.drewN q)) (fun i _ => N - (intOf i).toNat)
    case atStart => exact ⟨0, Nat.zero_le _, rfl, Lib.hid (by simp [plainTo']), q0, Lib.hid (by rw [HW0.out])⟩
    case round =>
      obtain ⟨k, hk, rfl, HP, q, Hw⟩ := hrel
      by_cases hlt : k < N
      · have hks : k < s.size := by rw [hsN]; exact hlt
        have hcr : wr.cell? ⟨w.heap.size, 1, none⟩ = some (.int .i64 st) := by rw [Hw.out, HW0.out]; exact HA.out.2.1
        obtain ⟨j1, hj1⟩ : ∃ j, (k + 1) % N = j := ⟨_, rfl⟩
        have hj1l : j1 < N := by rw [← hj1]; exact Nat.mod_lt _ (by omega)
        have q1 : ((k : Int) + 1) % (N : Int) = (j1 : Int) := by rw [← hj1]; simp
        have q1t : ((k : Int) + 1).tmod (N : Int) = (j1 : Int) := by rw [Int.tmod_eq_emod_of_nonneg (by omega)]; exact q1
        have hj1s : j1 < s.size := by rw [hsN]; exact hj1l
        have hj1i : (j1 : Int) < N := by omega
        have hki : (k : Int) < N := by omega
        have hz : (N : Int) ≠ 0 := by omega
        have hz' : N ≠ 0 := by omega
        have hw1 : IntKind.i64.wrap ((k : Int) + 1) = (k : Int) + 1 := IntWalk.i64_in _ (by omega)
        have hn1 : (0 : Int) ≤ (k : Int) + 1 := by omega
        obtain ⟨c0, hc0⟩ : ∃ c : Nat, (s[k]'hks).toNat = c := ⟨_, rfl⟩
        obtain ⟨c1, hc1⟩ : ∃ c : Nat, (s[j1]'hj1s).toNat = c := ⟨_, rfl⟩
        obtain ⟨c2, Hc2⟩ : ∃ c : Nat, Hid (bat l (((k : Int) - st) % N).toNat = c) := ⟨_, rfl⟩
        have Ha2 := Lib.hid (by
          have h := Hat.out k hlt
          rw [Hc2.out] at h
          exact h)
        have hPA : plainAt' l st k = ((c0 != c1) && (c0 != c2)) := by
          unfold plainAt'
          rw [← HN.out, hj1, Hc2.out, ← hc0, ← hc1, Hbat.out k hks, Hbat.out j1 hj1s]
        have HPA0 := Lib.hid hPA
        clear hj1 hPA
        by_cases h01 : c0 = c1
        · have t1 : ((c0 : Int) == (c1 : Int)) = true := by simp [h01]
          have t1' : (c0 == c1) = true := by simp [h01]
          have Hf := Lib.hid (show plainTo' l st N = false from plainTo'_bad (by rw [HPA0.out]; simp [h01]) hlt)
          clear h01
          go_wp2
          go_quiet (fail)
          go_wp2
          go_ret2
          refine ⟨(Hres.out.trans (by rw [Hf.out])) ▸ rfl, ?_⟩
          rw [Hw.out, HW0.out]; exact bdrewN (bdrewN HB.out _) _
        · have t1 : ((c0 : Int) == (c1 : Int)) = false := by simp; omega
          have t1' : (c0 == c1) = false := by simp [h01]
          by_cases h02 : c0 = c2
          · have t2 : ((c0 : Int) == (c2 : Int)) = true := by simp [h02]
            have t2' : (c0 == c2) = true := by simp [h02]
            have Hf := Lib.hid (show plainTo' l st N = false from plainTo'_bad (by rw [HPA0.out]; simp [h02]) hlt)
            clear h01 h02
            go_wp2
            go_quiet ((go_at_call 40; exact Calls.quiet_of_same ((Ha2.out _).mono fun e w' ⟨h1, h2⟩ => ⟨h1, h2.symm⟩)))
            go_wp2
            go_ret2
            refine ⟨(Hres.out.trans (by rw [Hf.out])) ▸ rfl, ?_⟩
            rw [Hw.out, HW0.out]; exact bdrewN (bdrewN HB.out _) _
          · have t2 : ((c0 : Int) == (c2 : Int)) = false := by simp; omega
            have t2' : (c0 == c2) = false := by simp [h02]
            have HPA := Lib.hid (show plainAt' l st k = true by rw [HPA0.out]; simp [h01, h02])
            clear h01 h02
            go_wp2
            go_quiet ((go_at_call 40; exact Calls.quiet_of_same ((Ha2.out _).mono fun e w' ⟨h1, h2⟩ => ⟨h1, h2.symm⟩)))
            go_wp2
            go_roundw
            case rel => exact ⟨k + 1, by omega, by go_num, Lib.hid (by rw [plainTo'_step, HP.out, HPA.out]; rfl), q + nq, Lib.hid (by rw [Hw.out, World.drewN_drewN])⟩
            case measure => simp [intOf]; omega
      · have hkn : k = N := by omega
        have Hf := Lib.hid (show plainTo' l st N = true by rw [← hkn]; exact HP.out)
        have d0 : decide ((k : Int) < N) = false := by simp; omega
        clear hkn
        go_wp2
        go_ret2
        refine ⟨(Hres.out.trans (by rw [Hf.out])) ▸ rfl, ?_⟩
        rw [Hw.out, HW0.out]; exact bdrewN HB.out _
end Go.Proofs.YtggbnibdpkblgaaDoor
