/-
  The back of a twill, the reference, by walks.
-/
import Derived.Test.YtggbnibdpkblgaaDoorDraft4
import Derived.Test.YtggbnibdpkblgaaDoorTwillRow
import Derived.Test.YtggbnibdpkblgaaDoorStrS
import Derived.Test.YtggbnibdpkblgaaDoorRegTail
namespace Go.Proofs.YtggbnibdpkblgaaDoor
open Go Go.RowKit
set_option linter.unusedVariables false
set_option maxRecDepth 100000

/-- the other letter -/
def othB (c : UInt8) : UInt8 := if c = 70 then 66 else 70
/-- the row seen from behind -/
def backL (l : List UInt8) : List UInt8 := (l.map othB).reverse
theorem backL_len (l : List UInt8) : (backL l).length = l.length := by simp [backL]
theorem backL_drop {l : List UInt8} {k : Nat} (hk : k + 1 ≤ l.length) : backL (l.drop (l.length - (k + 1))) = backL (l.drop (l.length - k)) ++ [othB (l.getD (l.length - (k + 1)) 0)] := by
  have h : l.drop (l.length - (k + 1)) = l.getD (l.length - (k + 1)) 0 :: l.drop (l.length - k) := by
    have hlt : l.length - (k + 1) < l.length := by omega
    rw [List.drop_eq_getElem_cons hlt, show l.length - (k + 1) + 1 = l.length - k by omega]
    simp [hlt]
  rw [h]
  simp [backL]
theorem row_factsB {xs : List Int} {st : Int} (hv : vTwill xs st = true) : eachIn xs 1 12 = true ∧ xs.length ≤ 12 ∧ 2 ≤ (rowW xs).length ∧ (rowW xs).length ≤ 12 ∧ 1 ≤ st ∧ st ≤ ((rowW xs).length : Int) - 1 := by
  obtain ⟨he, h2, _, h4, h5, h6, h7⟩ := vTwill_iff hv
  have hrl := rowW_len he
  exact ⟨he, h7, by omega, by omega, h5, by omega⟩
def backR (xs : List Int) (st : Int) : List Int × Int × Int :=
  if vTwill xs st then (partsW (turnT (backL (rowW xs))), (rowW xs).length - st, 0) else ([], 0, 1)

theorem backL_two {l : List UInt8} : two 70 66 (backL l) = true := by
  refine two_iff.2 fun c hc => ?_
  simp only [backL, List.mem_reverse, List.mem_map] at hc
  obtain ⟨d, _, rfl⟩ := hc
  unfold othB
  by_cases h : d = 70
  · right; simp [h]
  · left; simp [h]
theorem rowTo_front {xs : List Int} (he : eachIn xs 1 12 = true) : ∀ k, k ≤ xs.length → 1 ≤ k → (70 : UInt8) ∈ rowTo xs k
  | 0, _, h => by omega
  | k + 1, hk, _ => by
    show (70 : UInt8) ∈ rowTo xs k ++ List.replicate (xs.getD k 0).toNat (letter k)
    by_cases h0 : k = 0
    · subst h0
      have h := eachIn_at he (k := 0) (by omega)
      refine List.mem_append_right _ (List.mem_replicate.2 ⟨by omega, rfl⟩)
    · exact List.mem_append_left _ (rowTo_front he k (by omega) (by omega))
theorem rowTo_behind {xs : List Int} (he : eachIn xs 1 12 = true) : ∀ k, k ≤ xs.length → 2 ≤ k → (66 : UInt8) ∈ rowTo xs k
  | 0, _, h => by omega
  | k + 1, hk, _ => by
    show (66 : UInt8) ∈ rowTo xs k ++ List.replicate (xs.getD k 0).toNat (letter k)
    by_cases h0 : k = 1
    · subst h0
      have h := eachIn_at he (k := 1) (by omega)
      refine List.mem_append_right _ (List.mem_replicate.2 ⟨by omega, rfl⟩)
    · exact List.mem_append_left _ (rowTo_behind he k (by omega) (by omega))
theorem back_good {xs : List Int} (he : eachIn xs 1 12 = true) (h2 : 2 ≤ xs.length) : ∃ i, goodI (backL (rowW xs)) = some i := by
  have hF := rowTo_front he xs.length (Nat.le_refl _) (by omega)
  have hB := rowTo_behind he xs.length (Nat.le_refl _) h2
  refine good_both backL_two ?_ ?_
  · simp only [backL, List.mem_reverse, List.mem_map]
    exact ⟨66, hB, by decide⟩
  · simp only [backL, List.mem_reverse, List.mem_map]
    exact ⟨70, hF, by decide⟩

set_option maxHeartbeats 2000000 in
theorem specBackOf_any (a : Option Addr) (n c : Nat) (xs : List Int) (st : Int) (w : World) (ha : RV w a n c (ints xs)) :
    Calls Tryd.prog 19 #[.agg #[.slice a n c, .int .i64 st]] w (RetTC w 2 (backR xs st)) := by
  have hlen := ha.lenI
  have HB := Lib.hid (show Below w.heap.size w ((w.alloc (.cells #[.slice a n c, .int .i64 st] 28)).alloc (.cells #[.slice none 0 0, .int .i64 0] 28)) from ((Below.refl _ _).alloc (Nat.le_refl _) _).alloc (by simp) _)
  have Hbt := Lib.hid ((Blk.box w [.slice a n c, .int .i64 st] 28 rfl).alloc (.cells #[.slice none 0 0, .int .i64 0] 28))
  have Hbr := Lib.hid (show Blk ((w.alloc (.cells #[.slice a n c, .int .i64 st] 28)).alloc (.cells #[.slice none 0 0, .int .i64 0] 28)) (w.heap.size + 1) [.slice none 0 0, .int .i64 0] 28 by
    have h := Blk.box (w.alloc (.cells #[.slice a n c, .int .i64 st] 28)) [.slice none 0 0, .int .i64 0] 28 rfl
    simpa using h)
  have Htw := Lib.hid (fun W (hb : Blk W w.heap.size [.slice a n c, .int .i64 st] 28) (hB : Below w.heap.size w W) => show TwAt W w.heap.size a n c xs st from ⟨hb.cell 0 _ rfl, hb.cell 1 _ rfl, ha.below hB⟩)
  have Hvt0 := Lib.hid (fun W h => (l09Ok_any w.heap.size a n c xs st W h).mono (fun e w' h => (⟨h.1, by obtain ⟨q, hq⟩ := h.2; rw [hq]; exact bdrewN (Below.refl _ _) q⟩ : _ ∧ Below W.heap.size W w')))
  cases hv : vTwill xs st
  · rw [show backR xs st = ([], 0, 1) by simp [backR, hv]]
    rw [hv] at Hvt0
    clear ha hv hlen
    go_enter Tryd.func19, Tryd.ntmps19
    go_wp2_with fail
    with_reducible refine (Hvt0.out _ (Htw.out _ Hbt.out HB.out)).mono ?_
    rintro e w1 ⟨rfl, hb⟩
    have Hb1 := Lib.hid (bstep HB.out hb (Nat.le_refl _))
    have Hblk1 := Lib.hid (Hbr.out.below hb)
    have hc0 := Hblk1.out.cell 0 _ rfl
    have hc1 := Hblk1.out.cell 1 _ rfl
    have hf0 := Hblk1.out.frozen 0
    have hf1 := Hblk1.out.frozen 1
    have hz1 := Hblk1.out.lt
    clear hb
    go_wp2_with fail
    have Hblk2 := (Hblk1.out.set 0 (.slice none 0 0)).set 1 (.int .i64 0)
    have g0 := Hblk2.cell 0 _ rfl
    have g1 := Hblk2.cell 1 _ rfl
    refine bodyPost_ret (v := .tuple #[.agg #[.slice none 0 0, .int .i64 0], .int .i64 1]) (by simp [results, Tryd.results19, go_sem, g0, g1]) rfl ⟨_, rfl, Own.nil _ _ _ _, ?_⟩
    exact (Hb1.out.setCell (Nat.le_succ _) _).setCell (Nat.le_succ _) _
  · obtain ⟨he, h7, hN0, hN1, hst0, hst1⟩ := row_factsB hv
    obtain ⟨i0, hi⟩ := back_good he (vTwill_iff hv).2.1
    have hwd : lsum xs n = ((rowW xs).length : Int) := by rw [rowW_len he]; unfold widthT; rw [hlen]
    have Hbd := Lib.hid (fun k (hk : k ≤ n) => show 0 ≤ lsum xs k ∧ lsum xs k ≤ 1000000 by have := lsum_bd he k (by omega); omega)
    have Hwd := Lib.hid (by
      have h := fun W h => l09Width_any w.heap.size a n c xs st W Hbd.out h
      rw [hwd] at h
      exact h)
    rw [hv] at Hvt0
    rw [show backR xs st = (partsW (turnT (backL (rowW xs))), ((rowW xs).length : Int) - st, 0) by simp [backR, hv]]
    have Hrow := Lib.hid (fun W h => l09Row_any w.heap.size a n c xs st W he h7 h)
    obtain ⟨l, Hl⟩ : ∃ l, Hid (l = rowW xs) := ⟨_, rfl⟩
    have htwo := rowTo_two xs xs.length
    rw [show rowTo xs xs.length = l from Hl.out.symm] at htwo
    rw [← Hl.out] at hN0 hN1 hst1 hi Hrow Hwd ⊢
    obtain ⟨s, Hs⟩ : ∃ s, Hid (s = str l) := ⟨_, rfl⟩
    obtain ⟨N, hN⟩ : ∃ N, l.length = N := ⟨_, rfl⟩
    have hsN : s.size = N := by rw [Hs.out, str_size, hN]
    have hsl : s.data.toList = l := by rw [Hs.out, str_list]
    rw [← Hs.out] at Hrow
    have Hbat := Lib.hid (fun j (hj : j < s.size) => show (s[j]'hj).toNat = bat l j by rw [← hsl]; exact bat_get hj)
    have Hlet := Lib.hid (fun j (hj : j < N) => show l.getD j 0 = 70 ∨ l.getD j 0 = 66 from two_iff.1 htwo _ (by simp [show j < l.length by omega]))
    have Hstep := Lib.hid (fun k (hk : k + 1 ≤ l.length) => backL_drop (l := l) hk)
    rw [hN] at hN0 hN1 hst1 Hstep Hwd
    obtain ⟨R, HR⟩ : ∃ R, Hid (R = str (backL l)) := ⟨_, rfl⟩
    have hRs : R.size = N := by rw [HR.out, str_size, backL_len, hN]
    have HRl := Lib.hid (show R.data.toList = backL l by rw [HR.out, str_list])
    have Ht := Lib.hid (fun W => (l09Turn_any R W (by omega)).mono (fun e w' h => (⟨h.1, by obtain ⟨q, hq⟩ := h.2; rw [hq]; exact bdrewN (Below.refl _ _) q⟩ : _ ∧ Below W.heap.size W w')))
    rw [HRl.out, hi] at Ht
    have htl : (turnT (backL l)).length = N := by unfold turnT; rw [hi]; show (turnW (backL l) i0).length = _; rw [turnW_len, backL_len, hN]
    obtain ⟨T, HT⟩ : ∃ T, Hid (T = str (turnT (backL l))) := ⟨_, rfl⟩
    have hTs : T.size = N := by rw [HT.out, str_size, htl]
    have Hd := Lib.hid (fun W => by
      have h := l09Draft_any T ((N : Int) - st) W (by omega) (by omega)
      rw [show T.data.toList = turnT (backL l) by rw [HT.out, str_list]] at h
      exact h)
    rw [← HT.out] at Ht
    rw [hN]
    obtain ⟨PW, HPW⟩ : ∃ PW, partsW (turnT (backL l)) = PW := ⟨_, rfl⟩
    rw [HPW] at Hd ⊢
    have hws := IntWalk.i64_in ((N : Int) - st) (by omega)
    clear he h7 hi hv hwd htwo htl HPW hlen ha hsl
    go_enter Tryd.func19, Tryd.ntmps19
    go_wp2_with fail
    with_reducible refine (Hvt0.out _ (Htw.out _ Hbt.out HB.out)).mono ?_
    rintro e w1 ⟨rfl, hb⟩
    have Hb1 := Lib.hid (bstep HB.out hb (Nat.le_refl _))
    have Hbt1 := Lib.hid (Hbt.out.below hb)
    have Hbr1 := Lib.hid (Hbr.out.below hb)
    clear hb
    go_wp2_with fail
    with_reducible refine (Hrow.out _ (Htw.out _ Hbt1.out Hb1.out)).mono ?_
    rintro e w2 ⟨rfl, rfl⟩
    go_wp2_with fail
    go_loopw [5, 6] (fun v i wr => ∃ k : Nat, k ≤ N ∧ i = .int .i64 ((N : Int) - 1 - k) ∧ wr.ownsRow w1.heap.size 5 1 v k (u8s (bytesI (backL (l.drop (N - k))))) ∧ Below w1.heap.size w1 wr) (fun _ i _ => (intOf i + 1).toNat)
    case atStart => exact ⟨0, Nat.zero_le _, by simp, by rw [Nat.sub_zero, List.drop_eq_nil_of_le (by omega)]; exact owns_empty rfl (Nat.le_refl _), (Below.refl _ _).alloc (Nat.le_refl _) _⟩
    case round =>
      obtain ⟨k, hk, rfl, hown, hbel⟩ := hrel
      obtain ⟨a', c', rfl⟩ := owns_slice hown
      have hsz := hbel.size
      by_cases hlt : k < N
      · obtain ⟨j, hj⟩ : ∃ j : Nat, (N : Int) - 1 - k = j := ⟨(N - 1 - k), by omega⟩
        rw [hj]
        have hjN : j < N := by omega
        have hjs : j < s.size := by omega
        have hlet := Hlet.out j hjN
        have hxb := Hbat.out j hjs
        obtain ⟨x, hx⟩ : ∃ x, (s[j]'hjs).toNat = x := ⟨_, rfl⟩
        rw [hx] at hxb
        have hji : (j : Int) < N := by omega
        have hge : decide ((j : Int) ≥ 0) = true := by simp
        have Hst := Lib.hid (show backL (l.drop (N - (k + 1))) = backL (l.drop (N - k)) ++ [othB (l.getD j 0)] by rw [Hstep.out k (by omega), show N - (k + 1) = j by omega])
        have hnx : (j : Int) - 1 = (N : Int) - 1 - ((k + 1 : Nat) : Int) := by omega
        rcases hlet with h | h
        · have hx2 : x = 70 := by rw [hxb]; unfold bat; rw [h]; rfl
          have Hsw := Lib.hid (show othB (l.getD j 0) = 66 by rw [h]; rfl)
          subst hx2
          clear h hxb
          go_wp2_with (at_builtin; refine wpList_app1 rfl _ _ 22 rfl w1.heap.size 5 _ 1 Tryd.underlying22 info_u8s (by decide) rfl _ k _ rfl (hown.alloc _) wr.heap.size (.int .u8 66) rfl ?c1 rfl ?c2 ?c3 ?_)
          case c1 => exact cell_boxed rfl
          case c2 => omega
          case c3 => simp; omega
          intro v' w' hown' hgrow
          have hb' := below_app (hbel.alloc (by omega) _) (hown.alloc _) hgrow (Nat.le_refl _) (by simp; omega)
          have Hown' := Lib.hid hown'
          clear hown hgrow hbel hown'
          go_wp2
          go_roundw
          case measure => simp [intOf]; omega
          case rel => exact ⟨k + 1, by omega, by rw [← hnx]; go_num, by rw [Hst.out, Hsw.out, bytesI_append]; simpa [bytesI] using Hown'.out, hb'⟩
        · have hx2 : x = 66 := by rw [hxb]; unfold bat; rw [h]; rfl
          have Hsw := Lib.hid (show othB (l.getD j 0) = 70 by rw [h]; rfl)
          subst hx2
          clear h hxb
          go_wp2_with (at_builtin; refine wpList_app1 rfl _ _ 22 rfl w1.heap.size 5 _ 1 Tryd.underlying22 info_u8s (by decide) rfl _ k _ rfl (hown.alloc _) wr.heap.size (.int .u8 70) rfl ?d1 rfl ?d2 ?d3 ?_)
          case d1 => exact cell_boxed rfl
          case d2 => omega
          case d3 => simp; omega
          intro v' w' hown' hgrow
          have hb' := below_app (hbel.alloc (by omega) _) (hown.alloc _) hgrow (Nat.le_refl _) (by simp; omega)
          have Hown' := Lib.hid hown'
          clear hown hgrow hbel hown'
          go_wp2
          go_roundw
          case measure => simp [intOf]; omega
          case rel => exact ⟨k + 1, by omega, by rw [← hnx]; go_num, by rw [Hst.out, Hsw.out, bytesI_append]; simpa [bytesI] using Hown'.out, hb'⟩
      · have hkN : k = N := by omega
        subst hkN
        rw [show (k : Int) - 1 - k = -1 by omega]
        have hrv := (owns_read hown).1
        rw [Nat.sub_self, List.drop_zero] at hrv
        obtain ⟨b, o, rfl, _, _⟩ := hrv.cellv (by omega)
        have hcv := run_to_string (P := Tryd.prog) 22 9 5 Tryd.underlying22 Tryd.underlying5 Tryd.underlying9 hrv
        rw [← HR.out] at hcv
        have Hb3 := Lib.hid (bstep Hb1.out hbel (Nat.le_refl _))
        have Hbt3 := Lib.hid (Hbt1.out.below hbel)
        have Hbr3 := Lib.hid (Hbr1.out.below hbel)
        clear hown hrv hbel
        go_wp2_with fail
        with_reducible refine (Ht.out _).mono ?_
        rintro e w4 ⟨rfl, hb⟩
        have Hb4 := Lib.hid (bstep Hb3.out hb (Nat.le_refl _))
        have Hbt4 := Lib.hid (Hbt3.out.below hb)
        have Hbr4 := Lib.hid (Hbr3.out.below hb)
        clear hb
        go_wp2_with fail
        refine wp_region_head (fun w' => w'.cell? ⟨w.heap.size, 1, none⟩ = some (.int .i64 st)) 6 (by kernel_rfl) (by decide) ?_
        obtain ⟨wd, hwd⟩ : ∃ wd, w4.drew = wd := ⟨_, rfl⟩
        have Hb5 := Lib.hid (show Below w.heap.size w wd by rw [← hwd]; exact bdrewN Hb4.out 1)
        have Hbt5 := Lib.hid (show Blk wd w.heap.size [.slice a n c, .int .i64 st] 28 by rw [← hwd]; exact Hbt4.out)
        have Hbr5 := Lib.hid (show Blk wd (w.heap.size + 1) [.slice none 0 0, .int .i64 0] 28 by rw [← hwd]; exact Hbr4.out)
        rw [hwd]
        clear hwd
        have HSS := Lib.hid (Hbt5.out.cell 1 _ rfl)
        refine wpHead_take (i := 0) (v := ?_) rfl (by kernel_rfl) (fun _ _ _ h => h) (Or.inl ⟨by rfl, ?_⟩) HSS.out ?_
        rotate_left
        · intro w hSw; (try dsimp only at hSw); go_simp; (try with_reducible rfl)
        (try simp only [Act.put, List.setIfInBounds_toArray, List.set_cons_zero, List.set_cons_succ])
        refine wpHead_take (i := 2) (v := ?_) rfl (by kernel_rfl) (fun _ _ _ h => h) (Or.inl ⟨by rfl, ?_⟩) HSS.out ?_
        rotate_left
        · intro w hSw; (try dsimp only at hSw); go_simp; (try with_reducible rfl)
        (try simp only [Act.put, List.setIfInBounds_toArray, List.set_cons_zero, List.set_cons_succ])
        refine wpHead_take (i := 3) (v := ?_) rfl (by kernel_rfl) (fun _ _ _ h => h) (Or.inl ⟨by rfl, ?_⟩) HSS.out ?_
        rotate_left
        · intro w hSw; (try dsimp only at hSw); go_simp; (try with_reducible rfl)
        (try simp only [Act.put, List.setIfInBounds_toArray, List.set_cons_zero, List.set_cons_succ])
        refine wpHead_one (i := 1) (by kernel_rfl) (by decide) rfl (fun K hK => ?_)
        go_simp
        with_reducible refine (Hwd.out _ (Htw.out _ Hbt5.out Hb5.out)).mono ?_
        rintro e w5 ⟨rfl, rfl⟩
        refine hK.out _ _ HSS.out ?_
        clear hK K
        (try simp only [Act.put, List.setIfInBounds_toArray, List.set_cons_zero, List.set_cons_succ])
        refine wpHead_take (i := 4) (v := ?_) rfl (by kernel_rfl) (fun _ _ _ h => h) (Or.inl ⟨by rfl, ?_⟩) HSS.out ?_
        rotate_left
        · intro w hSw; (try dsimp only at hSw); go_simp; (try with_reducible rfl)
        (try simp only [Act.put, List.setIfInBounds_toArray, List.set_cons_zero, List.set_cons_succ])
        refine wpHead_one (i := 5) (by kernel_rfl) (by decide) rfl (fun K hK => ?_)
        go_simp
        with_reducible refine (Hd.out _).mono ?_
        rintro e w6 ⟨v, rfl, ho, hb⟩
        refine hK.out _ _ ((Hbt5.out.below hb).cell 1 _ rfl) ?_
        clear hK K
        (try simp only [Act.put, List.setIfInBounds_toArray, List.set_cons_zero, List.set_cons_succ])
        have Ho := Lib.hid ho
        have Hb6 := Lib.hid (bstep Hb5.out hb (Nat.le_refl _))
        have Hblk6 := Lib.hid (Hbr5.out.below hb)
        have hsz1 := Hb5.out.size
        obtain ⟨a5, c5, rfl, hr5⟩ := ho.sliceI
        have hk0 := Hblk6.out.cell 0 _ rfl
        have hk1 := Hblk6.out.cell 1 _ rfl
        have hg0 := Hblk6.out.frozen 0
        have hg1 := Hblk6.out.frozen 1
        have hz6 := Hblk6.out.lt
        have hzr := Hbr5.out.lt
        clear hr5 ho hb
        refine wpHead_done (by kernel_rfl) ?_
        simp only [List.drop_succ_cons, List.drop_zero]
        go_wp2
        have Hblk2 := (Hblk6.out.set 0 (.slice a5 PW.length c5)).set 1 (.int .i64 ((k : Int) - st))
        have g0 := Hblk2.cell 0 _ rfl
        have g1 := Hblk2.cell 1 _ rfl
        refine bodyPost_ret (v := .tuple #[.agg #[.slice a5 PW.length c5, .int .i64 ((k : Int) - st)], .int .i64 0]) (by simp [results, Tryd.results19, go_sem, g0, g1]) rfl ⟨_, rfl, ?_, ?_⟩
        · exact ((Ho.out.set (by omega) 0 _).set (by omega) 1 _).mono hsz1 (by simp)
        · exact (Hb6.out.setCell (Nat.le_succ _) _).setCell (Nat.le_succ _) _
end Go.Proofs.YtggbnibdpkblgaaDoor
