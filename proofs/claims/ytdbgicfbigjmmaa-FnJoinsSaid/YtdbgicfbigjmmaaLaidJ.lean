/-
  Drawn orders and rods picked in an order: walks.
-/
import Derived.Test.YtdbgicfbigjmmaaLaidW
import Derived.Test.YtdbgicfbigjmmaaSrc
namespace Go.Proofs.Ytdbgicfbigjmmaa
open Go.RowKit
set_option linter.unusedVariables false

set_option maxHeartbeats 1000000 in
theorem a2Pick_any (a b : Option Addr) (n m c d : Nat) (xs : List Int) (l : List Nat) (w : World) (hl : m ≤ 1000) (hlt : ∀ x ∈ l, x < n) (ha : RV w a n c (ints xs)) (hb : RV w b m d (ints (nats l))) :
    Calls Try.prog 19 #[.slice a n c, .slice b m d] w fun e w' => ∃ v : Value, e = .returned v ∧ Own w' w.heap.size w'.heap.size 2 v (ints (laidIn xs l)) ∧ Below w.heap.size w w' := by
  have hm := ha.small
  have hml : l.length = m := by have := hb.lenI; simpa [nats] using this
  have Hml := Lib.hid hml
  have Hlt := Lib.hid hlt
  have Ha := Lib.hid ha
  have Hb := Lib.hid hb
  clear ha hb hml hlt
  go_enter Try.func19, Try.ntmps19
  go_wp2
  go_loopw [5, 6] (fun v i wr => ∃ k : Nat, k ≤ m ∧ i = .int .i64 k ∧ Hid (wr.ownsRow w.heap.size 2 1 v k (ints (laidIn xs (l.take k)))) ∧ Hid (Below w.heap.size w wr)) (fun _ i _ => m - (intOf i).toNat)
  case atStart => exact ⟨0, Nat.zero_le _, rfl, Lib.hid (owns_empty rfl (Nat.le_refl _)), Lib.hid ((Below.refl _ _).alloc (Nat.le_refl _) _)⟩
  case round =>
    obtain ⟨k, hk, rfl, Hown, Hbel⟩ := hrel
    obtain ⟨a', c', hv⟩ := owns_slice Hown.out
    subst hv
    have hsz := Hbel.out.size
    by_cases hlt : k < m
    · have hkl : k < l.length := by rw [Hml.out]; exact hlt
      obtain ⟨b1, o1, rfl, hb1, hc1⟩ := Hb.out.cell (by omega)
      have e1 : wr.cell? ⟨b1, o1 + k, none⟩ = some (.int .i64 ((nats l).getD k 0)) := (Hbel.out.cell (p := ⟨b1, o1 + k, none⟩) hb1).trans (hc1 k hlt)
      have hy : l.getD k 0 < n := Hlt.out _ (by simp [hkl])
      have hyI : (nats l).getD k 0 = ((l.getD k 0 : Nat) : Int) := by simp [nats, hkl]
      rw [hyI] at e1
      have Hst := Lib.hid (show ints (laidIn xs (l.take (k + 1))) = ints (laidIn xs (l.take k)) ++ [.int .i64 (xs.getD (l.getD k 0) 0)] by rw [take_snoc' (d := 0) hkl]; simp [laidIn])
      clear hc1 hyI hkl
      generalize l.getD k 0 = y at *
      obtain ⟨b2, o2, rfl, hb2, hc2⟩ := Ha.out.cell (show n ≠ 0 by omega)
      have e2 : wr.cell? ⟨b2, o2 + y, none⟩ = some (.int .i64 (xs.getD y 0)) := (Hbel.out.cell (p := ⟨b2, o2 + y, none⟩) hb2).trans (hc2 y hy)
      clear hc2
      generalize xs.getD y 0 = z at *
      have hkm : (k : Int) < m := by omega
      have hyn : (y : Int) < n := by omega
      have hown := Hown.out
      have hbel := Hbel.out
      clear Hown
      go_wp2_with (at_builtin; refine wpList_app1 rfl _ _ 22 rfl w.heap.size 2 _ 8 Try.underlying22 info_i64 (by decide) rfl _ k _ rfl (hown.alloc _) wr.heap.size (.int .i64 z) rfl ?c1 rfl ?c2 ?c3 ?_)
      case c1 => exact cell_boxed rfl
      case c2 => omega
      case c3 => simp; omega
      intro v1 w2 hown1 hgrow
      have hb1' := below_app (hbel.alloc (by omega) _) (hown.alloc _) hgrow (Nat.le_refl _) (by simp; omega)
      rw [← Hst.out] at hown1
      have Ho := Lib.hid hown1
      have HB := Lib.hid hb1'
      clear hown hgrow hown1 hb1' hbel
      go_wp2
      go_roundw
      case rel => exact ⟨k + 1, by omega, by go_num, Ho, HB⟩
      case measure => simp [intOf]; omega
    · have hkm : k = m := by omega
      have Hf := Lib.hid (show ints (laidIn xs (l.take k)) = ints (laidIn xs l) by rw [List.take_of_length_le (by rw [Hml.out]; omega)])
      clear hkm
      go_wp2
      go_ret
      have h := Hown.out
      rw [Hf.out] at h
      exact ⟨_, rfl, own_of_row h rfl (Nat.le_refl _), Hbel.out⟩

theorem row_form6 {w : World} {base m : Nat} {e : TypeId} {v : Value} {vs : List Value} (h : w.ownsRow base e 1 v m vs) (hm : m ≠ 0) : ∃ g cap, v = .slice (some ⟨g, 0, none⟩) m cap ∧ m ≤ cap := by
  rcases h.2 with ⟨_, h2⟩ | ⟨g, cap, cur, hv, _, _, h3, _⟩
  · exact (hm h2).elim
  · exact ⟨g, cap, hv, h3⟩
/-- the first of a list, -1 if it has none -/
def fstA (L : List Nat) : Int := match L with | [] => -1 | q :: _ => (q : Int)
/-- an order of the first j -/
structure Ord (j : Nat) (l : List Nat) : Prop where
  len : l.length = j
  nd : l.Nodup
  lt : ∀ x ∈ l, x < j
theorem Ord.ins {j k : Nat} {l : List Nat} (h : Ord j l) (hk : k ≤ j) : Ord (j + 1) (l.take k ++ [j] ++ l.drop k) := by
  have hp : (l.take k ++ [j] ++ l.drop k).Perm (j :: l) := by
    have h1 : (l.take k ++ [j] ++ l.drop k).Perm ([j] ++ l.take k ++ l.drop k) := (List.perm_append_comm).append_right _
    have e : [j] ++ l.take k ++ l.drop k = j :: l := by rw [List.append_assoc, List.take_append_drop]; rfl
    rw [e] at h1
    exact h1
  refine ⟨by rw [hp.length_eq, List.length_cons, h.len], hp.nodup_iff.2 (List.nodup_cons.2 ⟨fun hm => by have := h.lt j hm; omega, h.nd⟩), fun x hx => ?_⟩
  have := hp.mem_iff.1 hx
  rcases List.mem_cons.1 this with rfl | hm
  · omega
  · have := h.lt x hm; omega
theorem rv_take {w : World} {a : Option Addr} {n c k : Nat} {vs : List Value} (h : RV w a n c vs) (hk : k ≤ n) : RV w a k c (vs.take k) := by
  obtain ⟨h1, h2, h3, h4⟩ := h
  refine ⟨by simp; omega, by omega, h3, ?_⟩
  rcases h4 with h4 | ⟨b, o, ha, hlt, hc⟩
  · exact .inl (by omega)
  · refine .inr ⟨b, o, ha, hlt, fun i u hu => hc i u ?_⟩
    rw [List.getElem?_take] at hu
    split at hu
    · exact hu
    · cases hu
theorem rv_drop {w : World} {b o n c k : Nat} {vs : List Value} (h : RV w (some ⟨b, o, none⟩) n c vs) (hk : k ≤ n) : RV w (some ⟨b, o + k, none⟩) (n - k) (c - k) (vs.drop k) := by
  obtain ⟨h1, h2, h3, h4⟩ := h
  refine ⟨by simp; omega, by omega, by omega, ?_⟩
  rcases h4 with h4 | ⟨b', o', ha, hlt, hc⟩
  · exact .inl (by omega)
  · cases ha
    refine .inr ⟨b, o + k, rfl, hlt, fun i u hu => ?_⟩
    have := hc (k + i) u (by rw [List.getElem?_drop] at hu; exact hu)
    rwa [← Nat.add_assoc] at this

set_option maxHeartbeats 4000000 in
theorem A2Order_any (p : Option Addr) (m c : Nat) (xs : List Int) (n : Nat) (w : World) (hn : n ≤ 7) (hr : RV w p m c (xs.map (.int .u8))) (hb : ∀ x ∈ xs, 0 ≤ x ∧ x ≤ 255) :
    Calls Try.prog 17 #[.slice p m c, .int .i64 n] w fun e w' => ∃ (v : Value) (l : List Nat), e = .returned v ∧ Ord n l ∧ Own w' w.heap.size w'.heap.size 2 v (ints (nats l)) ∧ Below w.heap.size w w' := by
  go_enter Try.func17, Try.ntmps17
  go_wp2_with fail
  refine (l00From_any _ _ _ _ _ hr hb).mono ?_
  rintro e w1 ⟨rfl, hs, hB⟩
  have hsz1 : w.heap.size < w1.heap.size := hs.lt
  obtain ⟨g, Hg⟩ : ∃ g, Hid (g = w.heap.size) := ⟨_, rfl⟩
  rw [← Hg.out] at hs hB hsz1 ⊢
  clear hr hb
  replace hs := hs.alloc (.cells #[] 2)
  replace hB := hB.alloc (by omega) (.cells #[] 2)
  have hown : (w1.alloc (.cells #[] 2)).ownsRow (g + 1) 2 1 (.slice (some ⟨w1.heap.size, 0, none⟩) 0 0) 0 (ints (nats [])) := owns_empty rfl (by omega)
  have Hs := Lib.hid hs
  have HB := Lib.hid hB
  have Hown := Lib.hid hown
  clear hs hB hown
  go_wp2
  go_loopw [6, 7] (fun v i wr => ∃ j : Nat, j ≤ n ∧ i = .int .i64 j ∧ ∃ l : List Nat, Hid (Ord j l) ∧ Hid (Src wr g (2 * j)) ∧ Hid (wr.ownsRow (g + 1) 2 1 v j (ints (nats l))) ∧ Hid (Below g w wr) ∧ g < wr.heap.size ∧ ∃ b c', v = .slice (some ⟨b, 0, none⟩) j c') (fun _ i _ => n - (intOf i).toNat)
  case atStart => exact ⟨0, Nat.zero_le _, rfl, [], Lib.hid ⟨rfl, by simp, by simp⟩, Lib.hid (Hs.out.mono (by omega)), Hown, HB, by simp; omega, _, _, rfl⟩
  case round =>
    obtain ⟨j, hj, rfl, l, HO, Hs, Hown, HB, hgz, b, c', rfl⟩ := hrel
    by_cases hlt : j < n
    · have hjn : (j : Int) < n := by omega
      go_wp2_with fail
      refine (pick_any _ _ _ _ Hs.out (by omega) (by omega)).mono ?_
      rintro e w3 ⟨x, rfl, hx0, hx1, _, hs3, hg3⟩
      have hx2 := hx1 (by omega)
      obtain ⟨k, rfl⟩ := Int.eq_ofNat_of_zero_le hx0
      have hkj : k ≤ j := by omega
      have hz3 := hg3.size
      have hbw : g + 1 ≤ b ∧ b < wr.heap.size := Hown.out.lt b rfl
      have hown3 : w3.ownsRow (g + 1) 2 1 (.slice (some ⟨b, 0, none⟩) j c') j (ints (nats l)) := Hown.out.kept hg3 (.inr (by intro e; have := Option.some.inj e; (try simp at this); omega))
      have hbel3 : Below g w w3 := HB.out.grown hg3 (by omega) (by intro q hq; cases hq; exact Nat.le_refl _)
      have hrv := (owns_read hown3).1
      have hjc : j ≤ c' := hrv.2.1
      have hcm : c' ≤ 9223372036854775807 := by have := hrv.2.2.1; unfold maxLen at this; omega
      have hrt : RV w3 (some ⟨b, 0, none⟩) k c' (ints (nats (l.take k))) := by
        have := rv_take hrv hkj
        simpa [nats, List.map_take] using this
      have Hcp := Lib.hid (l00Own_any _ _ _ _ w3 (by omega) (by simp) hrt)
      have Hs3 := Lib.hid hs3
      have Hown3 := Lib.hid hown3
      have Hbel3 := Lib.hid hbel3
      clear hs3 hown3 hbel3 hrv hrt hg3 hx1 hx0 Hs Hown HB
      have hkc : (k : Int) ≤ c' := by omega
      have hkj' : (k : Int) ≤ j := by omega
      have HLk := Lib.hid (show (ints (nats (l.take k))).length = k by have := HO.out.len; simp [nats]; omega)
      by_cases hck : c' = k
      · have hjk : j = k := by omega
        subst hck
        subst hjk
        go_wp2_with (first | (go_at_call 29; (with_reducible refine Hcp.out.mono ?_); rintro e w4 ⟨v4, rfl, ho4, hb4⟩; have Ho4 := Lib.hid ho4; have Hb4 := Lib.hid hb4; have z4 := hb4.size; clear ho4 hb4) | (at_builtin; refine wpList_app1 rfl _ _ 22 rfl w3.heap.size 2 _ 8 Try.underlying22 info_i64 (by decide) rfl v4 j (ints (nats (l.take j))) rfl (Own.at (Ho4.out.alloc _) HLk.out) w4.heap.size (.int .i64 j) rfl (cell_boxed rfl) rfl (by omega) (by simp; omega) ?_; intro v5 w5 ho5 hg5; obtain ⟨a5, c5, rfl⟩ := owns_slice ho5; have Hout5 := Lib.hid (((owns_below Hown3.out Hb4.out).alloc _).kept hg5 (.inr (fun e => by have := (Ho4.out.1.lt b e.symm).1; omega))); have Hb5 := Lib.hid (show Below w3.heap.size w3 w5 from Below.grown (Hb4.out.alloc z4 _) hg5 (by simp; omega) (fun q e => (Ho4.out.1.lt q e).1)); have z5 := Hb5.out.size; have Ho5 := Lib.hid ho5; clear ho5 hg5) | (at_builtin; refine wpList_appN rfl _ _ 22 rfl w3.heap.size 2 _ 8 Try.underlying22 info_i64 (by decide) rfl (.slice a5 (j + 1) c5) (j + 1) _ rfl Ho5.out (some ⟨b, 0, none⟩) 0 0 [] rfl (⟨rfl, Nat.le_refl _, Nat.zero_le _, .inl rfl⟩) (by simp) (by intro u hu; first | (obtain ⟨y, _, rfl⟩ := List.mem_map.1 hu; rfl) | (simp at hu)) (by omega) z5 ?_; intro v6 w6 ho6 hg6 _; have Hb6 := Lib.hid (show Below w3.heap.size w3 w6 from Below.grown Hb5.out hg6 z5 (fun q e => (Ho5.out.lt q e).1)); have Ho6 := Lib.hid ho6; clear ho6 hg6))
        all_goals
          have hz6 := Hb6.out.size
          have hord := HO.out.ins (k := j) (by omega)
          have hv6 := Ho6.out
          have e6 : (ints (nats (l.take j)) ++ [Value.int .i64 j]) ++ [] = ints (nats (l.take j ++ [j] ++ l.drop j)) := by simp [nats, List.take_of_length_le (Nat.le_of_eq HO.out.len), List.drop_of_length_le (Nat.le_of_eq HO.out.len)]
          rw [e6] at hv6
          have hl6 : j + 1 + 0 = j + 1 := by omega
          rw [hl6] at hv6
          obtain ⟨g6, c6, hvf, _⟩ := row_form6 hv6 (by omega)
          subst hvf
          have HO6 := Lib.hid hord
          have HR6 := Lib.hid (owns_mono hv6 (show g + 1 ≤ w3.heap.size by omega))
          have HS6 := Lib.hid ((Hs3.out.keptB Hb6.out (by omega)).mono (show 2 * j + 2 ≤ 2 * (j + 1) by omega))
          have HB6 := Lib.hid (bstep Hbel3.out Hb6.out (Nat.le_of_eq Hg.out))
          clear hord hv6 e6
          go_wp2
          go_roundw
          case rel => exact ⟨j + 1, by omega, by go_num, _, HO6, HS6, HR6, HB6, by omega, _, _, rfl⟩
          case measure => simp [intOf]; omega
      · go_wp2_with (first | (go_at_call 29; (with_reducible refine Hcp.out.mono ?_); rintro e w4 ⟨v4, rfl, ho4, hb4⟩; have Ho4 := Lib.hid ho4; have Hb4 := Lib.hid hb4; have z4 := hb4.size; clear ho4 hb4) | (at_builtin; refine wpList_app1 rfl _ _ 22 rfl w3.heap.size 2 _ 8 Try.underlying22 info_i64 (by decide) rfl v4 k (ints (nats (l.take k))) rfl (Own.at (Ho4.out.alloc _) HLk.out) w4.heap.size (.int .i64 j) rfl (cell_boxed rfl) rfl (by omega) (by simp; omega) ?_; intro v5 w5 ho5 hg5; obtain ⟨a5, c5, rfl⟩ := owns_slice ho5; have Hout5 := Lib.hid (((owns_below Hown3.out Hb4.out).alloc _).kept hg5 (.inr (fun e => by have := (Ho4.out.1.lt b e.symm).1; omega))); have Hb5 := Lib.hid (show Below w3.heap.size w3 w5 from Below.grown (Hb4.out.alloc z4 _) hg5 (by simp; omega) (fun q e => (Ho4.out.1.lt q e).1)); have z5 := Hb5.out.size; have Ho5 := Lib.hid ho5; clear ho5 hg5) | (at_builtin; refine wpList_appN rfl _ _ 22 rfl w3.heap.size 2 _ 8 Try.underlying22 info_i64 (by decide) rfl (.slice a5 (k + 1) c5) (k + 1) _ rfl Ho5.out (some ⟨b, k, none⟩) (j - k) (c' - k) (ints (nats (l.drop k))) rfl (by have := rv_drop (owns_read Hout5.out).1 hkj; simpa [nats, List.map_drop] using this) (by simp) (by intro u hu; first | (obtain ⟨y, _, rfl⟩ := List.mem_map.1 hu; rfl) | (simp at hu)) (by omega) z5 ?_; intro v6 w6 ho6 hg6 _; have Hb6 := Lib.hid (show Below w3.heap.size w3 w6 from Below.grown Hb5.out hg6 z5 (fun q e => (Ho5.out.lt q e).1)); have Ho6 := Lib.hid ho6; clear ho6 hg6))
        all_goals
          have hz6 := Hb6.out.size
          have hord := HO.out.ins (k := k) (by omega)
          have hv6 := Ho6.out
          have e6 : (ints (nats (l.take k)) ++ [Value.int .i64 j]) ++ ints (nats (l.drop k)) = ints (nats (l.take k ++ [j] ++ l.drop k)) := by simp [nats]
          rw [e6] at hv6
          have hl6 : k + 1 + (j - k) = j + 1 := by omega
          rw [hl6] at hv6
          obtain ⟨g6, c6, hvf, _⟩ := row_form6 hv6 (by omega)
          subst hvf
          have HO6 := Lib.hid hord
          have HR6 := Lib.hid (owns_mono hv6 (show g + 1 ≤ w3.heap.size by omega))
          have HS6 := Lib.hid ((Hs3.out.keptB Hb6.out (by omega)).mono (show 2 * j + 2 ≤ 2 * (j + 1) by omega))
          have HB6 := Lib.hid (bstep Hbel3.out Hb6.out (Nat.le_of_eq Hg.out))
          clear hord hv6 e6
          go_wp2
          go_roundw
          case rel => exact ⟨j + 1, by omega, by go_num, _, HO6, HS6, HR6, HB6, by omega, _, _, rfl⟩
          case measure => simp [intOf]; omega
    · have hjn : j = n := by omega
      subst hjn
      go_wp2
      go_ret
      rw [← Hg.out]
      exact ⟨_, l, rfl, HO.out, own_of_row Hown.out rfl (by omega), HB.out⟩
end Go.Proofs.Ytdbgicfbigjmmaa
