/-
  Twills: the text of a twill, by walks.
-/
import Derived.Test.YtflejjfkgkmcgaaGreatDoorTwill2
import Derived.Test.YtflejjfkgkmcgaaGreatDoorBaseTxt2
import Derived.Test.YtflejjfkgkmcgaaGreatDoorStrS
import Derived.Lib.Join
import Derived.Deep.RegionHeld3
namespace Go.Proofs.YtflejjfkgkmcgaaGreatDoor
open Go.RowKit
set_option linter.unusedVariables false

def twWords (xs : List Int) : List (List UInt8) := xs.map fun x => Lib.decDigits x.toNat
def twTxt (xs : List Int) (st : Int) : ByteArray := str (Lib.join (twWords xs) [47]) ++ ⟨#[32, 115, 116, 101, 112, 32]⟩ ++ str (Lib.decDigits st.toNat)
def twillTextR (xs : List Int) (st : Int) : ByteArray := if vTwill xs st then twTxt xs st else ⟨#[]⟩
theorem join_snoc (ws : List (List UInt8)) (x sep : List UInt8) : Lib.join (ws ++ [x]) sep = if ws = [] then x else Lib.join ws sep ++ sep ++ x := by
  cases ws with
  | nil => simp [Lib.join_one]
  | cons y r =>
    rw [if_neg (by simp), List.cons_append, Lib.join_cons, Lib.join_cons]
    simp [Lib.joinTail]
theorem twWords_step {xs : List Int} {k : Nat} (hk : k < xs.length) : twWords (xs.take (k + 1)) = twWords (xs.take k) ++ [Lib.decDigits (xs.getD k 0).toNat] := by
  unfold twWords
  rw [show xs.take (k + 1) = xs.take k ++ [xs.getD k 0] by rw [List.take_add_one]; simp [hk]]
  simp
theorem twWords_empty {xs : List Int} {k : Nat} (hk : k ≤ xs.length) : twWords (xs.take k) = [] ↔ k = 0 := by
  unfold twWords
  constructor
  · intro h
    have := congrArg List.length h
    simp only [List.length_map, List.length_take, List.length_nil] at this
    omega
  · rintro rfl; simp
theorem joinTail_len : ∀ (r : List (List UInt8)), (∀ y ∈ r, y.length ≤ 2) → (Lib.joinTail [47] r).length ≤ 3 * r.length
  | [], _ => by simp [Lib.joinTail]
  | y :: r, h => by
    have ih := joinTail_len r fun z hz => h z (by simp [hz])
    have hy := h y (by simp)
    have e : Lib.joinTail [47] (y :: r) = [47] ++ y ++ Lib.joinTail [47] r := by simp [Lib.joinTail]
    rw [e]
    simp
    omega
theorem join_len {l : List (List UInt8)} (h : ∀ y ∈ l, y.length ≤ 2) : (Lib.join l [47]).length ≤ 3 * l.length := by
  cases l with
  | nil => rw [Lib.join_nil]; simp
  | cons x r =>
    have h1 := joinTail_len r fun z hz => h z (by simp [hz])
    have h2 := h x (by simp)
    rw [Lib.join_cons]
    simp
    omega
theorem map_str_list : ∀ (L : List (List UInt8)), (L.map str).map (fun s => s.data.toList) = L
  | [] => rfl
  | x :: L => by rw [List.map_cons, List.map_cons, map_str_list L, str_list]
theorem dec_two {n : Nat} (h : n ≤ 12) : (Lib.decDigits n).length ≤ 2 := by
  rw [Lib.decDigits_length]; exact nd_le 1 n (by omega)

theorem decimalS_any (n : Nat) (w : World) (h : n < 100) : Calls Tryz.prog 52 #[.int .i64 n] w fun e w' => e = .returned (.string (str (Lib.decDigits n))) ∧ w = w' := by
  go_enter Tryz.func52, Tryz.ntmps52
  go_wp2_with (go_at_call 63; refine (Tryz.strconv_FormatInt_10_small _ h _).mono ?_; rintro e w' ⟨rfl, rfl⟩)
  go_ret
  exact ⟨rfl, rfl⟩

set_option maxHeartbeats 2000000 in
theorem specTwillText_any (a : Option Addr) (n c : Nat) (xs : List Int) (st : Int) (w : World) (ha : RV w a n c (ints xs)) :
    Calls Tryz.prog 22 #[.agg #[.slice a n c, .int .i64 st]] w fun e w' => e = .returned (.string (twillTextR xs st)) ∧ Below w.heap.size w w' := by
  have hA0 := TwAt.boxed st 26 ha
  have hB0 : Below w.heap.size w (w.alloc (.cells #[.slice a n c, .int .i64 st] 26)) := (Below.refl _ _).alloc (Nat.le_refl _) _
  have HA := Lib.hid hA0
  have HB := Lib.hid hB0
  have hlx := ha.lenI
  cases hv : vTwill xs st
  · rw [show twillTextR xs st = ⟨#[]⟩ by simp [twillTextR, hv]]
    have Hvt := Lib.hid (by
      have h := fun W h => l09Ok_any w.heap.size a n c xs st W h
      rw [hv] at h
      exact h)
    clear ha hA0 hB0 hv
    go_enter Tryz.func22, Tryz.ntmps22
    go_wp2_with (go_at_call 32; refine (Hvt.out _ (by exact HA.out)).mono ?_; rintro e w1 ⟨rfl, q, rfl⟩)
    go_ret
    exact ⟨rfl, bdrewN HB.out q⟩
  · obtain ⟨he, h2, _, h4, h5, h6, h7⟩ := vTwill_iff hv
    have Hw := Lib.hid (rowW_len he)
    have hst : 1 ≤ st ∧ st ≤ 12 := by have := Hw.out; omega
    have Hvt := Lib.hid (by
      have h := fun W h => l09Ok_any w.heap.size a n c xs st W h
      rw [hv] at h
      exact h)
    have Hx := Lib.hid (fun k (hk : k < n) => eachIn_at he (k := k) (by omega))
    have Hdec := Lib.hid (fun (x : Int) (h0 : 1 ≤ x) (h1 : x ≤ 12) (W : World) => by
      have h := l01Dec_any x.toNat W (by omega) (by omega)
      rw [show ((x.toNat : Nat) : Int) = x by omega] at h
      exact h)
    have Hwl := Lib.hid (show ∀ y ∈ twWords xs, y.length ≤ 2 from fun y hy => by
      simp only [twWords, List.mem_map] at hy
      obtain ⟨x, hx, rfl⟩ := hy
      have := eachIn_iff.1 he x hx
      exact dec_two (by omega))
    have Hres := Lib.hid (show twillTextR xs st = twTxt xs st by simp [twillTextR, hv])
    have hn12 : n ≤ 12 := by omega
    have hn0 : 0 < n := by omega
    have Hlx := Lib.hid hlx
    rw [Hres.out]
    obtain ⟨W0, hW0⟩ : ∃ W0 : World, W0 = w.alloc (.cells #[.slice a n c, .int .i64 st] 26) := ⟨_, rfl⟩
    have Hst := Lib.hid (Hdec.out st hst.1 hst.2)
    have hds : (str (Lib.decDigits st.toNat)).size ≤ 2 := by rw [str_size]; exact dec_two (by omega)
    obtain ⟨D, HD⟩ : ∃ D, Hid (D = str (Lib.decDigits st.toNat)) := ⟨_, rfl⟩
    rw [← HD.out] at Hst hds
    have Hlt := Lib.hid (show w.heap.size < W0.heap.size by rw [hW0]; simp)
    rw [← hW0] at HA HB
    clear ha hA0 hB0 hv he h2 h4 h5 h6 h7 hlx
    go_enter Tryz.func22, Tryz.ntmps22
    go_wp2_with fail
    rw [← hW0]
    refine (Hvt.out _ (by exact HA.out)).mono ?_
    rintro e w1 ⟨rfl, q, hq⟩
    have Hb1 := Lib.hid (show Below W0.heap.size W0 w1 by rw [hq]; exact bdrewN (Below.refl _ _) q)
    clear hq hW0
    go_wp2_with fail
    go_loopw [3, 4] (fun v i wr => ∃ k : Nat, k ≤ n ∧ i = .int .i64 k ∧ ∃ S : ByteArray, v = .string S ∧ Hid (S.data.toList = Lib.join (twWords (xs.take k)) [47]) ∧ S.size ≤ 3 * k ∧ Hid (Below W0.heap.size W0 wr)) (fun _ i _ => n - (intOf i).toNat)
    case atStart => exact ⟨0, Nat.zero_le _, rfl, ⟨#[]⟩, rfl, Lib.hid (by simp [twWords, Lib.join_nil]), by simp [ByteArray.size], Hb1⟩
    case round =>
      obtain ⟨k, hk, rfl, S, rfl, HS, hSz, Hb⟩ := hrel
      generalize wr = wx at *
      have k0 : wx.cell? ⟨w.heap.size, 0, none⟩ = some (.slice a n c) := (Hb.out.cell (p := ⟨w.heap.size, 0, none⟩) Hlt.out).trans HA.out.1
      by_cases hlt : k < n
      · have hrv : RV wx a n c (ints xs) := HA.out.2.2.below Hb.out
        obtain ⟨b, o, rfl, hbl, hc⟩ := hrv.cell (by omega)
        have e1 := hc k hlt
        have bx := Hx.out k hlt
        have Hws := Lib.hid (twWords_step (xs := xs) (k := k) (by rw [Hlx.out]; exact hlt))
        have Hem := Lib.hid (twWords_empty (xs := xs) (k := k) (by rw [Hlx.out]; omega))
        have Hd2 := Lib.hid (Hdec.out (xs.getD k 0) bx.1 bx.2)
        have hT : (str (Lib.decDigits (xs.getD k 0).toNat)).size ≤ 2 := by rw [str_size]; exact dec_two (by omega)
        obtain ⟨T, HT⟩ : ∃ T, Hid (T = str (Lib.decDigits (xs.getD k 0).toNat)) := ⟨_, rfl⟩
        rw [← HT.out] at hT Hd2
        generalize hxg : xs.getD k 0 = x at *
        clear hc hrv hxg
        by_cases hk0 : k = 0
        · subst hk0
          rw [Nat.add_zero] at e1
          have n1 : ¬ (9223372036854775807 < S.size + T.size) := by omega
          go_wp2_with fail
          with_reducible refine (Hd2.out _).mono ?_
          rintro e w2 ⟨rfl, hb2⟩
          have Hb2 := Lib.hid (bstep Hb.out hb2 (Nat.le_refl _))
          clear hb2
          go_wp2_with fail
          go_roundw
          case measure => simp [intOf]; omega
          case rel => exact ⟨1, by omega, by go_num, S ++ T, rfl, Lib.hid (by rw [data_app, HS.out, Hws.out, join_snoc, if_pos (show twWords (xs.take 0) = [] by simp [twWords]), show Lib.join (twWords (xs.take 0)) [47] = [] by simp [twWords, Lib.join_nil], HT.out, str_list]; rfl), by rw [ByteArray.size_append]; omega, Hb2⟩
        · have d0 : decide (0 < (k : Int)) = true := by simp; omega
          have d0' : decide (0 < k) = true := by simp; omega
          have n0 : ¬ (9223372036854775807 < S.size + 1) := by omega
          have n1 : ¬ (9223372036854775807 < S.size + 1 + T.size) := by omega
          go_wp2_with fail
          with_reducible refine (Hd2.out _).mono ?_
          rintro e w2 ⟨rfl, hb2⟩
          have Hb2 := Lib.hid (bstep Hb.out hb2 (Nat.le_refl _))
          clear hb2
          go_wp2_with fail
          go_roundw
          case measure => simp [intOf]; omega
          case rel => exact ⟨k + 1, by omega, by go_num, S ++ ⟨#[47]⟩ ++ T, rfl, Lib.hid (by rw [data_app, data_app, HS.out, Hws.out, join_snoc, if_neg (fun h => hk0 (Hem.out.1 h)), HT.out, str_list]), by rw [ByteArray.size_append, ByteArray.size_append]; have : (⟨#[47]⟩ : ByteArray).size = 1 := rfl; omega, Hb2⟩
      · have k1 : wx.cell? ⟨w.heap.size, 1, none⟩ = some (.int .i64 st) := (Hb.out.cell (p := ⟨w.heap.size, 1, none⟩) Hlt.out).trans HA.out.2.1
        have HSf := Lib.hid (show S = str (Lib.join (twWords xs) [47]) from of_data (by rw [HS.out, List.take_of_length_le (by rw [Hlx.out]; omega)]))
        have n1 : ¬ (9223372036854775807 < S.size + 6) := by omega
        have n2 : ¬ (9223372036854775807 < S.size + 6 + D.size) := by omega
        go_wp2_with fail
        with_reducible refine (Hst.out _).mono ?_
        rintro e w2 ⟨rfl, hb2⟩
        have Hb2 := Lib.hid (bstep HB.out (bstep Hb.out hb2 (Nat.le_refl _)) (Nat.le_refl _))
        clear hb2
        go_wp2_with fail
        go_ret
        exact ⟨by rw [twTxt, ← HSf.out, ← HD.out]; rfl, Hb2.out⟩

theorem tt_bel {w0 w1 : World} {g : Nat} {b : Value} (h : w1.cell? ⟨g, 1, none⟩ = some b ∧ Below w0.heap.size w0 w1) : Below w0.heap.size w0 w1 := h.2
theorem tt_keep {w0 w1 w2 : World} {g : Nat} {b : Value} (h : w1.cell? ⟨g, 1, none⟩ = some b ∧ Below w0.heap.size w0 w1) (hb : Below w1.heap.size w1 w2) (hg : g < w0.heap.size) : w2.cell? ⟨g, 1, none⟩ = some b ∧ Below w0.heap.size w0 w2 :=
  ⟨(hb.cell (p := ⟨g, 1, none⟩) (Nat.lt_of_lt_of_le hg h.2.size)).trans h.1, bstep h.2 hb (Nat.le_refl _)⟩
theorem tt_drew {w0 w1 : World} {g : Nat} {b : Value} (h : w1.cell? ⟨g, 1, none⟩ = some b ∧ Below w0.heap.size w0 w1) : w1.drew.cell? ⟨g, 1, none⟩ = some b ∧ Below w0.heap.size w0 w1.drew := ⟨h.1, bdrewN h.2 1⟩
theorem tt_same {w w2 : World} (h : w = w2) : Below w.heap.size w w2 := h ▸ Below.refl _ _
theorem tt_cells {w0 W : World} {b o n c : Nat} {L : List (List UInt8)} (h : RV w0 (some ⟨b, o, none⟩) n c (strs L)) (hb : Below w0.heap.size w0 W) (hlt : b < w0.heap.size) (hn : n ≠ 0) : ∀ (j : Nat) x, (L.map str)[j]? = some x → W.cell? ⟨b, o + j, none⟩ = some (.string x) := by
  intro j x hx
  obtain ⟨b', o', ha, _, hc⟩ := h.cellv hn
  simp only [Option.some.injEq, Addr.mk.injEq, and_true] at ha
  obtain ⟨rfl, rfl⟩ := ha
  refine (hb.cell (p := ⟨b, o + j, none⟩) hlt).trans (hc j _ ?_)
  rw [List.getElem?_map] at hx ⊢
  cases h2 : L[j]? with
  | none => rw [h2] at hx; cases hx
  | some y => rw [h2] at hx; simp at hx; subst hx; rfl

theorem join_any (b o c : Nat) (L : List (List UInt8)) (wx : World) (J : ByteArray) (k : Nat) (hrow : RV wx (some ⟨b, o, none⟩) k c (strs L)) (hbl : b < wx.heap.size) (hk : k ≠ 0) (hlw : L.length = k) (hcap : k ≤ c) (hjl : (Lib.join L [47]).length ≤ 3 * k)
    (hJ : (⟨(Lib.join L [47]).toArray⟩ : ByteArray) = J) (hk2 : k ≤ 1000) : ∀ W, Below wx.heap.size wx W → Calls Tryz.prog 53 #[.slice (some ⟨b, o, none⟩) k c, .string ⟨#[47]⟩] W fun e w' => e = .returned (.string J) ∧ Below W.heap.size W w' := by
  intro W hb
  have h1 := tt_cells hrow hb hbl hk
  have h2 : b < W.heap.size := Nat.lt_of_lt_of_le hbl hb.size
  have h3 : (L.map str).length ≤ 140737488355328 := by rw [List.length_map, hlw]; omega
  have h4 : (L.map str).length ≤ c := by rw [List.length_map, hlw]; exact hcap
  have e47 : (⟨#[47]⟩ : ByteArray).data.toList = [47] := rfl
  have h5 : (Lib.join ((L.map str).map (fun s => s.data.toList)) (⟨#[47]⟩ : ByteArray).data.toList).length ≤ 140737488355328 := by rw [map_str_list, e47]; omega
  have h := Tryz.strings_Join b o c (L.map str) ⟨#[47]⟩ W h1 h2 h3 h4 h5
  rw [map_str_list, e47, hJ] at h
  rw [List.length_map, hlw] at h
  exact h
set_option maxRecDepth 100000 in
set_option maxHeartbeats 4000000 in
theorem twillText_any (a : Option Addr) (n c : Nat) (xs : List Int) (st : Int) (w : World) (ha : RV w a n c (ints xs)) :
    Calls Tryz.prog 21 #[.agg #[.slice a n c, .int .i64 st]] w fun e w' => e = .returned (.string (twillTextR xs st)) ∧ Below w.heap.size w w' := by
  have hA0 := TwAt.boxed st 26 ha
  have hB0 : Below w.heap.size w (w.alloc (.cells #[.slice a n c, .int .i64 st] 26)) := (Below.refl _ _).alloc (Nat.le_refl _) _
  have HA := Lib.hid hA0
  have HB := Lib.hid hB0
  have hlx := ha.lenI
  cases hv : vTwill xs st
  · rw [show twillTextR xs st = ⟨#[]⟩ by simp [twillTextR, hv]]
    have Hvt := Lib.hid (by
      have h := fun W h => validTwill_any a n c xs st W h
      rw [hv] at h
      exact h)
    clear ha hA0 hB0 hv
    go_enter Tryz.func21, Tryz.ntmps21
    go_wp2_with (go_at_call 19; refine (Hvt.out _ (by exact HA.out.2.2)).mono ?_; rintro e w1 ⟨rfl, hb⟩)
    go_ret
    exact ⟨rfl, bstep HB.out hb (by simp)⟩
  · obtain ⟨he, h2, _, h4, h5, h6, h7⟩ := vTwill_iff hv
    have Hw := Lib.hid (rowW_len he)
    have hst : 1 ≤ st ∧ st ≤ 12 := by have := Hw.out; omega
    have Hvt := Lib.hid (by
      have h := fun W h => validTwill_any a n c xs st W h
      rw [hv] at h
      exact h)
    have Hx := Lib.hid (fun k (hk : k < n) => eachIn_at he (k := k) (by omega))
    have Hdec := Lib.hid (fun (x : Int) (h0 : 1 ≤ x) (h1 : x ≤ 12) (W : World) => by
      have h := decimalS_any x.toNat W (by omega)
      rw [show ((x.toNat : Nat) : Int) = x by omega] at h
      exact h)
    have Hwl := Lib.hid (show ∀ y ∈ twWords xs, y.length ≤ 2 from fun y hy => by
      simp only [twWords, List.mem_map] at hy
      obtain ⟨x, hx, rfl⟩ := hy
      have := eachIn_iff.1 he x hx
      exact dec_two (by omega))
    have Hres := Lib.hid (show twillTextR xs st = twTxt xs st by simp [twillTextR, hv])
    have hn12 : n ≤ 12 := by omega
    have hn0 : 0 < n := by omega
    have Hlx := Lib.hid hlx
    rw [Hres.out]
    obtain ⟨W0, hW0⟩ : ∃ W0 : World, W0 = w.alloc (.cells #[.slice a n c, .int .i64 st] 26) := ⟨_, rfl⟩
    have Hst := Lib.hid (Hdec.out st hst.1 hst.2)
    have hds : (str (Lib.decDigits st.toNat)).size ≤ 2 := by rw [str_size]; exact dec_two (by omega)
    obtain ⟨D, HD⟩ : ∃ D, Hid (D = str (Lib.decDigits st.toNat)) := ⟨_, rfl⟩
    rw [← HD.out] at Hst hds
    have Hlt := Lib.hid (show w.heap.size < W0.heap.size by rw [hW0]; simp)
    rw [← hW0] at HA HB
    clear ha hA0 hB0 hv he h2 h4 h5 h6 h7 hlx
    go_enter Tryz.func21, Tryz.ntmps21
    go_wp2_with fail
    rw [← hW0]
    refine (Hvt.out _ (by exact HA.out.2.2)).mono ?_
    rintro e w1 ⟨rfl, hb1⟩
    have Hb1 := Lib.hid hb1
    have Hz1 := Lib.hid hb1.size
    have k0 : w1.cell? ⟨w.heap.size, 0, none⟩ = some (.slice a n c) := (hb1.cell (p := ⟨w.heap.size, 0, none⟩) Hlt.out).trans HA.out.1
    have hg1 : w.heap.size < w1.heap.size := Nat.lt_of_lt_of_le Hlt.out Hz1.out
    clear hb1 hW0
    go_wp2_with fail
    go_loopw [3, 13] (fun v i wr => ∃ k : Nat, k ≤ n ∧ i = .int .i64 k ∧ wr.ownsRow w1.heap.size 9 1 v k (strs (twWords (xs.take k))) ∧ Below w1.heap.size w1 wr) (fun _ i _ => n - (intOf i).toNat)
    case atStart => exact ⟨0, Nat.zero_le _, rfl, by simpa [twWords] using owns_empty (w := w1) (base := w1.heap.size) (e := 9) (size := 1) rfl (Nat.le_refl _), (Below.refl _ _).alloc (Nat.le_refl _) _⟩
    case round =>
      obtain ⟨k, hk, rfl, hown, hbel⟩ := hrel
      obtain ⟨av, cv, rfl⟩ := owns_slice hown
      have hrow := (owns_read hown).1
      generalize wr = wx at *
      have hsz := hbel.size
      by_cases hlt : k < n
      · have hrv : RV wx a n c (ints xs) := (HA.out.2.2.below Hb1.out).below hbel
        obtain ⟨b, o, rfl, hbl, hc⟩ := hrv.cell (by omega)
        have e1 := hc k hlt
        have bx := Hx.out k hlt
        have Hws := Lib.hid (twWords_step (xs := xs) (k := k) (by rw [Hlx.out]; exact hlt))
        have Hd2 := Lib.hid (Hdec.out (xs.getD k 0) bx.1 bx.2)
        obtain ⟨T, HT⟩ : ∃ T, Hid (T = str (Lib.decDigits (xs.getD k 0).toNat)) := ⟨_, rfl⟩
        rw [← HT.out] at Hd2
        generalize hxg : xs.getD k 0 = x at *
        have Hown := Lib.hid hown
        have Hbel := Lib.hid hbel
        clear hc hrv hxg hrow hown hbel
        go_wp2_with fail
        with_reducible refine (Hd2.out _).mono ?_
        rintro e w2 ⟨rfl, rfl⟩
        have hown := Hown.out
        have hbel := Hbel.out
        go_wp2_with (at_builtin; refine wpList_app1 rfl _ _ 29 rfl w1.heap.size 9 _ 16 Tryz.underlying29 info_str (by decide) rfl _ k _ rfl (hown.alloc _) wx.heap.size (.string T) rfl ?c1 rfl ?c2 ?c3 ?_)
        case c1 => exact cell_boxed rfl
        case c2 => omega
        case c3 => simp; omega
        intro v' w' hown' hgrow
        have hb' := below_app (hbel.alloc (by omega) _) (hown.alloc _) hgrow (Nat.le_refl _) (by simp; omega)
        have Hown' := Lib.hid hown'
        clear hown hgrow hbel hown'
        go_wp2
        go_roundw
        case measure => simp [intOf]; omega
        case rel => exact ⟨k + 1, by omega, by go_num, by rw [Hws.out]; have h := Hown'.out; rw [HT.out] at h; simpa using h, hb'⟩
      · have hkn : k = n := by omega
        subst hkn
        have k1 : wx.cell? ⟨w.heap.size, 1, none⟩ = some (.int .i64 st) := (hbel.cell (p := ⟨w.heap.size, 1, none⟩) hg1).trans ((Hb1.out.cell (p := ⟨w.heap.size, 1, none⟩) Hlt.out).trans HA.out.2.1)
        obtain ⟨b, o, rfl, hbl, hc⟩ := hrow.cellv (by omega)
        have HBx := Lib.hid (bstep HB.out (bstep Hb1.out hbel (Nat.le_refl _)) (Nat.le_refl _))
        have Hgx := Lib.hid (show w.heap.size < wx.heap.size by omega)
        have hlw : (twWords (xs.take k)).length = k := by simp [twWords]; rw [Hlx.out]; omega
        rw [List.take_of_length_le (by rw [Hlx.out]; omega)] at hrow hlw
        obtain ⟨J, HJ⟩ : ∃ J, Hid (J = str (Lib.join (twWords xs) [47])) := ⟨_, rfl⟩
        have hjl := join_len Hwl.out
        rw [hlw] at hjl
        have hJ : J.size ≤ 36 := by rw [HJ.out, str_size]; omega
        have hcap := hrow.2.1
        have hJ2 : (⟨(Lib.join (twWords xs) [47]).toArray⟩ : ByteArray) = J := HJ.out.symm
        have hjoin := join_any b o cv (twWords xs) wx J k hrow hbl (by omega) hlw hcap hjl hJ2 (by omega)
        have Hjoin := Lib.hid hjoin
        clear hJ2 hjoin
        have n1 : ¬ (9223372036854775807 < J.size + 6) := by omega
        have n2 : ¬ (9223372036854775807 < J.size + 6 + D.size) := by omega
        have Hf := Lib.hid (show twTxt xs st = J ++ ⟨#[32, 115, 116, 101, 112, 32]⟩ ++ D by rw [twTxt, HJ.out, HD.out])
        clear hrow hc hown hbel hbl hlw hjl hcap
        go_wp2_with fail
        go_region_held3 (fun w' => w'.cell? ⟨w.heap.size, 1, none⟩ = some (.int .i64 st) ∧ Below wx.heap.size wx w') (first | assumption | exact ⟨k1, Below.refl _ _⟩ | exact tt_drew ⟨k1, Below.refl _ _⟩ | exact tt_drew (by assumption) | exact tt_keep (by assumption) hb2 Hgx.out) (first | (go_at_call 53; (with_reducible refine (Hjoin.out _ (tt_bel (by assumption))).mono ?_); rintro e w2 ⟨rfl, hb2⟩) | (go_at_call 52; (with_reducible refine (Hst.out _).mono ?_); rintro e w2 ⟨rfl, hq⟩; have hb2 := tt_same hq; clear hq))
        all_goals
          rename_i hH
          have HE := Lib.hid (bstep HBx.out hH.2 (Nat.le_refl _))
          clear hH
          go_wp2_with fail
          go_ret
          exact ⟨by rw [Hf.out]; rfl, HE.out⟩
end Go.Proofs.YtflejjfkgkmcgaaGreatDoor
