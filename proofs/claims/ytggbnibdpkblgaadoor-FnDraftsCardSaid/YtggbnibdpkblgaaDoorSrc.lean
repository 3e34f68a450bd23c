/-
  The source of choices that the reference's drawing functions read: what next, pick, one, among leave.
-/
import Derived.Test.YtggbnibdpkblgaaDoorCore
namespace Go.Proofs.YtggbnibdpkblgaaDoor
open Go.RowKit
set_option linter.unusedVariables false

/-- block g is a source of choices; at most K steps have been made -/
def Src (w : World) (g K : Nat) : Prop :=
  ∃ (p : Option Addr) (n c : Nat) (xs : List Int) (at_ : Nat) (sd : Int), at_ ≤ K ∧ 0 ≤ sd ∧ sd ≤ 18446744073709551615 ∧ g < w.heap.size ∧
    RV w p n c (xs.map (.int .u8)) ∧ (∀ x ∈ xs, 0 ≤ x ∧ x ≤ 255) ∧ (∀ b o, p = some ⟨b, o, none⟩ → n ≠ 0 → b < g) ∧
    w.cell? ⟨g, 0, none⟩ = some (.slice p n c) ∧ w.cell? ⟨g, 1, none⟩ = some (.int .i64 at_) ∧ w.cell? ⟨g, 2, none⟩ = some (.int .u64 sd) ∧
    w.frozen? ⟨g, 1, none⟩ = false ∧ w.frozen? ⟨g, 2, none⟩ = false

theorem u64_bd (n : Int) : 0 ≤ IntKind.u64.wrap n ∧ IntKind.u64.wrap n ≤ 18446744073709551615 := by
  rw [IntKind.wrap_u64]; omega
theorem byte_bd {y : Int} (h0 : 0 ≤ y) (h1 : y ≤ 18446744073709551615) : 0 ≤ wrap64 (bits .and .u64 (y / 1099511627776) 255) ∧ wrap64 (bits .and .u64 (y / 1099511627776) 255) ≤ 255 := by
  have e := u64_and (y / 1099511627776) 255 (by omega) (by omega) (by decide) (by decide)
  have h2 : (y / 1099511627776).toNat &&& (255 : Int).toNat ≤ 255 := Nat.and_le_right
  rw [e, IntWalk.wrap64_in _ (by omega)]
  omega

theorem gtrans {a b c : World} {row : Option Nat} (h : a.grownBy b row) (k : b.grownBy c row) : a.grownBy c row :=
  ⟨k.os.trans h.os, k.tape.trans h.tape, k.output.trans h.output, Nat.le_trans h.size k.size, fun i hi hn => (k.block i (Nat.lt_of_lt_of_le hi h.size) hn).trans (h.block i hi hn)⟩
theorem gdrewN {a b : World} {row : Option Nat} (h : a.grownBy b row) (m : Nat) : a.grownBy (b.drewN m) row := ⟨h.os, h.tape, h.output, h.size, h.block⟩
theorem gset (w : World) (g i : Nat) (v : Value) : w.grownBy (w.setCell ⟨g, i, none⟩ v) (some g) :=
  ⟨rfl, rfl, rfl, by simp [World.setCell], fun k hk hne => Below.heap_setCell w _ v k (fun e => hne (by simpa using e))⟩
theorem gbelow {a b : World} (h : Below a.heap.size a b) (row : Option Nat) : a.grownBy b row := ⟨h.os, h.tape, h.output, h.size, fun i hi _ => h.block i hi⟩

theorem gset_past {w W : World} {row : Option Nat} (h : w.grownBy W row) {b : Nat} (hb : w.heap.size ≤ b) (i : Nat) (v : Value) : w.grownBy (W.setCell ⟨b, i, none⟩ v) row :=
  ⟨h.os, h.tape, h.output, by simpa [World.setCell] using h.size, fun k hk hn => (Below.heap_setCell W ⟨b, i, none⟩ v k (by simp; omega)).trans (h.block k hk hn)⟩

/-- one step of the source -/
theorem src_step {w : World} {g K n c at_ : Nat} {p : Option Addr} {xs : List Int} {sd sd' : Int} (hat : at_ ≤ K) (h0 : 0 ≤ sd') (h1 : sd' ≤ 18446744073709551615) (hg : g < w.heap.size)
    (hr : RV w p n c (xs.map (.int .u8))) (hb : ∀ x ∈ xs, 0 ≤ x ∧ x ≤ 255) (hne : ∀ b o, p = some ⟨b, o, none⟩ → n ≠ 0 → b < g)
    (c0 : w.cell? ⟨g, 0, none⟩ = some (.slice p n c)) (c1 : w.cell? ⟨g, 1, none⟩ = some (.int .i64 at_)) (c2 : w.cell? ⟨g, 2, none⟩ = some (.int .u64 sd))
    (f1 : w.frozen? ⟨g, 1, none⟩ = false) (f2 : w.frozen? ⟨g, 2, none⟩ = false) {q : Int} (hq : q = at_ + 1) :
    Src ((w.setCell ⟨g, 1, none⟩ (.int .i64 q)).setCell ⟨g, 2, none⟩ (.int .u64 sd')) g (K + 1) ∧ w.grownBy ((w.setCell ⟨g, 1, none⟩ (.int .i64 q)).setCell ⟨g, 2, none⟩ (.int .u64 sd')) (some g) := by
  have hgr := gtrans (gset w g 1 (.int .i64 q)) (gset (w.setCell ⟨g, 1, none⟩ (.int .i64 q)) g 2 (.int .u64 sd'))
  refine ⟨⟨p, n, c, xs, at_ + 1, sd', by omega, h0, h1, by simpa [World.setCell] using hg, ?_, hb, hne, ?_, ?_, ?_, ?_, ?_⟩, hgr⟩
  · obtain ⟨r1, r2, r3, r4⟩ := hr
    refine ⟨r1, r2, r3, ?_⟩
    rcases r4 with r4 | ⟨b, o, ha, hlt, hc⟩
    · exact .inl r4
    · by_cases hz : n = 0
      · exact .inl hz
      · refine .inr ⟨b, o, ha, by simpa [World.setCell] using hlt, fun i u hu => ?_⟩
        refine hgr.cell (a := ⟨b, o + i, none⟩) (hc i u hu) (fun e => by have := hne b o ha hz; simp at e; omega)
  · rw [World.cell?_setCell_other _ _ _ _ (by simp), World.cell?_setCell_other _ _ _ _ (by simp)]; exact c0
  · rw [World.cell?_setCell_other _ _ _ _ (by simp), World.cell?_setCell_same _ _ _ c1, hq]; simp
  · rw [World.cell?_setCell_same (u := .int .u64 sd)]
    rw [World.cell?_setCell_other _ _ _ _ (by simp)]; exact c2
  · rw [World.frozen?_setCell, World.frozen?_setCell]; exact f1
  · rw [World.frozen?_setCell, World.frozen?_setCell]; exact f2

set_option maxHeartbeats 400000 in
theorem next_any (g K : Nat) (w : World) (h : Src w g K) (hK : K ≤ 1000000000) :
    Calls Tryd.prog 57 #[.pointer (some ⟨g, 0, none⟩)] w fun e w' => ∃ x : Int, e = .returned (.int .i64 x) ∧ 0 ≤ x ∧ x ≤ 255 ∧ Src w' g (K + 1) ∧ w.grownBy w' (some g) := by
  obtain ⟨p, n, c, xs, at_, sd, hat, hs0, hs1, hg, hr, hb, hne, c0, c1, c2, f1, f2⟩ := h
  have hn := hr.small
  have Hstep := Lib.hid (fun (sd' q : Int) (h0 : 0 ≤ sd') (h1 : sd' ≤ 18446744073709551615) (hq : q = at_ + 1) => src_step hat h0 h1 hg hr hb hne c0 c1 c2 f1 f2 hq)
  by_cases hlt : at_ < n
  · obtain ⟨b, o, rfl, hbl, hc⟩ := hr.cellk (by omega)
    have hx := hc at_ hlt
    have hlen := hr.lenI
    have hxb := hb (xs.getD at_ 0) (by simp [show at_ < xs.length by omega])
    generalize xs.getD at_ 0 = x at *
    clear hc hb hne hlen
    go_enter Tryd.func57, Tryd.ntmps57
    go_wp2
    go_quiet (fail)
    go_wp2
    go_quiet (fail)
    go_wp2
    go_quiet (fail)
    go_wp2
    go_ret
    have hs := Hstep.out (IntKind.u64.wrap (IntKind.u64.wrap (IntKind.u64.wrap (sd * 6364136223846793005) + x) + 1442695040888963407)) (at_ + 1) (u64_bd _).1 (u64_bd _).2 rfl
    exact ⟨x, rfl, hxb.1, hxb.2, hs.1, gdrewN (gdrewN hs.2 _) _⟩
  · have hlt' : (n : Int) ≤ at_ := by omega
    clear hb hne
    go_enter Tryd.func57, Tryd.ntmps57
    go_wp2
    go_quiet (fail)
    go_wp2
    go_quiet (fail)
    go_wp2
    go_ret
    have hbd := u64_bd (IntKind.u64.wrap (IntKind.u64.wrap (sd * 6364136223846793005)) + 1442695040888963407)
    have hs := Hstep.out _ (at_ + 1) hbd.1 hbd.2 rfl
    have hbb := byte_bd hbd.1 hbd.2
    exact ⟨_, rfl, hbb.1, hbb.2, hs.1, gdrewN hs.2 _⟩

theorem Src.mono {w : World} {g K K' : Nat} (h : Src w g K) (hk : K ≤ K') : Src w g K' := by
  obtain ⟨p, n, c, xs, at_, sd, hat, r⟩ := h
  exact ⟨p, n, c, xs, at_, sd, Nat.le_trans hat hk, r⟩
theorem Src.lt {w : World} {g K : Nat} (h : Src w g K) : g < w.heap.size := by
  obtain ⟨p, n, c, xs, at_, sd, hat, h0, h1, hg, r⟩ := h
  exact hg
/-- what leaves all blocks up to the source's leaves the source -/
theorem Src.keptB {w w' : World} {g K B : Nat} (h : Src w g K) (hb : Below B w w') (hB : g < B) : Src w' g K := by
  obtain ⟨p, n, c, xs, at_, sd, hat, h0, h1, hg, hr, hb', hne, c0, c1, c2, f1, f2⟩ := h
  refine ⟨p, n, c, xs, at_, sd, hat, h0, h1, Nat.lt_of_lt_of_le hg hb.size, ?_, hb', hne, (hb.cell (p := ⟨g, 0, none⟩) hB).trans c0, (hb.cell (p := ⟨g, 1, none⟩) hB).trans c1, (hb.cell (p := ⟨g, 2, none⟩) hB).trans c2,
    (hb.frozen (p := ⟨g, 1, none⟩) hB).trans f1, (hb.frozen (p := ⟨g, 2, none⟩) hB).trans f2⟩
  obtain ⟨r1, r2, r3, r4⟩ := hr
  refine ⟨r1, r2, r3, ?_⟩
  rcases r4 with r4 | ⟨b, o, ha, hlt, hc⟩
  · exact .inl r4
  · by_cases hz : n = 0
    · exact .inl hz
    · have hbg := hne b o ha hz
      exact .inr ⟨b, o, ha, Nat.lt_of_lt_of_le hlt hb.size, fun i u hu => (hb.cell (p := ⟨b, o + i, none⟩) (Nat.lt_trans hbg hB)).trans (hc i u hu)⟩
theorem Src.kept {w w' : World} {g K : Nat} (h : Src w g K) (hb : Below w.heap.size w w') : Src w' g K := h.keptB hb h.lt
theorem Src.alloc {w : World} {g K : Nat} (h : Src w g K) (o : Obj) : Src (w.alloc o) g K := h.kept ((Below.refl _ _).alloc (Nat.le_refl _) o)
/-- a store into a later block leaves the source -/
theorem Src.set {w : World} {g K : Nat} (h : Src w g K) {b : Nat} (hb : g < b) (i : Nat) (v : Value) : Src (w.setCell ⟨b, i, none⟩ v) g K :=
  h.keptB (B := b) (Below.setCell (p := ⟨b, i, none⟩) (Below.refl b w) (Nat.le_refl _) v) hb
theorem Src.drewN {w : World} {g K : Nat} (h : Src w g K) (m : Nat) : Src (w.drewN m) g K := h
theorem Src.drew {w : World} {g K : Nat} (h : Src w g K) : Src w.drew g K := h

theorem pick_any (g K : Nat) (n : Int) (w : World) (h : Src w g K) (hK : K ≤ 900000000) (hn : n ≤ 1000000) :
    Calls Tryd.prog 25 #[.pointer (some ⟨g, 0, none⟩), .int .i64 n] w fun e w' => ∃ x : Int, e = .returned (.int .i64 x) ∧ 0 ≤ x ∧ (1 ≤ n → x < n) ∧ (n ≤ 1 → x = 0) ∧ Src w' g (K + 2) ∧ w.grownBy w' (some g) := by
  by_cases h1 : n ≤ 1
  · go_enter Tryd.func25, Tryd.ntmps25
    go_wp2
    go_ret
    exact ⟨0, rfl, by omega, fun _ => by omega, fun _ => rfl, h.mono (by omega), World.grownBy.refl _ _⟩
  · by_cases h2 : 200 < n
    · go_enter Tryd.func25, Tryd.ntmps25
      go_wp2_with fail
      refine (next_any _ _ _ h (by omega)).mono ?_
      rintro e w1 ⟨x, rfl, hx0, hx1, hs1, hg1⟩
      go_wp2_with fail
      refine (next_any _ _ _ hs1 (by omega)).mono ?_
      rintro e w2 ⟨y, rfl, hy0, hy1, hs2, hg2⟩
      have hm := Int.emod_nonneg (x * 256 + y) (show n ≠ 0 by omega)
      have hm2 := Int.emod_lt_of_pos (x * 256 + y) (show 0 < n by omega)
      go_wp2
      go_ret
      exact ⟨_, rfl, hm, fun _ => hm2, fun _ => by omega, hs2, gtrans hg1 hg2⟩
    · go_enter Tryd.func25, Tryd.ntmps25
      go_wp2_with fail
      refine (next_any _ _ _ h (by omega)).mono ?_
      rintro e w1 ⟨x, rfl, hx0, hx1, hs1, hg1⟩
      have hm := Int.emod_nonneg x (show n ≠ 0 by omega)
      have hm2 := Int.emod_lt_of_pos x (show 0 < n by omega)
      go_wp2
      go_ret
      exact ⟨_, rfl, hm, fun _ => hm2, fun _ => by omega, hs1.mono (by omega), hg1⟩

theorem one_any (g K : Nat) (n : Int) (w : World) (h : Src w g K) (hK : K ≤ 900000000) (hn : n ≤ 1000000) :
    Calls Tryd.prog 23 #[.pointer (some ⟨g, 0, none⟩), .int .i64 n] w fun e w' => ∃ x : Bool, e = .returned (.bool x) ∧ Src w' g (K + 2) ∧ w.grownBy w' (some g) := by
  go_enter Tryd.func23, Tryd.ntmps23
  go_wp2_with fail
  refine (pick_any _ _ _ _ h hK hn).mono ?_
  rintro e w1 ⟨x, rfl, hx0, hx1, hx2, hs1, hg1⟩
  clear hx1 hx2
  go_wp2
  go_ret
  exact ⟨_, rfl, hs1, hg1⟩

theorem among_any (g K : Nat) (a : Option Addr) (n c : Nat) (xs : List Int) (w : World) (h : Src w g K) (hK : K ≤ 900000000) (hn : n ≤ 1000000) (hn0 : 0 < n) (hr : RV w a n c (ints xs)) (hne : ∀ b o, a = some ⟨b, o, none⟩ → b ≠ g) :
    Calls Tryd.prog 24 #[.pointer (some ⟨g, 0, none⟩), .slice a n c] w fun e w' => ∃ x : Int, e = .returned (.int .i64 x) ∧ x ∈ xs ∧ Src w' g (K + 2) ∧ w.grownBy w' (some g) := by
  have hl := hr.lenI
  obtain ⟨b, o, rfl, hb, hc⟩ := hr.cell (by omega)
  have hbg := hne b o rfl
  have Hc := Lib.hid hc
  clear hc hne
  go_enter Tryd.func24, Tryd.ntmps24
  go_wp2_with fail
  refine (pick_any _ _ _ _ h hK (by omega)).mono ?_
  rintro e w1 ⟨x, rfl, hx0, hx1, hx2, hs1, hg1⟩
  have hx3 := hx1 (by omega)
  obtain ⟨j, rfl⟩ := Int.eq_ofNat_of_zero_le hx0
  have hj : j < n := by omega
  have hcell := hg1.cell (a := ⟨b, o + j, none⟩) (Hc.out j hj) (by simp; exact hbg)
  obtain ⟨y, Hy⟩ : ∃ y, Hid (y = xs.getD j 0) := ⟨_, rfl⟩
  rw [← Hy.out] at hcell
  clear hx1 hx2
  go_wp2
  go_ret
  exact ⟨y, rfl, by rw [Hy.out]; simp [show j < xs.length by omega], hs1, hg1⟩

theorem l00From_any (p : Option Addr) (n c : Nat) (xs : List Int) (w : World) (hr : RV w p n c (xs.map (.int .u8))) (hb : ∀ x ∈ xs, 0 ≤ x ∧ x ≤ 255) :
    Calls Tryd.prog 21 #[.slice p n c] w fun e w' => e = .returned (.pointer (some ⟨w.heap.size, 0, none⟩)) ∧ Src w' w.heap.size 0 ∧ Below w.heap.size w w' := by
  go_enter Tryd.func21, Tryd.ntmps21
  go_wp2
  go_ret
  refine ⟨rfl, ⟨p, n, c, xs, 0, 0, Nat.le_refl _, by omega, by omega, by simp, hr.below ((Below.refl _ _).alloc (Nat.le_refl _) _), hb, ?_, ?_, ?_, ?_, ?_, ?_⟩, (Below.refl _ _).alloc (Nat.le_refl _) _⟩
  · intro b o hp hn
    obtain ⟨b', o', h1, h2, _⟩ := hr.cellv hn
    rw [h1] at hp
    simp at hp
    omega
  all_goals simp [go_sem]
end Go.Proofs.YtggbnibdpkblgaaDoor
