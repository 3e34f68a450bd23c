/-
  Bases: the text of a base, the reference's and the program's, by walks.
-/
import Derived.Test.YtimomjkeknlcgaaDoorBaseTxt2
import Derived.Deep.RegionHeld3
namespace Go.Proofs.YtimomjkeknlcgaaDoor
open Go.RowKit
set_option linter.unusedVariables false

def decB (x : Int) : ByteArray := str (Lib.decDigits x.toNat)
def baseTxt (t s r k : Int) : ByteArray :=
  decB t ++ ⟨#[32, 116, 104, 114, 111, 117, 103, 104, 32]⟩ ++ decB s ++ ⟨#[44, 32, 114, 97, 100, 105, 117, 115, 32]⟩ ++ decB r ++ ⟨#[44, 32, 119, 101, 97, 118, 101, 114, 115, 32]⟩ ++ decB k
def baseTextR (t s r k : Int) : ByteArray := if vBase t s r k then baseTxt t s r k else ⟨#[]⟩
theorem decB_size {x : Int} (h0 : 0 ≤ x) (h : x ≤ 1000) : (decB x).size ≤ 4 := by
  unfold decB; rw [str_size]; exact dec_len (by omega)
theorem bt_keep {w0 w1 w2 : World} {g : Nat} {a b c d : Value} (h : w1.cell? ⟨g, 0, none⟩ = some a ∧ w1.cell? ⟨g, 1, none⟩ = some b ∧ w1.cell? ⟨g, 2, none⟩ = some c ∧ w1.cell? ⟨g, 3, none⟩ = some d ∧ Below w0.heap.size w0 w1) (hb : Below w1.heap.size w1 w2) (hg : g < w0.heap.size) :
    w2.cell? ⟨g, 0, none⟩ = some a ∧ w2.cell? ⟨g, 1, none⟩ = some b ∧ w2.cell? ⟨g, 2, none⟩ = some c ∧ w2.cell? ⟨g, 3, none⟩ = some d ∧ Below w0.heap.size w0 w2 := by
  obtain ⟨h0, h1, h2, h3, h4⟩ := h
  have hg' : g < w1.heap.size := Nat.lt_of_lt_of_le hg h4.size
  exact ⟨(hb.cell (p := ⟨g, 0, none⟩) hg').trans h0, (hb.cell (p := ⟨g, 1, none⟩) hg').trans h1, (hb.cell (p := ⟨g, 2, none⟩) hg').trans h2, (hb.cell (p := ⟨g, 3, none⟩) hg').trans h3, bstep h4 hb (Nat.le_refl _)⟩
theorem bt_drew {w0 w1 : World} {g : Nat} {a b c d : Value} (h : w1.cell? ⟨g, 0, none⟩ = some a ∧ w1.cell? ⟨g, 1, none⟩ = some b ∧ w1.cell? ⟨g, 2, none⟩ = some c ∧ w1.cell? ⟨g, 3, none⟩ = some d ∧ Below w0.heap.size w0 w1) :
    w1.drew.cell? ⟨g, 0, none⟩ = some a ∧ w1.drew.cell? ⟨g, 1, none⟩ = some b ∧ w1.drew.cell? ⟨g, 2, none⟩ = some c ∧ w1.drew.cell? ⟨g, 3, none⟩ = some d ∧ Below w0.heap.size w0 w1.drew := by
  obtain ⟨h0, h1, h2, h3, h4⟩ := h
  exact ⟨h0, h1, h2, h3, bdrewN h4 1⟩

theorem bt_below {w0 w1 : World} {g : Nat} {a b c d : Value} (h : w1.cell? ⟨g, 0, none⟩ = some a ∧ w1.cell? ⟨g, 1, none⟩ = some b ∧ w1.cell? ⟨g, 2, none⟩ = some c ∧ w1.cell? ⟨g, 3, none⟩ = some d ∧ Below w0.heap.size w0 w1) : Below w0.heap.size w0 w1 := h.2.2.2.2
theorem bt_tab {wa W : World} {g : Nat} {a b c d : Value} (htab : Lib.TabIs Tryd.prog wa "internal/strconv.uint64pow10" .u64 Lib.pow10Tab) (h : W.cell? ⟨g, 0, none⟩ = some a ∧ W.cell? ⟨g, 1, none⟩ = some b ∧ W.cell? ⟨g, 2, none⟩ = some c ∧ W.cell? ⟨g, 3, none⟩ = some d ∧ Below wa.heap.size wa W) : Lib.TabIs Tryd.prog W "internal/strconv.uint64pow10" .u64 Lib.pow10Tab :=
  Joins.tab_stays (g := 0) (by kernel_rfl) htab h.2.2.2.2 (Nat.le_refl _)

set_option maxHeartbeats 4000000 in
theorem specBaseText_any (t s r k : Int) (w : World) : Calls Tryd.prog 5 #[.agg #[.int .i64 t, .int .i64 s, .int .i64 r, .int .i64 k]] w fun e w' => e = .returned (.string (baseTextR t s r k)) ∧ Below w.heap.size w w' := by
  have hR : baseTextR t s r k = if vBase t s r k then baseTxt t s r k else ⟨#[]⟩ := rfl
  cases hv : vBase t s r k
  · rw [hv] at hR
    obtain ⟨R, hR0⟩ : ∃ R, baseTextR t s r k = R := ⟨_, rfl⟩
    rw [hR0] at hR ⊢
    clear hR0
    have HR := Lib.hid hR
    clear hR
    have Hok := Lib.hid (fun (b : Nat) (W : World) (h : BaseAt W b t s r k) => by have h := l07Ok_any b t s r k W h; rw [hv] at h; exact h)
    clear hv
    go_enter Tryd.func5, Tryd.ntmps5
    go_wp2_with (go_at_call 24; with_reducible refine (Hok.out _ _ (BaseAt.boxed _ _ _ _ _ _)).mono ?_; rintro e w' ⟨rfl, rfl⟩)
    go_ret
    exact ⟨by rw [HR.out]; rfl, (Below.refl _ _).alloc (Nat.le_refl _) _⟩
  · rw [hv] at hR
    obtain ⟨R, hR0⟩ : ∃ R, baseTextR t s r k = R := ⟨_, rfl⟩
    rw [hR0] at hR ⊢
    clear hR0
    have hR' : R = baseTxt t s r k := hR
    clear hR
    have Hok := Lib.hid (fun (b : Nat) (W : World) (h : BaseAt W b t s r k) => by have h := l07Ok_any b t s r k W h; rw [hv] at h; exact h)
    obtain ⟨⟨h1, h2⟩, ⟨h3, h4⟩, ⟨h5, h6⟩, ⟨h7, h8⟩⟩ := vBase_iff.1 hv
    clear hv
    have q0 := decB_size (x := t) (by omega) (by omega)
    have q1 := decB_size (x := s) (by omega) (by omega)
    have q2 := decB_size (x := r) (by omega) (by omega)
    have q3 := decB_size (x := k) (by omega) (by omega)
    have Hd := Lib.hid (fun (x : Int) (h0 : 1 ≤ x) (h1 : x ≤ 1000) (W : World) => by
      have h := l01Dec_any x.toNat W (by omega) (by omega)
      rw [show ((x.toNat : Nat) : Int) = x by omega] at h
      exact h)
    have D0 := Lib.hid (Hd.out t (by omega) (by omega))
    have D1 := Lib.hid (Hd.out s (by omega) (by omega))
    have D2 := Lib.hid (Hd.out r (by omega) (by omega))
    have D3 := Lib.hid (Hd.out k (by omega) (by omega))
    clear Hd h1 h2 h3 h4 h5 h6 h7 h8
    rw [show str (Lib.decDigits t.toNat) = decB t from rfl] at D0
    rw [show str (Lib.decDigits s.toNat) = decB s from rfl] at D1
    rw [show str (Lib.decDigits r.toNat) = decB r from rfl] at D2
    rw [show str (Lib.decDigits k.toNat) = decB k from rfl] at D3
    unfold baseTxt at hR'
    have n1 : ¬ (9223372036854775807 < (decB t).size + 9) := by omega
    have n2 : ¬ (9223372036854775807 < (decB t).size + 9 + (decB s).size) := by omega
    have n3 : ¬ (9223372036854775807 < (decB t).size + 9 + (decB s).size + 9) := by omega
    have n4 : ¬ (9223372036854775807 < (decB t).size + 9 + (decB s).size + 9 + (decB r).size) := by omega
    have n5 : ¬ (9223372036854775807 < (decB t).size + 9 + (decB s).size + 9 + (decB r).size + 10) := by omega
    have n6 : ¬ (9223372036854775807 < (decB t).size + 9 + (decB s).size + 9 + (decB r).size + 10 + (decB k).size) := by omega
    clear q0 q1 q2 q3
    generalize decB t = d0 at *
    generalize decB s = d1 at *
    generalize decB r = d2 at *
    generalize decB k = d3 at *
    have HR := Lib.hid hR'
    clear hR'
    go_enter Tryd.func5, Tryd.ntmps5
    go_wp2_with (go_at_call 24; with_reducible refine (Hok.out _ _ (BaseAt.boxed _ _ _ _ _ _)).mono ?_; rintro e w' ⟨rfl, rfl⟩)
    have hA := BaseAt.boxed w t s r k 25
    have hB := (Below.refl w.heap.size w).alloc (Nat.le_refl _) (.cells #[.int .i64 t, .int .i64 s, .int .i64 r, .int .i64 k] 25)
    have hg : w.heap.size < (w.alloc (.cells #[.int .i64 t, .int .i64 s, .int .i64 r, .int .i64 k] 25)).heap.size := by simp
    generalize (w.alloc (.cells #[.int .i64 t, .int .i64 s, .int .i64 r, .int .i64 k] 25)) = wa at *
    obtain ⟨c0, c1, c2, c3⟩ := hA
    have HB := Lib.hid hB
    have Hg := Lib.hid hg
    clear hB hg
    go_region_held3 (fun w' => w'.cell? ⟨w.heap.size, 0, none⟩ = some (.int .i64 t) ∧ w'.cell? ⟨w.heap.size, 1, none⟩ = some (.int .i64 s) ∧ w'.cell? ⟨w.heap.size, 2, none⟩ = some (.int .i64 r) ∧ w'.cell? ⟨w.heap.size, 3, none⟩ = some (.int .i64 k) ∧ Below wa.heap.size wa w') (first | assumption | exact ⟨c0, c1, c2, c3, Below.refl _ _⟩ | exact bt_drew ⟨c0, c1, c2, c3, Below.refl _ _⟩ | exact bt_drew (by assumption) | exact bt_keep (by assumption) hb2 Hg.out) (first | (go_at_call 25; (with_reducible refine (D0.out _).mono ?_); rintro e w2 ⟨rfl, hb2⟩) | (go_at_call 25; (with_reducible refine (D1.out _).mono ?_); rintro e w2 ⟨rfl, hb2⟩) | (go_at_call 25; (with_reducible refine (D2.out _).mono ?_); rintro e w2 ⟨rfl, hb2⟩) | (go_at_call 25; (with_reducible refine (D3.out _).mono ?_); rintro e w2 ⟨rfl, hb2⟩))
    all_goals
      rename_i hH
      obtain ⟨_, _, _, _, hE⟩ := hH
      have HE := Lib.hid (bstep HB.out hE (Nat.le_refl _))
      clear hE
      go_wp2
      go_ret
      exact ⟨by rw [HR.out]; rfl, HE.out⟩

set_option maxHeartbeats 4000000 in
theorem baseText_any (t s r k : Int) (w : World) (htab : Lib.TabIs Tryd.prog w "internal/strconv.uint64pow10" .u64 Lib.pow10Tab) : Calls Tryd.prog 7 #[.agg #[.int .i64 t, .int .i64 s, .int .i64 r, .int .i64 k]] w fun e w' => e = .returned (.string (baseTextR t s r k)) ∧ Below w.heap.size w w' := by
  have hR : baseTextR t s r k = if vBase t s r k then baseTxt t s r k else ⟨#[]⟩ := rfl
  cases hv : vBase t s r k
  · rw [hv] at hR
    obtain ⟨R, hR0⟩ : ∃ R, baseTextR t s r k = R := ⟨_, rfl⟩
    rw [hR0] at hR ⊢
    clear hR0
    have HR := Lib.hid hR
    clear hR
    have Hok := Lib.hid (fun (W : World) => by have h := validBase_any t s r k W; rw [hv] at h; exact h)
    clear hv
    go_enter Tryd.func7, Tryd.ntmps7
    go_wp2_with (go_at_call 21; with_reducible refine (Hok.out _).mono ?_; rintro e w1 ⟨rfl, hb⟩; have HB := Lib.hid (bstep ((Below.refl w.heap.size w).alloc (Nat.le_refl _) (.cells #[.int .i64 t, .int .i64 s, .int .i64 r, .int .i64 k] 25)) hb (Nat.le_refl _)); clear hb)
    go_ret
    exact ⟨by rw [HR.out]; rfl, HB.out⟩
  · rw [hv] at hR
    obtain ⟨R, hR0⟩ : ∃ R, baseTextR t s r k = R := ⟨_, rfl⟩
    rw [hR0] at hR ⊢
    clear hR0
    have hR' : R = baseTxt t s r k := hR
    clear hR
    have Hok := Lib.hid (fun (W : World) => by have h := validBase_any t s r k W; rw [hv] at h; exact h)
    obtain ⟨⟨h1, h2⟩, ⟨h3, h4⟩, ⟨h5, h6⟩, ⟨h7, h8⟩⟩ := vBase_iff.1 hv
    clear hv
    have q0 := decB_size (x := t) (by omega) (by omega)
    have q1 := decB_size (x := s) (by omega) (by omega)
    have q2 := decB_size (x := r) (by omega) (by omega)
    have q3 := decB_size (x := k) (by omega) (by omega)
    have Hd := Lib.hid (fun (x : Int) (h0 : 1 ≤ x) (h1 : x ≤ 1000) (W : World) (ht : Lib.TabIs Tryd.prog W "internal/strconv.uint64pow10" .u64 Lib.pow10Tab) => by
      have h := decimal_any x.toNat W (by omega) ht
      rw [show ((x.toNat : Nat) : Int) = x by omega] at h
      exact h)
    have D0 := Lib.hid (Hd.out t (by omega) (by omega))
    have D1 := Lib.hid (Hd.out s (by omega) (by omega))
    have D2 := Lib.hid (Hd.out r (by omega) (by omega))
    have D3 := Lib.hid (Hd.out k (by omega) (by omega))
    clear Hd h1 h2 h3 h4 h5 h6 h7 h8
    rw [show str (Lib.decDigits t.toNat) = decB t from rfl] at D0
    rw [show str (Lib.decDigits s.toNat) = decB s from rfl] at D1
    rw [show str (Lib.decDigits r.toNat) = decB r from rfl] at D2
    rw [show str (Lib.decDigits k.toNat) = decB k from rfl] at D3
    unfold baseTxt at hR'
    have n1 : ¬ (9223372036854775807 < (decB t).size + 9) := by omega
    have n2 : ¬ (9223372036854775807 < (decB t).size + 9 + (decB s).size) := by omega
    have n3 : ¬ (9223372036854775807 < (decB t).size + 9 + (decB s).size + 9) := by omega
    have n4 : ¬ (9223372036854775807 < (decB t).size + 9 + (decB s).size + 9 + (decB r).size) := by omega
    have n5 : ¬ (9223372036854775807 < (decB t).size + 9 + (decB s).size + 9 + (decB r).size + 10) := by omega
    have n6 : ¬ (9223372036854775807 < (decB t).size + 9 + (decB s).size + 9 + (decB r).size + 10 + (decB k).size) := by omega
    clear q0 q1 q2 q3
    generalize decB t = d0 at *
    generalize decB s = d1 at *
    generalize decB r = d2 at *
    generalize decB k = d3 at *
    have HR := Lib.hid hR'
    clear hR'
    go_enter Tryd.func7, Tryd.ntmps7
    go_wp2_with fail
    with_reducible refine (Hok.out _).mono ?_
    rintro e w1 ⟨rfl, hb⟩
    have hA := (BaseAt.boxed w t s r k 25).below hb (by simp)
    have hB := bstep ((Below.refl w.heap.size w).alloc (Nat.le_refl _) (.cells #[.int .i64 t, .int .i64 s, .int .i64 r, .int .i64 k] 25)) hb (Nat.le_refl _)
    have hg : w.heap.size < w1.heap.size := by have := hb.size; simp at this; omega
    clear hb
    obtain ⟨wa, hwa⟩ : ∃ x : World, x = w1 := ⟨_, rfl⟩
    subst hwa
    have Htb := Lib.hid (Joins.tab_stays (g := 0) (by kernel_rfl) htab hB (Nat.le_refl _))
    clear htab
    go_wp2_with fail
    obtain ⟨c0, c1, c2, c3⟩ := hA
    have HB := Lib.hid hB
    have Hg := Lib.hid hg
    clear hB hg
    go_region_held3 (fun w' => w'.cell? ⟨w.heap.size, 0, none⟩ = some (.int .i64 t) ∧ w'.cell? ⟨w.heap.size, 1, none⟩ = some (.int .i64 s) ∧ w'.cell? ⟨w.heap.size, 2, none⟩ = some (.int .i64 r) ∧ w'.cell? ⟨w.heap.size, 3, none⟩ = some (.int .i64 k) ∧ Below wa.heap.size wa w') (first | assumption | exact ⟨c0, c1, c2, c3, Below.refl _ _⟩ | exact bt_drew ⟨c0, c1, c2, c3, Below.refl _ _⟩ | exact bt_drew (by assumption) | exact bt_keep (by assumption) hb2 Hg.out) (first | (go_at_call 26; (with_reducible refine (D0.out _ (bt_tab Htb.out (by assumption))).mono ?_); rintro e w2 ⟨rfl, hb2⟩) | (go_at_call 26; (with_reducible refine (D1.out _ (bt_tab Htb.out (by assumption))).mono ?_); rintro e w2 ⟨rfl, hb2⟩) | (go_at_call 26; (with_reducible refine (D2.out _ (bt_tab Htb.out (by assumption))).mono ?_); rintro e w2 ⟨rfl, hb2⟩) | (go_at_call 26; (with_reducible refine (D3.out _ (bt_tab Htb.out (by assumption))).mono ?_); rintro e w2 ⟨rfl, hb2⟩))
    all_goals
      rename_i hH
      obtain ⟨_, _, _, _, hE⟩ := hH
      have HE := Lib.hid (bstep HB.out hE (Nat.le_refl _))
      clear hE
      go_wp2
      go_ret
      exact ⟨by rw [HR.out]; rfl, HE.out⟩
end Go.Proofs.YtimomjkeknlcgaaDoor
