/-
  Bases: decimal numbers up to 1000, by walks.
-/
import Derived.Test.YtflejjfkgkmcgaaGreatDoorBaseTxt
namespace Go.Proofs.YtflejjfkgkmcgaaGreatDoor
open Go.RowKit
set_option linter.unusedVariables false

theorem info_u8 : (Tryz.prog.info? 5).map (fun i => (i.zero, i.size, i.bytes)) = some (some (.int .u8 0), 1, 1) := by kernel_rfl
theorem below_grow (B : Nat) (w : World) (q : Nat) (os : Array Obj) (hB : B ≤ w.heap.size) : Below B w (Go.Sort.grow (w.drewN q) os) :=
  ⟨rfl, rfl, rfl, by first | (simp [Go.Sort.grow]; done) | (simp [Go.Sort.grow]; omega), fun i hi => by
    show ((w.drewN q).heap ++ os)[i]? = _
    rw [Array.getElem?_append_left (by show i < w.heap.size; omega)]
    rfl⟩

theorem decimal_any (n : Nat) (w : World) (h2 : n ≤ 1000) (htab : Lib.TabIs Tryz.prog w "internal/strconv.uint64pow10" .u64 Lib.pow10Tab) : Calls Tryz.prog 52 #[.int .i64 n] w fun e w' => e = .returned (.string (str (Lib.decDigits n))) ∧ Below w.heap.size w w' := by
  have hi := Lib.hid (itoa_nat n)
  go_enter Tryz.func52, Tryz.ntmps52
  go_wp2_with (go_at_call 63; refine (Tryz.strconv_FormatInt_10 _ (by omega) (by omega) _ htab).mono ?_; rintro e w' ⟨rfl, k, os, rfl⟩)
  go_ret
  exact ⟨by rw [hi.out]; rfl, below_grow _ _ _ _ (Nat.le_refl _)⟩

set_option maxHeartbeats 4000000 in
theorem l01Dec_any (n : Nat) (w : World) (h1 : 1 ≤ n) (h2 : n ≤ 1000) : Calls Tryz.prog 54 #[.int .i64 n] w fun e w' => e = .returned (.string (str (Lib.decDigits n))) ∧ Below w.heap.size w w' := by
  have H0 := Lib.hid (decRel_start h1)
  have t9 : decide ((n : Int) < 0) = false := decide_eq_false (by omega)
  have Hdp := Lib.hid (dec_pos n)
  go_enter Tryz.func54, Tryz.ntmps54
  go_wp2
  go_loopw [3, 4] (fun v i wr => ∃ (kk : Nat) (pre : List UInt8) (g o c : Nat), kk ≤ 1000 ∧ v = .slice (some ⟨g, o, none⟩) pre.length c ∧ i = .int .i64 kk ∧ Hid (decRel n kk pre) ∧ wr.ownsRow w.heap.size 5 1 v pre.length (u8s (bytesI pre)) ∧ Below w.heap.size w wr) (fun _ i _ => (intOf i).toNat)
  case atStart => exact ⟨n, [], _, _, _, h2, rfl, rfl, H0, owns_empty rfl (Nat.le_refl _), (Below.refl _ _).alloc (Nat.le_refl _) _⟩
  case round =>
    obtain ⟨kk, pre, g, o, c, hk, rfl, rfl, Hr, hown, hbel⟩ := hrel
    have hrv := (owns_read hown).1
    have hsz := hbel.size
    have hpl := decRel_len Hr.out h2
    by_cases h0 : kk = 0
    · have hp : pre = Lib.decDigits n := by have := Hr.out; unfold decRel at this; simpa [h0] using this
      have z1 : ((kk : Int) != 0) = false := by simp; omega
      have hp1 : 1 ≤ pre.length := by rw [hp]; exact Hdp.out
      have z2 : ((pre.length : Int) == 0) = false := by simp; intro h; rw [h] at hp1; simp at hp1
      have hcv := run_to_string (P := Tryz.prog) 22 9 5 Tryz.underlying22 Tryz.underlying5 Tryz.underlying9 hrv
      rw [hp] at hcv
      obtain ⟨L, hL⟩ : ∃ L, pre.length = L := ⟨_, rfl⟩
      rw [← hp, hL] at hcv
      rw [hL] at z2
      rw [hp] at hcv
      have Hbel := Lib.hid hbel
      clear hown hbel hrv
      simp only [hL]
      go_wp2
      go_ret
      exact ⟨rfl, Hbel.out⟩
    · have z1 : ((kk : Int) != 0) = true := by simp; omega
      obtain ⟨d, hd⟩ : ∃ d : Nat, kk % 10 = d := ⟨_, rfl⟩
      obtain ⟨q, hq⟩ : ∃ q : Nat, kk / 10 = q := ⟨_, rfl⟩
      have hd9 : d ≤ 9 := by omega
      have hqk : q < kk := by omega
      have m1 : (kk : Int).tmod 10 = (d : Int) := by rw [Int.tmod_eq_emod_of_nonneg (by omega)]; omega
      have m2 : (kk : Int).tdiv 10 = (q : Int) := by rw [Int.tdiv_eq_ediv_of_nonneg (by omega)]; omega
      have m1' : (kk : Int) % 10 = (d : Int) := by omega
      have m2' : (kk : Int) / 10 = (q : Int) := by omega
      have t2 : decide ((d : Int) < 0) = false := decide_eq_false (by omega)
      have w8 : IntKind.u8.wrap (48 + (d : Int)) = 48 + (d : Int) := by rw [IntKind.wrap_u8]; omega
      have w6 := IntWalk.i64_in (48 + (d : Int)) (by omega)
      have wd := IntWalk.i64_in (d : Int) (by omega)
      have wq := IntWalk.i64_in (q : Int) (by omega)
      have Hst := Lib.hid (show decRel n q (UInt8.ofNat (48 + d) :: pre) by rw [← hd, ← hq]; exact decRel_step Hr.out h0)
      have Hb8 := Lib.hid (show bytesI (UInt8.ofNat (48 + d) :: pre) = (48 + (d : Int)) :: bytesI pre by
        have e : ((UInt8.ofNat (48 + d)).toNat : Int) = 48 + (d : Int) := by rw [UInt8.toNat_ofNat']; omega
        simp only [bytesI, List.map_cons, e])
      clear hd hq hown
      have hrv2 := hrv.below ((Below.refl wr.heap.size wr).alloc (Nat.le_refl _) (.cells #[.int .u8 (48 + (d : Int))] 5))
      have hone := owns_one (w := wr) (base := w.heap.size) (e := 5) (.int .u8 (48 + (d : Int))) rfl hsz
      have hbelA := hbel.alloc (o := .cells #[.int .u8 (48 + (d : Int))] 5) (by omega)
      go_wp2_with (at_builtin; go_loud (refine wpList_appM rfl _ _ 22 rfl w.heap.size 5 _ 1 Tryz.underlying22 info_u8 (by decide) rfl _ 1 _ rfl hone ⟨g, o, none⟩ pre.length c (u8s (bytesI pre)) rfl ?c1 (rv_add hrv2) ?c2 ?c3 ?c4 ?_))
      case c1 => simp [bytesI]
      case c2 => intro u hu; simp at hu; obtain ⟨x, _, rfl⟩ := hu; rfl
      case c3 => omega
      case c4 => simp; omega
      intro v' w' hown' hgrow
      have hb' := below_app hbelA hone hgrow (Nat.le_refl _) (by simp; omega)
      obtain ⟨a2, c2, rfl⟩ := owns_slice hown'
      obtain ⟨b2, o2, ha, _, _⟩ := (owns_read hown').1.cellv (by omega)
      subst ha
      clear hgrow hone hrv hrv2 hbel hbelA
      go_wp2
      go_roundw
      case measure => simp [intOf]; omega
      case rel =>
        refine ⟨q, UInt8.ofNat (48 + d) :: pre, b2, o2, c2, by omega, ?_, by go_num, Hst, ?_, hb'⟩
        · simp [Nat.add_comm]
        · rw [Hb8.out]; simpa [Nat.add_comm] using hown'
end Go.Proofs.YtflejjfkgkmcgaaGreatDoor
