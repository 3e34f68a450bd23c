/-
  Drawn words of bends and numbers of stakes.
-/
import Derived.Test.YtggbnibdpkblgaaDoorSrc
namespace Go.Proofs.YtggbnibdpkblgaaDoor
open Go Go.RowKit
set_option linter.unusedVariables false

abbrev texts (xs : List ByteArray) : List Value := xs.map .string
/-- a literal list of values -/
theorem rv_litV (w : World) (vs : List Value) (e : TypeId) {n : Nat} {cs : Array Value} (hcs : cs = vs.toArray) (hn : n = vs.length) (hm : n ≤ maxLen) : RV (w.alloc (.cells cs e)) (some ⟨w.heap.size, 0, none⟩) n n vs := by
  subst hcs hn
  refine ⟨rfl, Nat.le_refl _, hm, .inr ⟨w.heap.size, 0, rfl, by simp, fun i u hu => ?_⟩⟩
  rw [cell_of_row _ w.heap.size (0 + i) _ e (0, 0) (heap_alloc_new w _)]
  simpa using hu

theorem text_any (g K : Nat) (a : Option Addr) (n c : Nat) (xs : List ByteArray) (w : World) (h : Src w g K) (hK : K ≤ 900000000) (hn : n ≤ 1000000) (hn0 : 0 < n) (hr : RV w a n c (texts xs)) (hne : ∀ b o, a = some ⟨b, o, none⟩ → b ≠ g) :
    Calls Tryd.prog 56 #[.pointer (some ⟨g, 0, none⟩), .slice a n c] w fun e w' => ∃ x : ByteArray, e = .returned (.string x) ∧ x ∈ xs ∧ Src w' g (K + 2) ∧ w.grownBy w' (some g) := by
  have hl : xs.length = n := by simpa using hr.1
  obtain ⟨b, o, rfl, hb, hc⟩ := hr.cellv (by omega)
  have hbg := hne b o rfl
  have Hc := Lib.hid hc
  clear hc hne
  go_enter Tryd.func56, Tryd.ntmps56
  go_wp2_with fail
  refine (pick_any _ _ _ _ h hK (by omega)).mono ?_
  rintro e w1 ⟨x, rfl, hx0, hx1, hx2, hs1, hg1⟩
  have hx3 := hx1 (by omega)
  obtain ⟨j, rfl⟩ := Int.eq_ofNat_of_zero_le hx0
  have hj : j < n := by omega
  have hjl : j < xs.length := by omega
  have hcell := hg1.cell (a := ⟨b, o + j, none⟩) (Hc.out j (.string xs[j]) (by simp [hjl])) (by simp; exact hbg)
  obtain ⟨y, Hy⟩ : ∃ y, Hid (y = xs[j]) := ⟨xs[j], Lib.hid rfl⟩
  rw [← Hy.out] at hcell
  clear hx1 hx2
  go_wp2
  go_ret
  exact ⟨y, rfl, by rw [Hy.out]; exact List.getElem_mem _, hs1, hg1⟩





end Go.Proofs.YtggbnibdpkblgaaDoor
