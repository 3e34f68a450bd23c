/-
  The arguments of the laws, opened: what the form hands over of an integer, a list, a text, a struct, in the words of the walks.
-/
import Derived.Test.YtggbnibdpkblgaaDoorRows
import Derived.WalkKit
import Derived.ProofKit
import Derived.OpenShut
import Derived.ShutString
import Derived.ChangeOld
import Derived.Below
import Derived.Lib.SmallJoins
import Derived.Test.YtggbnibdpkblgaaDoorKit
namespace Go.Proofs.YtggbnibdpkblgaaDoor
open Go.ChangeShapes Go.WideShapes Go.ChangeAt Go.RowKit Go.Joins
open Go.ChangeMaps (open_string)
set_option linter.unusedVariables false
set_option maxRecDepth 100000

theorem own : ownKnob Tryd.prog.godebug = none := by kernel_rfl
theorem laidOut : laidOutB Tryd.prog = true := by kernel_rfl

section
variable {H : Type} {enc : TypeId × Value → H} {w : World} {base : Nat} {v : Value} {d : DataW H} {p : List MemPlace}

theorem arg_lt {t : TypeId} (h : DataW.Trod enc Tryd.prog w 0 (fun _ => true) true t v d p) : ∀ x ∈ p, x.block < w.heap.size := by
  obtain ⟨m, hm⟩ := h; exact DataW.trod_lt m _ _ _ hm

theorem wf_bd {x : Int} (h : (Lit.int .i64 x).wf = true) : -9223372036854775808 ≤ x ∧ x ≤ 9223372036854775807 := by
  exact bounds_i64 h
theorem wf_bd8 {x : Int} (h : (Lit.int .u8 x).wf = true) : 0 ≤ x ∧ x ≤ 255 := by
  exact bounds_u8 h

theorem arg_int (hval : Value.okWide Tryd.prog w .any base 2 v) (h : DataW.Trod enc Tryd.prog w 0 (fun _ => true) true 2 v d p) :
    ∃ x : Int, v = .int .i64 x ∧ -9223372036854775808 ≤ x ∧ x ≤ 9223372036854775807 := by
  obtain ⟨x, rfl, _, _, hw⟩ := open_int Tryd.underlying2 hval h
  exact ⟨x, rfl, wf_bd hw⟩

theorem arg_str (hval : Value.okWide Tryd.prog w .any base 9 v) (h : DataW.Trod enc Tryd.prog w 0 (fun _ => true) true 9 v d p) :
    ∃ s : ByteArray, v = .string s ∧ s.size ≤ maxLen := by
  obtain ⟨s, rfl, _, _, hs⟩ := open_string Tryd.underlying9 hval h
  exact ⟨s, rfl, hs⟩

theorem rv_of_cells {k : IntKind} {a : Addr} {n c : Nat} {zs : List Int} (hl : n ≤ c) (hm : c ≤ maxLen) (hz : n ≤ zs.length) (hcell : ∀ i, i < zs.length → w.cell? (a.add i) = some (.int k (zs.getD i 0))) :
    RV w (some a) n c ((zs.take n).map (.int k)) := by
  refine ⟨by simp; omega, hl, hm, ?_⟩
  by_cases hn : n = 0
  · exact .inl hn
  · obtain ⟨b, off, rfl, hc⟩ := ints_at hcell (by omega)
    refine .inr ⟨b, off, rfl, ?_, fun i u hu => ?_⟩
    · exact World.block_lt_of_cell? w ⟨b, off + 0, none⟩ (hc 0 (by omega))
    · have hi : i < n := by
        have := (List.getElem?_eq_some_iff.1 hu).1
        simp at this; omega
      rw [hc i (by omega)]
      rw [← hu]
      simp [hi, show i < zs.length by omega]

theorem cell_ints {f : Nat} {y : DataW H × List MemPlace} (h : DataW.trod enc Tryd.prog w 0 (fun _ => true) true f 26 [v] = some y) :
    ∃ (a : Option Addr) (n c : Nat) (xs : List Int), v = .slice a n c ∧ RV w a n c (ints xs) ∧ ∀ x ∈ xs, -9223372036854775808 ≤ x ∧ x ≤ 9223372036854775807 := by
  rcases open_ints Tryd.underlying26 Tryd.underlying2 (by kernel_rfl) h with ⟨hcs, _⟩ | ⟨a, l, c, zs, hcs, _, hl, hm, hz, _, hcell, hwz⟩
  · simp at hcs
    exact ⟨none, 0, 0, [], hcs, RV.nil w, fun x hx => by simp at hx⟩
  · simp at hcs
    simp at hz
    exact ⟨_, l, c, zs.take l, hcs, rv_of_cells hl hm (by omega) hcell, fun x hx => wf_bd (hwz x (List.mem_of_mem_take hx))⟩
theorem arg_ints (hval : Value.okWide Tryd.prog w .any base 26 v) (h : DataW.Trod enc Tryd.prog w 0 (fun _ => true) true 26 v d p) :
    ∃ (a : Option Addr) (n c : Nat) (xs : List Int), v = .slice a n c ∧ RV w a n c (ints xs) ∧ ∀ x ∈ xs, -9223372036854775808 ≤ x ∧ x ≤ 9223372036854775807 := by
  obtain ⟨a0, len, cap, rfl⟩ := okWide_slice Tryd.underlying26 hval
  obtain ⟨f, hf⟩ := h
  exact cell_ints (v := .slice a0 len cap) (by simpa [Value.cells] using hf)

theorem arg_bytes (hval : Value.okWide Tryd.prog w .any base 22 v) (h : DataW.Trod enc Tryd.prog w 0 (fun _ => true) true 22 v d p) :
    ∃ (a : Option Addr) (n c : Nat) (xs : List Int), v = .slice a n c ∧ RV w a n c (xs.map (.int .u8)) ∧ ∀ x ∈ xs, 0 ≤ x ∧ x ≤ 255 := by
  obtain ⟨a0, len, cap, rfl⟩ := okWide_slice Tryd.underlying22 hval
  obtain ⟨f, hf⟩ := h
  rcases open_ints Tryd.underlying22 Tryd.underlying5 (by kernel_rfl) hf with ⟨hcs, _⟩ | ⟨a, l, c, zs, hcs, _, hl, hm, hz, _, hcell, hwz⟩
  · simp [Value.cells] at hcs
    obtain ⟨rfl, rfl, rfl⟩ := hcs
    exact ⟨none, 0, 0, [], rfl, RV.nil w, fun x hx => by simp at hx⟩
  · simp [Value.cells] at hcs
    obtain ⟨rfl, rfl, rfl⟩ := hcs
    simp at hz
    exact ⟨_, _, _, zs.take len, rfl, rv_of_cells hl hm (by omega) hcell, fun x hx => wf_bd8 (hwz x (List.mem_of_mem_take hx))⟩


end
end Go.Proofs.YtggbnibdpkblgaaDoor
