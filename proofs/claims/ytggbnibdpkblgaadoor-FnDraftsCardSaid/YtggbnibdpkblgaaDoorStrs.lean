/-
  Texts as lists of bytes; a text out of a slice of bytes that a call owns. No program in sight.
-/
import Derived.Test.YtggbnibdpkblgaaDoorWords
import Derived.Laws.BytesString
import Derived.Laws.Concat
import Derived.Lib.Repeat
namespace Go.Proofs.YtggbnibdpkblgaaDoor
open Go.RowKit
set_option linter.unusedVariables false

def str (l : List UInt8) : ByteArray := ⟨l.toArray⟩
theorem str_size (l : List UInt8) : (str l).size = l.length := by simp [str, ByteArray.size]
theorem str_list (l : List UInt8) : (str l).data.toList = l := by simp [str]
theorem str_toList (l : List UInt8) : (str l).toList = l := by rw [ByteArray.toList_eq, str_list]
theorem str_of (s : ByteArray) : str s.data.toList = s := by
  apply ByteArray.ext
  simp [str]
theorem str_append (x y : List UInt8) : str x ++ str y = str (x ++ y) := ByteArray.mk_append_mk x y
theorem str_inj {x y : List UInt8} (h : str x = str y) : x = y := by
  have := congrArg (fun s : ByteArray => s.data.toList) h
  simpa [str_list] using this
theorem data_app (a b : ByteArray) : (a ++ b).data.toList = a.data.toList ++ b.data.toList := by rw [ByteArray.data_append, Array.toList_append]
theorem size_list (s : ByteArray) : s.data.toList.length = s.size := rfl
theorem of_data {s : ByteArray} {l : List UInt8} (h : s.data.toList = l) : s = str l := by rw [← h, str_of]

/-- the bytes as numbers -/
def bytesI (l : List UInt8) : List Int := l.map fun c => (c.toNat : Int)
theorem bytesI_len (l : List UInt8) : (bytesI l).length = l.length := by simp [bytesI]
theorem bytesI_get (l : List UInt8) {k : Nat} (h : k < l.length) : (bytesI l).getD k 0 = (bat l k : Int) := by simp [bytesI, bat, h]
theorem bytesI_append (l m : List UInt8) : bytesI (l ++ m) = bytesI l ++ bytesI m := by simp [bytesI]
abbrev u8s (xs : List Int) : List Value := xs.map (.int .u8)

theorem foldl_push (l : List UInt8) : ∀ s : ByteArray, (bytesI l).foldl (fun r n => r.push (UInt8.ofNat n.toNat)) s = s ++ str l := by
  induction l with
  | nil => intro s; apply ByteArray.ext; simp [bytesI, str, ByteArray.data_append]
  | cons c l ih =>
    intro s
    show (bytesI l).foldl _ (s.push (UInt8.ofNat ((c.toNat : Int)).toNat)) = _
    rw [ih]
    apply ByteArray.ext
    simp [str, ByteArray.data_append, ByteArray.push]

theorem run_to_string {P : Program} {W : World} (src dst e : TypeId) (hs : P.underlying src = some (.slice e)) (he : P.underlying e = some (.int .u8)) (hd : P.underlying dst = some .string)
    {b o n c : Nat} {l : List UInt8} (hr : RV W (some ⟨b, o, none⟩) n c (u8s (bytesI l))) : (convert src dst (.slice (some ⟨b, o, none⟩) n c)).run P W = .ok (.string (str l)) W := by
  rw [run_convert_bytes_string W src dst e _ _ _ hs he hd]
  have hl := hr.1
  have hcell : ∀ j v, (u8s (bytesI l))[j]? = some v → W.cell? ((⟨b, o, none⟩ : Addr).add j) = some v := by
    intro j v hv
    have hj : j < (u8s (bytesI l)).length := (List.getElem?_eq_some_iff.1 hv).1
    obtain ⟨b', o', ha, _, hc⟩ := hr.cellv (by omega)
    simp only [Option.some.injEq, Addr.mk.injEq, and_true] at ha
    obtain ⟨rfl, rfl⟩ := ha
    have h0 := hc j v hv
    simp only [Addr.add]
    split
    · next hz => simpa [hz] using h0
    · exact h0
  have h1 := run_loadCells_list (P := P) (w := W) ⟨b, o, none⟩ (u8s (bytesI l)) hcell
  rw [hl] at h1
  rw [run_bytesToString W ⟨b, o, none⟩ n c (bytesI l) h1, foldl_push]
  congr 2

/-! ### a row that is filled from the front -/
def filled (xs : List Int) (n k : Nat) : List Value := u8s (xs.take k) ++ List.replicate (n - k) (.int .u8 0)
theorem filled_length {xs : List Int} {n k : Nat} (h : xs.length = n) (hk : k ≤ n) : (filled xs n k).length = n := by simp [filled]; omega
theorem filled_all {xs : List Int} {n : Nat} (h : xs.length = n) : filled xs n n = u8s xs := by
  simp [filled, List.take_of_length_le (Nat.le_of_eq h)]
theorem filled_step {xs : List Int} {n k : Nat} (h : xs.length = n) (hk : k < n) : (filled xs n k).set k (.int .u8 (xs.getD k 0)) = filled xs n (k + 1) := by
  apply List.ext_getElem?
  intro i
  simp only [filled, List.getElem?_set, List.length_append, List.length_map, List.length_take, List.length_replicate, List.getElem?_append, List.getElem?_map, List.getElem?_take, List.getElem?_replicate]
  have hm : min k xs.length = k := by omega
  have hm1 : min (k + 1) xs.length = k + 1 := by omega
  rw [hm, hm1]
  by_cases h1 : k = i
  · subst h1
    have : k < xs.length := by omega
    simp [this]; omega
  · by_cases h2 : i < k
    · simp [h1, h2, show i < k + 1 by omega]
    · have h3 : ¬ i < k + 1 := by omega
      simp [h1, h2, h3]
      have : (i - k < n - k) = (i - (k + 1) < n - (k + 1)) := by apply propext; omega
      simp only [this]
theorem owns_made8 (w : World) (e : TypeId) (n : Nat) (hm : n ≤ maxLen) : (w.alloc (.cells (madeCells #[Value.int .u8 0] n) e)).ownsRow w.heap.size e 1 (.slice (some ⟨w.heap.size, 0, none⟩) n n) n (List.replicate n (.int .u8 0)) := by
  refine ⟨by simp, .inr ⟨w.heap.size, n, madeCells #[Value.int .u8 0] n, rfl, Nat.le_refl _, heap_alloc_new w _, Nat.le_refl _, hm, by simp [size_madeCells], ?_⟩⟩
  apply List.ext_getElem?
  intro i
  by_cases hi : i < n
  · simp [madeCells, hi, Nat.mod_one]
  · simp [madeCells, hi]

/-! ### a weaver's way along a text -/
def alongL (l : List UInt8) (f st : Int) (m : Nat) : List UInt8 := (List.range m).map fun (i : Nat) => l.getD ((f + i * st) % l.length).toNat 0
theorem alongL_len (l : List UInt8) (f st : Int) (m : Nat) : (alongL l f st m).length = m := by simp [alongL]
theorem alongL_get {l : List UInt8} {f st : Int} {m k : Nat} (h : k < m) : (alongL l f st m).getD k 0 = l.getD ((f + k * st) % l.length).toNat 0 := by simp [alongL, h]
theorem alongL_step (l : List UInt8) (f st : Int) (m : Nat) : alongL l f st (m + 1) = alongL l f st m ++ [l.getD ((f + m * st) % l.length).toNat 0] := by simp [alongL, List.range_succ]

/-! ### the longest run of a text that goes on for ever -/
def runK (l : List UInt8) : Nat → Nat
  | 0 => 0
  | i + 1 => (if 0 < i ∧ bat l (i % l.length) ≠ bat l ((i - 1) % l.length) then 0 else runK l i) + 1
def mostK (l : List UInt8) : Nat → Nat
  | 0 => 0
  | i + 1 => max (mostK l i) (runK l (i + 1))
def longRun (l : List UInt8) : Nat := min (mostK l (2 * l.length)) l.length
theorem runK_le (l : List UInt8) (i : Nat) : runK l i ≤ i := by
  induction i with
  | zero => simp [runK]
  | succ i ih => unfold runK; split <;> omega
theorem mostK_le (l : List UInt8) (i : Nat) : mostK l i ≤ i := by
  induction i with
  | zero => simp [mostK]
  | succ i ih => have := runK_le l (i + 1); unfold mostK; omega
theorem mostK_pos (l : List UInt8) {i : Nat} (h : 0 < i) : 1 ≤ mostK l i := by
  cases i with
  | zero => omega
  | succ i =>
    have : 1 ≤ runK l (i + 1) := by unfold runK; split <;> omega
    unfold mostK; omega
end Go.Proofs.YtggbnibdpkblgaaDoor
