/-
  Functions of Go's library over []int64: Max, Min, Index, Clone, Reverse.
-/
import Derived.Test.YtdbgicfbigjmmaaLists
import Derived.Deep.AppendLies
import Derived.Deep.RegionLaw
namespace Go.Proofs.Ytdbgicfbigjmmaa
open Go.RowKit
set_option linter.unusedVariables false

/-- an append of one element, at a step of a region that draws its order -/
theorem step_app1 {P : Program} {W : World} {ops : Array Oper} {o : Oper} {a : Act} {K : Act → World → Prop} {Q : Exit → Act → World → Prop} {E : Prop} (hgd : o.guard = none) (s x : Operand) (t : TypeId)
    (ho : o.op = .call { callee := .builtin .append, args := #[s, x], argTypes := #[t, t] })
    (base : Nat) (e : TypeId) (z : Value) (bytes : Nat) (ht : P.underlying t = some (.slice e)) (hinfo : (P.info? e).map (fun i => (i.zero, i.size, i.bytes)) = some (some z, 1, bytes)) (hby : bytes ≤ 64) (hzs : z.cells.size = 1)
    (v : Value) (n : Nat) (xs : List Value) (hs : a.eval s = v) (hown : W.ownsRow base e 1 v n xs)
    (g : Nat) (u : Value) (hx : a.eval x = .slice (some ⟨g, 0, none⟩) 1 1) (hg : W.cell? ⟨g, 0, none⟩ = some u) (h1 : u.oneCell' = true) (hn : n < 2147483648) (hbase : base ≤ W.heap.size)
    (hK : ∀ g' cap w', w'.ownsRow base e 1 (.slice (some ⟨g', 0, none⟩) (n + 1) cap) (n + 1) (xs ++ [u]) → W.grownBy w' v.ownBlock → K (a.put o.dst (.slice (some ⟨g', 0, none⟩) (n + 1) cap)) w') :
    if Region.wanted o (yielded ops a.tmps) = true then Oper.wp P o a W K Q else E := by
  obtain ⟨i, hi, hz, hsz, hb⟩ := info_parts hinfo
  refine step_append_lies _ hgd s x t ho base e i z 1 bytes ht hi hz hsz hb hzs (by decide) v n xs hs hown ⟨g, 0, none⟩ 1 1 [u] hx rfl ?_ ?_ (by decide) ?_ ?_ hbase _ rfl ?_
  · intro j y hy
    match j, hy with
    | 0, hy => simp at hy; subst hy; simpa [Addr.add] using hg
  · intro y hy
    simp at hy; subst hy; exact h1
  · unfold maxLen; omega
  · have : (n + 1) * bytes ≤ 2147483648 * 64 := Nat.mul_le_mul (by omega) hby
    omega
  · intro g' cap w' h2 h3 _ _
    exact hK g' cap w' h2 h3

/-- the greatest of the first k + 1 elements -/
def maxTo (l : List Int) : Nat → Int
  | 0 => l.getD 0 0
  | k + 1 => max (maxTo l k) (l.getD (k + 1) 0)
def minTo (l : List Int) : Nat → Int
  | 0 => l.getD 0 0
  | k + 1 => min (minTo l k) (l.getD (k + 1) 0)


/-- the first place of x, -1 if it is nowhere -/
def indexF (l : List Int) (x : Int) (i : Nat) : Int := match l with
  | [] => -1
  | y :: l => if x = y then i else indexF l x (i + 1)
def noIdx (l : List Int) (x : Int) (k : Nat) : Prop := indexF l x 0 = indexF (l.drop k) x k
theorem noIdx_step {l : List Int} {x : Int} {k : Nat} (h : noIdx l x k) (hk : k < l.length) (hd : x ≠ l.getD k 0) : noIdx l x (k + 1) := by
  unfold noIdx at *
  rw [h, List.drop_eq_getElem_cons hk]
  simp only [indexF]
  rw [if_neg (by simpa [hk] using hd)]
theorem noIdx_hit {l : List Int} {x : Int} {k : Nat} (h : noIdx l x k) (hk : k < l.length) (hd : x = l.getD k 0) : indexF l x 0 = k := by
  unfold noIdx at *
  rw [h, List.drop_eq_getElem_cons hk]
  simp only [indexF]
  rw [if_pos (by simpa [hk] using hd)]
theorem noIdx_end {l : List Int} {x : Int} {k : Nat} (h : noIdx l x k) (hk : l.length ≤ k) : indexF l x 0 = -1 := by
  unfold noIdx at *
  rw [h, List.drop_of_length_le hk]; rfl



/-- the first k elements and the last k are exchanged -/
def turnTo (xs : List Int) (k : Nat) : List Int := (List.range xs.length).map fun i => if i < k ∨ xs.length < i + 1 + k then xs.getD (xs.length - 1 - i) 0 else xs.getD i 0
theorem turnTo_length (xs : List Int) (k : Nat) : (turnTo xs k).length = xs.length := by simp [turnTo]
theorem turnTo_zero (xs : List Int) : turnTo xs 0 = xs := by
  apply List.ext_getElem (by simp [turnTo])
  intro i h1 h2
  simp [turnTo, h2]; omega
theorem turnTo_get {xs : List Int} {k i : Nat} (h1 : k ≤ i) (h2 : i + 1 + k ≤ xs.length) : (turnTo xs k).getD i 0 = xs.getD i 0 := by
  have : i < xs.length := by omega
  simp [turnTo, this]; omega
theorem turnTo_all {xs : List Int} {k : Nat} (h : xs.length ≤ 2 * k + 1) : turnTo xs k = xs.reverse := by
  apply List.ext_getElem (by simp [turnTo])
  intro i h1 h2
  simp only [List.length_reverse] at h2
  simp only [turnTo, List.getElem_map, List.getElem_range, List.getElem_reverse]
  split
  · simp [show xs.length - 1 - i < xs.length by omega]
  · have : xs.length - 1 - i = i := by omega
    simp [h2, this]
theorem turnTo_step {xs : List Int} {k j : Nat} (h : k + j + 1 = xs.length) (hk : k < j) : ((ints (turnTo xs k)).set k (.int .i64 (xs.getD j 0))).set j (.int .i64 (xs.getD k 0)) = ints (turnTo xs (k + 1)) := by
  apply List.ext_getElem?
  intro i
  simp only [List.getElem?_set, List.length_set, List.length_map, turnTo_length, List.getElem?_map]
  by_cases hi : i < xs.length
  · simp only [turnTo, List.getElem?_map, List.getElem?_range hi, Option.map_some]
    by_cases h1 : j = i
    · subst h1
      rw [if_pos rfl, if_pos hi, if_pos (by omega)]
      rw [show xs.length - 1 - j = k by omega]
    · rw [if_neg h1]
      by_cases h2 : k = i
      · subst h2
        rw [if_pos rfl, if_pos hi, if_pos (by omega), show xs.length - 1 - k = j by omega]
      · rw [if_neg h2]
        by_cases h3 : i < k ∨ xs.length < i + 1 + k
        · rw [if_pos h3, if_pos (by omega)]
        · rw [if_neg h3, if_neg (by omega)]
  · have e1 : (turnTo xs k)[i]? = none := by rw [List.getElem?_eq_none_iff, turnTo_length]; omega
    have e2 : (turnTo xs (k + 1))[i]? = none := by rw [List.getElem?_eq_none_iff, turnTo_length]; omega
    rw [e1, e2]
    rw [if_neg (by omega), if_neg (by omega)]

theorem grownBy_trans {a b c : World} {row : Option Nat} (h : a.grownBy b row) (k : b.grownBy c row) : a.grownBy c row :=
  ⟨k.os.trans h.os, k.tape.trans h.tape, k.output.trans h.output, Nat.le_trans h.size k.size, fun i hi hne => (k.block i (Nat.lt_of_lt_of_le hi h.size) hne).trans (h.block i hi hne)⟩
theorem grownBy_drew {a b : World} {row : Option Nat} (h : a.grownBy b row) : a.grownBy b.drew row := ⟨h.os, h.tape, h.output, h.size, h.block⟩
end Go.Proofs.Ytdbgicfbigjmmaa
