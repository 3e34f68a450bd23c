/-
  Bases: the text of a base; decimal numbers up to 1000, by walks.
-/
import Derived.Test.YtflejjfkgkmcgaaGreatDoorBase
import Derived.Test.YtflejjfkgkmcgaaGreatDoorStrs
import Derived.Test.YtflejjfkgkmcgaaGreatDoorShelf
import Derived.Lib.SmallJoins
import Derived.Lib.ItoaNum
namespace Go.Proofs.YtflejjfkgkmcgaaGreatDoor
open Go.RowKit
set_option linter.unusedVariables false

/-- what is left of a number, and the digits that stand behind it -/
def decRel (n kk : Nat) (pre : List UInt8) : Prop := (if kk = 0 then [] else Lib.decDigits kk) ++ pre = Lib.decDigits n
theorem decRel_start {n : Nat} (h : 1 ≤ n) : decRel n n [] := by
  unfold decRel; rw [if_neg (by omega)]; simp
theorem decRel_step {n kk : Nat} {pre : List UInt8} (h : decRel n kk pre) (hk : kk ≠ 0) : decRel n (kk / 10) (UInt8.ofNat (48 + kk % 10) :: pre) := by
  unfold decRel at *
  rw [if_neg hk] at h
  rw [← h]
  by_cases h0 : kk < 10
  · rw [Lib.decDigits_one h0, show kk / 10 = 0 by omega, show kk % 10 = kk by omega]; simp
  · rw [if_neg (by omega)]
    conv => rhs; rw [Lib.decDigits, dif_neg h0]
    simp
theorem nd_le : ∀ (k n : Nat), n < 10 ^ (k + 1) → Lib.nDigits n ≤ k + 1
  | 0, n, h => by rw [Lib.nDigits_small (by simpa using h)]; omega
  | k + 1, n, h => by
    by_cases h0 : n < 10
    · rw [Lib.nDigits_small h0]; omega
    · rw [Lib.nDigits_big h0]
      have := nd_le k (n / 10) (by rw [Nat.pow_succ] at h; omega)
      omega
theorem dec_len {n : Nat} (h : n ≤ 1000) : (Lib.decDigits n).length ≤ 4 := by
  rw [Lib.decDigits_length]; exact nd_le 3 n (by omega)
theorem dec_pos (n : Nat) : 1 ≤ (Lib.decDigits n).length := by
  rw [Lib.decDigits_length]; exact Lib.nDigits_pos n
theorem decRel_len {n kk : Nat} {pre : List UInt8} (h : decRel n kk pre) (hn : n ≤ 1000) : pre.length ≤ 4 := by
  have h1 := congrArg List.length h
  have h2 := dec_len hn
  rw [List.length_append] at h1
  omega
theorem itoa_nat (n : Nat) : Lib.itoa (n : Int) = Lib.decDigits n := by
  unfold Lib.itoa; rw [if_neg (by omega)]; simp

theorem owns_one {w : World} {base g : Nat} {e : TypeId} (u : Value) (hg : g = w.heap.size) (hb : base ≤ g) : (w.alloc (.cells #[u] e)).ownsRow base e 1 (.slice (some ⟨g, 0, none⟩) 1 1) 1 [u] := by
  subst hg
  exact ⟨by simp, .inr ⟨w.heap.size, 1, #[u], rfl, hb, heap_alloc_new w _, Nat.le_refl _, by unfold maxLen; omega, by simp, by simp⟩⟩
theorem rv_add {W : World} {b o n c : Nat} {vs : List Value} (hr : RV W (some ⟨b, o, none⟩) n c vs) : ∀ j v, vs[j]? = some v → W.cell? ((⟨b, o, none⟩ : Addr).add j) = some v := by
  intro j v hv
  have hj : j < vs.length := (List.getElem?_eq_some_iff.1 hv).1
  have hl := hr.1
  obtain ⟨b', o', ha, _, hc⟩ := hr.cellv (by omega)
  simp only [Option.some.injEq, Addr.mk.injEq, and_true] at ha
  obtain ⟨rfl, rfl⟩ := ha
  have h0 := hc j v hv
  simp only [Addr.add]
  split
  · next hz => simpa [hz] using h0
  · exact h0
theorem wpList_appM {P : Program} {W : World} {ops : Array Oper} {rest : List Oper} {o : Oper} {a : Act} {Q : Exit → Act → World → Prop} (hgd : o.guard = none) (s x : Operand) (t : TypeId)
    (ho : o.op = .call { callee := .builtin .append, args := #[s, x], argTypes := #[t, t] })
    (base : Nat) (e : TypeId) (z : Value) (bytes : Nat) (ht : P.underlying t = some (.slice e)) (hinfo : (P.info? e).map (fun i => (i.zero, i.size, i.bytes)) = some (some z, 1, bytes)) (hby : bytes ≤ 64) (hzs : z.cells.size = 1)
    (v : Value) (n : Nat) (xs : List Value) (hs : a.eval s = v) (hown : W.ownsRow base e 1 v n xs)
    (ad : Addr) (m c : Nat) (news : List Value) (hx : a.eval x = .slice (some ad) m c) (hl : news.length = m) (hnews : ∀ j u, news[j]? = some u → W.cell? (ad.add j) = some u) (h1 : ∀ u ∈ news, u.oneCell' = true) (hn : n + m < 2147483648) (hbase : base ≤ W.heap.size)
    (hK : ∀ v' w', w'.ownsRow base e 1 v' (n + m) (xs ++ news) → W.grownBy w' v.ownBlock → wpList P ops Q rest (a.put o.dst v') w') : wpList P ops Q (o :: rest) a W := by
  obtain ⟨i, hi, hz, hsz, hb⟩ := info_parts hinfo
  refine wpList_append_own _ hgd s x t ho base e i z 1 bytes ht hi hz hsz hb hzs (by decide) v n xs hs hown ad m c news hx (by omega) hnews h1 ?_ ?_ hbase ?_
  · unfold maxLen; omega
  · have : (n + m) * bytes ≤ 2147483648 * 64 := Nat.mul_le_mul (by omega) hby
    omega
  · intro v' w' h2 h3 _
    exact hK v' w' h2 h3
end Go.Proofs.YtflejjfkgkmcgaaGreatDoor
