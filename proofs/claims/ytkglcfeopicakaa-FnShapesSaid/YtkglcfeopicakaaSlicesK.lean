/-
  Functions of Go's library over []int64: Max, Min, Index, Clone, Reverse.
-/
import Derived.Test.YtkglcfeopicakaaLists
import Derived.Deep.AppendLies
import Derived.Deep.RegionLaw
namespace Go.Proofs.Ytkglcfeopicakaa
open Go.RowKit
set_option linter.unusedVariables false

/-- an append of one element, at a step of a region that draws its order -/
theorem step_app1 {P : Program} {W : World} {ops : Array Oper} {o : Oper} {a : Act} {K : Act → World → Prop} {Q : Exit → Act → World → Prop} {E : Prop} (hgd : o.guard = none) (s x : Operand) (t : TypeId)
    (ho : o.op = .call { callee := .builtin .append, args := #[s, x], argTypes := #[t, t] })
    (base : Nat) (e : TypeId) (z : Value) (bytes : Nat) (ht : P.underlying t = some (.slice e)) (hinfo : (P.info? e).map (fun i => (i.zero, i.size, i.bytes)) = some (some z, 1, bytes)) (hby : bytes ≤ 64) (hzs : z.cells.size = 1)
    (v : Value) (n : Nat) (xs : List Value) (hs : a.eval s = v) (hown : W.ownsRow base e 1 v n xs)
    (g : Nat) (u : Value) (hx : a.eval x = .slice (some ⟨g, 0, none⟩) 1 1) (hg : W.cell? ⟨g, 0, none⟩ = some u) (h1 : u.oneCell' = true) (hn : n < 2147483648) (hbase : base ≤ W.heap.size)
    (hK : ∀ g' cap w', w'.ownsRow base e 1 (.slice (some ⟨g', 0, none⟩) (n + 1) cap) (n + 1) (xs ++ [u]) → W.grownBy w' v.ownBlock → K (a.put o.dst (.slice (some ⟨g', 0, none⟩) (n + 1) cap)) w') :
    if Region.wanted o (yielded ops a.tmps) = true then Oper.wp P o a W K Q else E := by
  obtain ⟨i, hi, hz, hsz, hb⟩ := info_parts hinfo
  refine step_append_lies _ hgd s x t ho base e i z 1 bytes ht hi hz hsz hb hzs (by decide) v n xs hs hown ⟨g, 0, none⟩ 1 1 [u] hx rfl ?_ ?_ (by decide) ?_ ?_ hbase _ rfl ?_
  · intro j y hy
    match j, hy with
    | 0, hy => simp at hy; subst hy; simpa [Addr.add] using hg
  · intro y hy
    simp at hy; subst hy; exact h1
  · unfold maxLen; omega
  · have : (n + 1) * bytes ≤ 2147483648 * 64 := Nat.mul_le_mul (by omega) hby
    omega
  · intro g' cap w' h2 h3 _ _
    exact hK g' cap w' h2 h3

/-- the greatest of the first k + 1 elements -/
def maxTo (l : List Int) : Nat → Int
  | 0 => l.getD 0 0
  | k + 1 => max (maxTo l k) (l.getD (k + 1) 0)
def minTo (l : List Int) : Nat → Int
  | 0 => l.getD 0 0
  | k + 1 => min (minTo l k) (l.getD (k + 1) 0)

theorem slMax_any (a : Option Addr) (n c : Nat) (xs : List Int) (w : World) (hn : 1 ≤ n) (ha : RV w a n c (ints xs)) :
    Calls Try.prog 40 #[.slice a n c] w fun e w' => e = .returned (.int .i64 (maxTo xs (n - 1))) ∧ w = w' := by
  have hm := ha.small
  obtain ⟨b, o, rfl, hb, hc⟩ := ha.cell (by omega)
  have e0 : w.cell? ⟨b, o, none⟩ = some (.int .i64 (xs.getD 0 0)) := hc 0 (by omega)
  have Hc := Lib.hid hc
  clear hc ha
  have hn' : decide ((n : Int) < 1) = false := by simp; omega
  go_enter Try.func40, Try.ntmps40
  go_wp2
  go_loop [3, 4] (fun q i => ∃ k j : Nat, Hid (k = j + 1) ∧ k ≤ n ∧ i = .int .i64 k ∧ q = .int .i64 (maxTo xs j)) (fun _ i => n - (intOf i).toNat)
  case atStart => exact ⟨1, 0, rfl, by omega, rfl, rfl⟩
  case round =>
    obtain ⟨k, j, Hkj, hk, rfl, rfl⟩ := hrel
    by_cases hlt : k < n
    · have e1 := Hc.out k hlt
      have Hs := Lib.hid (show maxTo xs (j + 1) = max (maxTo xs j) (xs.getD (j + 1) 0) from rfl)
      go_wp2
      go_round
      case rel => exact ⟨k + 1, j + 1, by have := Hkj.out; exact Lib.hid (by omega), by omega, by go_num, by rw [Hs.out, ← Hkj.out, List.getD_eq_getElem?_getD]⟩
      case measure => simp [intOf]; omega
    · go_wp2
      go_ret
      exact ⟨ret_int (by rw [show n - 1 = j by have := Hkj.out; omega]), rfl⟩

/-- the first place of x, -1 if it is nowhere -/
def indexF (l : List Int) (x : Int) (i : Nat) : Int := match l with
  | [] => -1
  | y :: l => if x = y then i else indexF l x (i + 1)
def noIdx (l : List Int) (x : Int) (k : Nat) : Prop := indexF l x 0 = indexF (l.drop k) x k
theorem noIdx_step {l : List Int} {x : Int} {k : Nat} (h : noIdx l x k) (hk : k < l.length) (hd : x ≠ l.getD k 0) : noIdx l x (k + 1) := by
  unfold noIdx at *
  rw [h, List.drop_eq_getElem_cons hk]
  simp only [indexF]
  rw [if_neg (by simpa [hk] using hd)]
theorem noIdx_hit {l : List Int} {x : Int} {k : Nat} (h : noIdx l x k) (hk : k < l.length) (hd : x = l.getD k 0) : indexF l x 0 = k := by
  unfold noIdx at *
  rw [h, List.drop_eq_getElem_cons hk]
  simp only [indexF]
  rw [if_pos (by simpa [hk] using hd)]
theorem noIdx_end {l : List Int} {x : Int} {k : Nat} (h : noIdx l x k) (hk : l.length ≤ k) : indexF l x 0 = -1 := by
  unfold noIdx at *
  rw [h, List.drop_of_length_le hk]; rfl

theorem slIndex_any (a : Option Addr) (n c : Nat) (xs : List Int) (x : Int) (w : World) (ha : RV w a n c (ints xs)) :
    Calls Try.prog 31 #[.slice a n c, .int .i64 x] w fun e w' => e = .returned (.int .i64 (indexF xs x 0)) ∧ w = w' := by
  have hm := ha.small
  have Hl := Lib.hid ha.lenI
  have Ha := Lib.hid ha
  clear ha
  go_enter Try.func31, Try.ntmps31
  go_wp2
  go_loop [8] (fun i => ∃ k : Nat, k ≤ n ∧ i = .int .i64 k ∧ Hid (noIdx xs x k)) (fun i => n - (intOf i).toNat)
  case atStart => exact ⟨0, Nat.zero_le _, rfl, rfl⟩
  case round =>
    obtain ⟨k, hk, rfl, hR⟩ := hrel
    by_cases hlt : k < n
    · obtain ⟨b, o, y, rfl, hb, hy, Hy⟩ := Ha.out.at hlt
      have Hkl := Lib.hid (show k < xs.length by have := Hl.out; omega)
      by_cases hxy : x = y
      · have hd : (x == y) = true := by simpa using hxy
        have Hr := Lib.hid (noIdx_hit hR.out Hkl.out (hxy.trans Hy.out))
        have Hxy := Lib.hid hxy
        clear hxy
        go_wp2
        go_ret
        exact ⟨ret_int (by rw [Hr.out]), rfl⟩
      · have hd : (x == y) = false := by simpa using hxy
        go_wp2
        go_round
        case rel => exact ⟨k + 1, by omega, by go_num, Lib.hid (noIdx_step hR.out Hkl.out (by rw [← Hy.out]; exact hxy))⟩
        case measure => simp [intOf]; omega
    · go_wp2
      go_ret
      exact ⟨ret_int (by rw [noIdx_end hR.out (by have := Hl.out; omega)]), rfl⟩

theorem slClone_any (a : Option Addr) (n c : Nat) (xs : List Int) (w : World) (hn : 1 ≤ n) (hn' : n ≤ 2147483648) (ha : RV w a n c (ints xs)) :
    Calls Try.prog 38 #[.slice a n c] w fun e w' => ∃ v : Value, e = .returned v ∧ Own w' w.heap.size w'.heap.size 2 v (ints xs) ∧ Below w.heap.size w w' := by
  obtain ⟨b, o, rfl, hb, hc⟩ := ha.cell (by omega)
  have Hc := Lib.hid hc
  have Hl := Lib.hid ha.lenI
  have Hb := Lib.hid hb
  clear hc ha hb
  have hnil := fun W => Lib.run_eql_slice_nil (P := Try.prog) W 24 2 (some ⟨b, o, none⟩) n c 0 0 Try.underlying24
  obtain ⟨i0, hi, hz, hsz, hby⟩ := info_parts info_i64
  have HL := Lib.hid (show (ints xs).length = n by simpa using Hl.out)
  go_enter Try.func38, Try.ntmps38
  go_wp2_with (at_builtin; refine wpList_append_own _ rfl _ _ 24 rfl w.heap.size 2 i0 _ 1 8 Try.underlying24 hi hz hsz hby rfl (by decide) _ 0 [] rfl ?c0 ⟨b, o, none⟩ n c (ints xs) rfl ?c1 ?c2 ?c3 ?c4 ?c5 ?_ ?_)
  case c0 => exact owns_empty rfl (Nat.le_refl _)
  case c1 => simpa using HL.out
  case c2 =>
    intro j u hu
    have hj : j < n := by
      have := (List.getElem?_eq_some_iff.1 hu).1
      have := HL.out
      omega
    have h1 := ((Below.refl w.heap.size w).alloc (Nat.le_refl _) (.cells #[] 2)).cell (p := ⟨b, o + j, none⟩) Hb.out
    have hadd : (⟨b, o, none⟩ : Addr).add j = ⟨b, o + j, none⟩ := by
      simp only [Addr.add]; split
      · next h => subst h; rfl
      · rfl
    rw [hadd]
    refine h1.trans ((Hc.out j hj).trans ?_)
    rw [← hu]
    simp [hj, Hl.out]
  case c3 =>
    intro u hu
    obtain ⟨x, _, rfl⟩ := List.mem_map.1 hu
    rfl
  case c4 => unfold maxLen; omega
  case c5 => omega
  · simp
  · intro v' w' hown hg _
    have hbl : Below w.heap.size w w' := ((Below.refl _ _).alloc (Nat.le_refl _) _).grown hg (by simp) (fun k hk => by simp [Value.ownBlock] at hk; omega)
    have Hown := Lib.hid hown
    clear hown hg
    go_wp2
    go_ret
    exact ⟨_, rfl, Own.of Hown.out, hbl⟩

/-- the first k elements and the last k are exchanged -/
def turnTo (xs : List Int) (k : Nat) : List Int := (List.range xs.length).map fun i => if i < k ∨ xs.length < i + 1 + k then xs.getD (xs.length - 1 - i) 0 else xs.getD i 0
theorem turnTo_length (xs : List Int) (k : Nat) : (turnTo xs k).length = xs.length := by simp [turnTo]
theorem turnTo_zero (xs : List Int) : turnTo xs 0 = xs := by
  apply List.ext_getElem (by simp [turnTo])
  intro i h1 h2
  simp [turnTo, h2]; omega
theorem turnTo_get {xs : List Int} {k i : Nat} (h1 : k ≤ i) (h2 : i + 1 + k ≤ xs.length) : (turnTo xs k).getD i 0 = xs.getD i 0 := by
  have : i < xs.length := by omega
  simp [turnTo, this]; omega
theorem turnTo_all {xs : List Int} {k : Nat} (h : xs.length ≤ 2 * k + 1) : turnTo xs k = xs.reverse := by
  apply List.ext_getElem (by simp [turnTo])
  intro i h1 h2
  simp only [List.length_reverse] at h2
  simp only [turnTo, List.getElem_map, List.getElem_range, List.getElem_reverse]
  split
  · simp [show xs.length - 1 - i < xs.length by omega]
  · have : xs.length - 1 - i = i := by omega
    simp [h2, this]
theorem turnTo_step {xs : List Int} {k j : Nat} (h : k + j + 1 = xs.length) (hk : k < j) : ((ints (turnTo xs k)).set k (.int .i64 (xs.getD j 0))).set j (.int .i64 (xs.getD k 0)) = ints (turnTo xs (k + 1)) := by
  apply List.ext_getElem?
  intro i
  simp only [List.getElem?_set, List.length_set, List.length_map, turnTo_length, List.getElem?_map]
  by_cases hi : i < xs.length
  · simp only [turnTo, List.getElem?_map, List.getElem?_range hi, Option.map_some]
    by_cases h1 : j = i
    · subst h1
      rw [if_pos rfl, if_pos hi, if_pos (by omega)]
      rw [show xs.length - 1 - j = k by omega]
    · rw [if_neg h1]
      by_cases h2 : k = i
      · subst h2
        rw [if_pos rfl, if_pos hi, if_pos (by omega), show xs.length - 1 - k = j by omega]
      · rw [if_neg h2]
        by_cases h3 : i < k ∨ xs.length < i + 1 + k
        · rw [if_pos h3, if_pos (by omega)]
        · rw [if_neg h3, if_neg (by omega)]
  · have e1 : (turnTo xs k)[i]? = none := by rw [List.getElem?_eq_none_iff, turnTo_length]; omega
    have e2 : (turnTo xs (k + 1))[i]? = none := by rw [List.getElem?_eq_none_iff, turnTo_length]; omega
    rw [e1, e2]
    rw [if_neg (by omega), if_neg (by omega)]

theorem grownBy_trans {a b c : World} {row : Option Nat} (h : a.grownBy b row) (k : b.grownBy c row) : a.grownBy c row :=
  ⟨k.os.trans h.os, k.tape.trans h.tape, k.output.trans h.output, Nat.le_trans h.size k.size, fun i hi hne => (k.block i (Nat.lt_of_lt_of_le hi h.size) hne).trans (h.block i hi hne)⟩
theorem grownBy_drew {a b : World} {row : Option Nat} (h : a.grownBy b row) : a.grownBy b.drew row := ⟨h.os, h.tape, h.output, h.size, h.block⟩
set_option maxHeartbeats 1000000 in
theorem slReverse_any (v : Value) (xs : List Int) (lo hi : Nat) (w : World) (h1 : 1 ≤ xs.length) (h2 : xs.length ≤ 2147483648) (ho : Own w lo hi 2 v (ints xs)) :
    Calls Try.prog 39 #[v] w fun e w' => e = .returned (.tuple #[]) ∧ Own w' lo hi 2 v (ints xs.reverse) ∧ w.grownBy w' v.ownBlock := by
  rcases ho.1.2 with ⟨rfl, h0⟩ | ⟨g, cap, cur, rfl, hg⟩
  · simp at h0; subst h0; simp at h1
  · clear hg
    generalize hn : xs.length = n at *
    have Hn := Lib.hid hn
    have hO := ho.1
    have hO2 : ∀ k, Value.ownBlock (.slice (some ⟨g, 0, none⟩) (ints xs).length cap) = some k → k < hi := ho.2
    simp only [List.length_map, hn] at hO hO2 ⊢
    clear hn ho
    have HO := Lib.hid hO2
    clear hO2
    go_enter Try.func39, Try.ntmps39
    go_wp2
    go_loopw [2, 3] (fun i j wr => ∃ k q : Nat, i = .int .i64 k ∧ j = .int .i64 q ∧ Hid (k + q + 1 = n) ∧ k ≤ q + 1 ∧ wr.ownsRow lo 2 1 (.slice (some ⟨g, 0, none⟩) n cap) n (ints (turnTo xs k)) ∧ w.grownBy wr (some g)) (fun i _ _ => n - (intOf i).toNat)
    case atStart => exact ⟨0, n - 1, rfl, by go_num, Lib.hid (by omega), by omega, by rw [turnTo_zero]; exact hO, World.grownBy.refl _ _⟩
    case round =>
      obtain ⟨k, q, rfl, rfl, Hkq, hkq, hown, hgr⟩ := hrel
      by_cases hlt : k < q
      · have hq : q < n := by have := Hkq.out; omega
        have hT : ∀ i, i < n → k ≤ i → i + 1 + k ≤ n → wr.cell? ⟨g, i, none⟩ = some (.int .i64 (xs.getD i 0)) := by
          intro i hi h3 h4
          have h5 := hown.cellAt i (by omega)
          have h6 := turnTo_get (xs := xs) (k := k) (i := i) h3 (by have := Hn.out; omega)
          have h7 : i < (turnTo xs k).length := by rw [turnTo_length]; have := Hn.out; omega
          rw [h5, List.getElem?_map, List.getElem?_eq_getElem h7]
          rw [← h6]
          simp [h7]
        have e1 := hT k (by omega) (Nat.le_refl _) (by have := Hkq.out; omega)
        have e2 := hT q hq (by omega) (by have := Hkq.out; omega)
        have f1 := hown.frozenAt k
        have f2 := hown.frozenAt q
        have hs1 := hown.stored k (.int .i64 (xs.getD q 0))
        have hs2 := hs1.1.stored q (.int .i64 (xs.getD k 0))
        rw [turnTo_step (by have := Hn.out; have := Hkq.out; omega) hlt] at hs2
        have Hs := Lib.hid hs2
        have Hs1 := Lib.hid hs1.2
        have Hg := Lib.hid hgr
        clear hs1 hs2 hT hown hgr
        have hne : k ≠ q := by omega
        have hne' : q ≠ k := by omega
        generalize xs.getD k 0 = u at *
        generalize xs.getD q 0 = v at *
        go_wp2
        go_region
        go_wp2
        go_roundw
        case rel =>
          have h2 := Hs.out.2
          have h3 := Hs1.out
          have hl0 := Hg.out
          refine ⟨k + 1, q - 1, by go_num, by go_num, Lib.hid (by have := Hkq.out; omega), by omega, Hs.out.1, ?_⟩
          exact grownBy_drew (grownBy_trans (grownBy_trans hl0 h3) h2)
        case measure => simp [intOf]; omega
      · have hfin : turnTo xs k = xs.reverse := turnTo_all (by have := Hn.out; have := Hkq.out; omega)
        rw [hfin] at hown
        have Hown := Lib.hid hown
        have Hg := Lib.hid hgr
        clear hown hgr
        go_wp2
        go_end0
        have hl : (ints xs.reverse).length = n := by simpa using Hn.out
        exact ⟨rfl, ⟨by rw [hl]; exact Hown.out, HO.out⟩, Hg.out⟩
end Go.Proofs.Ytkglcfeopicakaa
