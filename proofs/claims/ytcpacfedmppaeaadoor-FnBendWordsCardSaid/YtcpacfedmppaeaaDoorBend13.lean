/-
  Bends: the words of locked borders, by walks.
-/
import Derived.Test.YtcpacfedmppaeaaDoorBend12
import Derived.Test.YtcpacfedmppaeaaDoorBend8
import Derived.Maps.AppendAt
namespace Go.Proofs.YtcpacfedmppaeaaDoor
open Go.RowKit
set_option linter.unusedVariables false

theorem wpList_app1_at {P : Program} {W : World} {ops : Array Oper} {rest : List Oper} {o : Oper} {a : Act} {Q : Exit → Act → World → Prop} (hgd : o.guard = none) (s x : Operand) (t : TypeId)
    (ho : o.op = .call { callee := .builtin .append, args := #[s, x], argTypes := #[t, t] })
    (base : Nat) (e : TypeId) (z : Value) (bytes : Nat) (ht : P.underlying t = some (.slice e)) (hinfo : (P.info? e).map (fun i => (i.zero, i.size, i.bytes)) = some (some z, 1, bytes)) (hby : bytes ≤ 64) (hzs : z.cells.size = 1)
    (v : Value) (n : Nat) (xs : List Value) (hs : a.eval s = v) (hown : W.ownsRow base e 1 v n xs)
    (g : Nat) (u : Value) (hx : a.eval x = .slice (some ⟨g, 0, none⟩) 1 1) (hg : W.cell? ⟨g, 0, none⟩ = some u) (h1 : u.oneCell' = true) (hn : n < 2147483648) (hbase : base ≤ W.heap.size)
    (hK : ∀ v' w', w'.ownsRow base e 1 v' (n + 1) (xs ++ [u]) → W.grownBy w' v.ownBlock → (v'.ownBlock = v.ownBlock ∨ v'.ownBlock = some W.heap.size) → wpList P ops Q rest (a.put o.dst v') w') : wpList P ops Q (o :: rest) a W := by
  obtain ⟨i, hi, hz, hsz, hb⟩ := info_parts hinfo
  refine wpList_append_own_at _ hgd s x t ho base e i z 1 bytes ht hi hz hsz hb hzs (by decide) v n xs hs hown ⟨g, 0, none⟩ 1 1 [u] hx rfl ?_ ?_ ?_ ?_ hbase ?_
  · intro j y hy
    match j, hy with
    | 0, hy => simp at hy; subst hy; simpa [Addr.add] using hg
  · intro y hy
    simp at hy; subst hy; exact h1
  · unfold maxLen; omega
  · have : (n + 1) * bytes ≤ 2147483648 * 64 := Nat.mul_le_mul (by omega) hby
    omega
  · intro v' w' h2 h3 _ h5
    exact hK v' w' h2 h3 h5

/-- the words that stay locked -/
def lockTo (L : List (List UInt8)) (N k : Nat) : List (List UInt8) := (L.take k).filter fun l => (outW l N).length == 1
theorem lockTo_step (L : List (List UInt8)) (N : Nat) {k : Nat} (h : k < L.length) : lockTo L N (k + 1) = lockTo L N k ++ (if (outW (L.getD k []) N).length == 1 then [L.getD k []] else []) := by
  unfold lockTo
  rw [take_snocB (d := []) h, List.filter_append]
  congr 1
  by_cases h2 : ((outW (L.getD k []) N).length == 1) = true <;> simp only [List.filter, h2]
  · rfl
  · simp
def lockR2 (n st : Int) : List (List UInt8) × Int :=
  if inB n 1 8 && inB st (n + 2) 40 then (lockTo (listTo n.toNat (2 ^ n.toNat)) st.toNat (listTo n.toNat (2 ^ n.toNat)).length, 0) else ([], 2)
theorem list_le {n : Nat} (h : n ≤ 8) : (listTo n (2 ^ n)).length ≤ 256 := by
  have h3 := listTo_len n (2 ^ n)
  have h4 : 2 ^ n ≤ 2 ^ 8 := pow_le h
  omega
theorem lockTo_le (L : List (List UInt8)) (N k : Nat) : (lockTo L N k).length ≤ L.length := by
  unfold lockTo
  exact Nat.le_trans (List.length_filter_le _ _) (by simp; omega)
theorem lockR2_len (n st : Int) : (lockR2 n st).1.length ≤ 256 := by
  unfold lockR2
  split
  · next h =>
    rw [Bool.and_eq_true] at h
    have h2 := inB_iff.1 h.1
    exact Nat.le_trans (lockTo_le _ _ _) (list_le (by omega))
  · simp

set_option maxHeartbeats 4000000 in
theorem specLockedWords_any (n st : Int) (w : World) (hnb : -9223372036854775808 ≤ n ∧ n ≤ 9223372036854775807) :
    Calls Tryd.prog 29 #[.int .i64 n, .int .i64 st] w fun e w' => RetS w 9 (lockR2 n st) e w' := by
  cases h : inB n 1 8
  · rw [show lockR2 n st = ([], 2) by simp [lockR2, h]]
    go_enter Tryd.func29, Tryd.ntmps29
    go_wp2_with (go_at_call 44; refine (l00In_any _ _ _ _).mono ?_; rintro e w2 ⟨rfl, rfl⟩)
    go_ret2
    exact ⟨_, rfl, Own.nil _ _ _ _, Below.refl _ _⟩
  · have h2 := inB_iff.1 h
    cases h3 : inB st (n + 2) 40
    · rw [show lockR2 n st = ([], 2) by simp [lockR2, h3]]
      go_enter Tryd.func29, Tryd.ntmps29
      go_wp2_with (go_at_call 44; refine (l00In_any _ _ _ _).mono ?_; rintro e w2 ⟨rfl, rfl⟩)
      go_ret2
      exact ⟨_, rfl, Own.nil _ _ _ _, Below.refl _ _⟩
    · have h4 := inB_iff.1 h3
      obtain ⟨m, rfl⟩ : ∃ m : Nat, n = (m : Int) := ⟨n.toNat, by omega⟩
      obtain ⟨N, rfl⟩ : ∃ N : Nat, st = (N : Int) := ⟨st.toNat, by omega⟩
      have hR : lockR2 m N = (lockTo (listTo m (2 ^ m)) N (listTo m (2 ^ m)).length, 0) := by
        rw [lockR2, h, h3]
        simp only [Bool.and_self, if_true, Int.toNat_natCast]
      rw [hR]
      have Hl := Lib.hid (fun W => l11List_any m W (by omega))
      have hL8 := list_le (n := m) (by omega)
      have Hmem := Lib.hid (fun l (hl : l ∈ listTo m (2 ^ m)) => show l.length = m by
        obtain ⟨set, _, rfl, _⟩ := listTo_mem hl
        exact wordTo_len _ _ _)
      obtain ⟨L, HL⟩ : ∃ L, Hid (L = listTo m (2 ^ m)) := ⟨_, rfl⟩
      rw [← HL.out] at Hl hL8 Hmem ⊢
      obtain ⟨K, hK⟩ : ∃ K, L.length = K := ⟨_, rfl⟩
      have HK := Lib.hid hK
      rw [hK] at hL8 ⊢
      clear hR hK
      go_enter Tryd.func29, Tryd.ntmps29
      go_wp2_with (first | (go_at_call 44; refine (l00In_any _ _ _ _).mono ?_; rintro e w2 ⟨rfl, rfl⟩) | (go_at_call 52; refine (Hl.out _).mono ?_; rintro e w1 ⟨v, rfl, ho, hb⟩; obtain ⟨aL, cL, rfl, hrL⟩ := ho.sliceS; have HrL := Lib.hid hrL; have Hb1 := Lib.hid hb; clear ho hb hrL))
      rw [HK.out] at HrL ⊢
      go_loopw [7, 8] (fun v i wr => ∃ k : Nat, k ≤ K ∧ i = .int .i64 k ∧ ∃ pre : List (List UInt8), Hid (pre = lockTo L N k) ∧ pre.length ≤ k ∧ (∃ a c, v = .slice a pre.length c) ∧ Hid (wr.ownsRow w1.heap.size 9 1 v pre.length (strs pre)) ∧ Hid (Below w1.heap.size w1 wr)) (fun _ i _ => K - (intOf i).toNat)
      case atStart => exact ⟨0, Nat.zero_le _, rfl, [], Lib.hid rfl, by simp, ⟨_, _, rfl⟩, Lib.hid (owns_empty rfl (Nat.le_refl _)), Lib.hid ((Below.refl _ _).alloc (Nat.le_refl _) _)⟩
      case round =>
        obtain ⟨k, hk, rfl, pre, Hp, hpl, ⟨a1, c1, rfl⟩, Hown, Hb⟩ := hrel
        by_cases hlt : k < K
        · have Ha' : RV wr aL K cL (strs L) := HrL.out.below Hb.out
          obtain ⟨b1, o1, rfl, hb1, hc1⟩ := Ha'.cellv (by omega)
          have hkL : k < L.length := by rw [HK.out]; exact hlt
          have e1 := hc1 k _ (strs_get hkL)
          have Hst := Lib.hid (lockTo_step L N hkL)
          obtain ⟨l, hl⟩ : ∃ l, L.getD k [] = l := ⟨_, rfl⟩
          rw [hl] at e1 Hst
          have hlm := Hmem.out l (by rw [← hl]; simp [hkL])
          obtain ⟨S, hS⟩ : ∃ S, str l = S := ⟨_, rfl⟩
          have hSl : S.data.toList = l := by rw [← hS, str_list]
          have hSs : S.size = m := by rw [← hS, str_size]; exact hlm
          rw [hS] at e1
          have HS := Lib.hid hS
          obtain ⟨d, hd⟩ : ∃ d, (outW l N).length = d := ⟨_, rfl⟩
          have Hout := Lib.hid (fun g W hc hg => by
            have h := l11Out_any S N g W (by omega) (by omega) hc hg
            rw [hSl] at h
            exact h)
          have Hd := Lib.hid hd
          have hki : (k : Int) < K := by omega
          have hszr := Hb.out.size
          rw [hd] at Hst
          clear hc1 hl hSl hS hkL hd hlm Ha'
          by_cases hd1 : d = 1
          · have t1 : ((d : Int) == 1) = true := by simp [hd1]
            have t1' : (d == 1) = true := by simp [hd1]
            rw [t1', if_pos rfl] at Hst
            clear hd1
            go_wp2_with (first | (go_at_call 41; refine (Hout.out wr.heap.size (wr.alloc (.cells #[.int .i64 0] 2)) (cell_boxed rfl) (by simp)).mono ?_; rintro e w3 ⟨v, rfl, ho, hb3⟩; have Hb3 := Lib.hid (bstep ((Below.refl wr.heap.size wr).alloc (Nat.le_refl _) _) hb3 (by first | exact Nat.le_refl _ | simp)); have hc3 := (Hb3.out.cell (p := ⟨b1, o1 + k, none⟩) hb1).trans e1; obtain ⟨a2, c2, rfl, hr2⟩ := ho.sliceI; rw [Hd.out]; clear hr2 ho hb3; have hown3 := owns_below Hown.out Hb3.out; have hsz3 := Hb3.out.size) | (at_builtin; refine wpList_app1 rfl _ _ 37 rfl w1.heap.size 9 _ 16 Tryd.underlying37 info_str (by decide) rfl _ pre.length _ rfl (hown3.alloc _) w3.heap.size (.string S) rfl ?c1 rfl ?c2 ?c3 ?_))
            case c1 => exact cell_boxed rfl
            case c2 => omega
            case c3 => first | omega | (simp; omega)
            intro v5 w5 hown5 hgrow5
            have Hb5 := Lib.hid (below_app ((bstep Hb.out Hb3.out (Nat.le_refl _)).alloc (by omega) _) (hown3.alloc _) hgrow5 (Nat.le_refl _) (by simp; omega))
            have Hown5 := Lib.hid hown5
            obtain ⟨a5, c5, rfl⟩ := owns_slice hown5
            clear hown3 hgrow5 hown5
            go_wp2
            go_roundw
            case rel => exact ⟨k + 1, by omega, by go_num, pre ++ [l], Lib.hid (by rw [Hst.out, Hp.out]), by simp; omega, ⟨a5, c5, by simp⟩, Lib.hid (by simpa [HS.out] using Hown5.out), Hb5⟩
            case measure => simp [intOf]; omega
          · have t1 : ((d : Int) == 1) = false := by simp; omega
            have t1' : (d == 1) = false := by simp [hd1]
            rw [t1'] at Hst
            clear hd1
            go_wp2_with (go_at_call 41; refine (Hout.out wr.heap.size (wr.alloc (.cells #[.int .i64 0] 2)) (cell_boxed rfl) (by simp)).mono ?_; rintro e w3 ⟨v, rfl, ho, hb3⟩; have Hb3 := Lib.hid (bstep ((Below.refl wr.heap.size wr).alloc (Nat.le_refl _) _) hb3 (by first | exact Nat.le_refl _ | simp)); obtain ⟨a2, c2, rfl, hr2⟩ := ho.sliceI; rw [Hd.out]; clear hr2 ho hb3)
            go_roundw
            case rel => exact ⟨k + 1, by omega, by go_num, pre, Lib.hid (by rw [Hst.out, Hp.out]; simp), by omega, ⟨_, _, rfl⟩, Lib.hid (owns_below Hown.out Hb3.out), Lib.hid (bstep Hb.out Hb3.out (Nat.le_refl _))⟩
            case measure => simp [intOf]; omega
        · have Hf := Lib.hid (show pre = lockTo L N K by rw [Hp.out, show k = K by omega])
          go_wp2
          go_ret2
          have e1 := Hf.out
          subst e1
          exact ⟨_, rfl, (Own.of (by simpa using Hown.out)).mono Hb1.out.size (Nat.le_refl _), bstep Hb1.out Hb.out (Nat.le_refl _)⟩
end Go.Proofs.YtcpacfedmppaeaaDoor
