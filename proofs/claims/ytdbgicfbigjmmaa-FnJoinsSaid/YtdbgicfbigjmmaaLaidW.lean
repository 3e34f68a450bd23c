/-
  The reference's search for an order of rods: walks.
-/
import Derived.Test.YtdbgicfbigjmmaaLaidSearch
import Derived.Test.YtdbgicfbigjmmaaRegTail
import Derived.Test.YtdbgicfbigjmmaaSlicesK
namespace Go.Proofs.Ytdbgicfbigjmmaa
open Go.RowKit
set_option linter.unusedVariables false

/-- a copy: it lies in a block of its own -/
theorem l00Own_any (a : Option Addr) (n c : Nat) (xs : List Int) (w : World) (hn : n ≤ 1000000) (hnil : a = none → n = 0 ∧ c = 0) (ha : RV w a n c (ints xs)) :
    Calls Try.prog 29 #[.slice a n c] w fun e w' => ∃ v : Value, e = .returned v ∧ Own w' w.heap.size w'.heap.size 2 v (ints xs) ∧ Below w.heap.size w w' := by
  have hown := owns_empty (w := w) (e := 2) (size := 1) rfl (Nat.le_refl _)
  have ha2 : RV (w.alloc (.cells #[] 2)) a n c (ints xs) := ha.below ((Below.refl _ _).alloc (Nat.le_refl _) _)
  have Ha := Lib.hid ha2
  clear ha ha2
  go_enter Try.func29, Try.ntmps29
  go_wp2_with (at_builtin; refine wpList_appN rfl _ _ 22 rfl w.heap.size 2 _ 8 Try.underlying22 info_i64 (by decide) rfl _ 0 _ rfl hown a n c (ints xs) rfl Ha.out hnil ?c1 ?c2 ?c3 ?_)
  case c1 => intro u hu; obtain ⟨x, _, rfl⟩ := List.mem_map.1 hu; rfl
  case c2 => omega
  case c3 => simp
  intro v1 w1 hown1 hgrow _
  have hb1 := below_app ((Below.refl w.heap.size w).alloc (Nat.le_refl _) (.cells #[] 2)) hown hgrow (Nat.le_refl _) (by simp)
  clear hgrow
  go_wp2
  go_ret
  exact ⟨_, rfl, Own.of hown1, hb1⟩

theorem l00Has_nats (a : Option Addr) (n c : Nat) (l : List Nat) (k : Nat) (w : World) (ha : RV w a n c (ints (nats l))) :
    Calls Try.prog 46 #[.slice a n c, .int .i64 k] w fun e w' => e = .returned (.bool (decide (k ∈ l))) ∧ w = w' := by
  have hl := ha.lenI
  have hm := ha.small
  have Hl := Lib.hid hl
  have Ha := Lib.hid ha
  clear hl ha
  go_enter Try.func46, Try.ntmps46
  go_wp2
  go_loop [5] (fun i => ∃ j : Nat, j ≤ n ∧ i = .int .i64 j ∧ Hid (k ∉ l.take j)) (fun i => n - (intOf i).toNat)
  case atStart => exact ⟨0, Nat.zero_le _, rfl, Lib.hid (by simp)⟩
  case round =>
    obtain ⟨j, hj, rfl, hR⟩ := hrel
    by_cases hlt : j < n
    · obtain ⟨b, o, rfl, hb, hc⟩ := Ha.out.cell (by omega)
      have e1 := hc j hlt
      have hjl : j < l.length := by have := Hl.out; simp [nats] at this; omega
      have hx : (nats l).getD j 0 = (l.getD j 0 : Nat) := by simp [nats, hjl]
      rw [hx] at e1
      have Hx := Lib.hid (show l.take (j + 1) = l.take j ++ [l.getD j 0] from take_snoc' hjl)
      have Hmem := Lib.hid (show l.getD j 0 ∈ l by simp [hjl])
      clear hc hx hjl
      obtain ⟨x, hx⟩ : ∃ x, l.getD j 0 = x := ⟨_, rfl⟩
      rw [hx] at e1 Hx Hmem
      clear hx
      have hki : (j : Int) < n := by omega
      by_cases hxv : x = k
      · have t1 : ((x : Int) == (k : Int)) = true := by simp [hxv]
        have Hf := Lib.hid (show decide (k ∈ l) = true by rw [← hxv]; simpa using Hmem.out)
        clear hxv
        go_wp2
        go_ret
        exact ⟨ret_bool Hf.out.symm, rfl⟩
      · have t1 : ((x : Int) == (k : Int)) = false := by simp; omega
        have Hn := Lib.hid (show k ∉ l.take (j + 1) by
          rw [Hx.out]
          intro h
          rcases List.mem_append.1 h with h | h
          · exact hR.out h
          · simp at h; exact hxv h.symm)
        clear hxv
        go_wp2
        go_round
        case rel => exact ⟨j + 1, by omega, by go_num, Hn⟩
        case measure => simp [intOf]; omega
    · have Hf := Lib.hid (show decide (k ∈ l) = false by
        have h := hR.out
        rw [List.take_of_length_le (by have := Hl.out; simp [nats] at this; omega)] at h
        simp [h])
      go_wp2
      go_ret
      exact ⟨ret_bool Hf.out.symm, rfl⟩

theorem meas_le {st be : Int} {l : List Int} {o : List Nat} (ho : o.length ≤ 7) : meas st l be o ≤ 7 := by
  have h1 := abovesTo_len (places (laidIn l o)) st be (places (laidIn l o)).length
  have h2 := places_len (laidIn l o)
  have h3 : (laidIn l o).length = o.length := by simp [laidIn]
  unfold meas allAbv
  omega

/-- the block of the search: what it is told, the best order so far, how many it has -/
def WI (w : World) (wb : Nat) (st be : Int) (a : Option Addr) (n c : Nat) (S : SS) : Prop :=
  ∃ bv, Blk w wb [.int .i64 st, .slice a n c, .int .i64 be, bv, .int .i64 S.2] 40 ∧ Own w (wb + 1) w.heap.size 2 bv (ints (nats S.1)) ∧ -1 ≤ S.2 ∧ S.2 ≤ 7 ∧ S.1.length ≤ 7

theorem Own.at {w : World} {lo hi n : Nat} {e : TypeId} {v : Value} {vs : List Value} (h : Own w lo hi e v vs) (hn : vs.length = n) : w.ownsRow lo e 1 v n vs := hn ▸ h.1
theorem own_nil {w : World} {lo hi : Nat} {e : TypeId} {a : Option Addr} {n c : Nat} {vs : List Value} (h : Own w lo hi e (.slice a n c) vs) (ha : a = none) : n = 0 ∧ c = 0 := by
  rcases h.1.2 with ⟨h1, _⟩ | ⟨g, cap, cur, h1, _⟩
  · simp only [Value.slice.injEq] at h1; exact ⟨h1.2.1, h1.2.2⟩
  · simp only [Value.slice.injEq] at h1; rw [ha] at h1; cases h1.1
theorem Own.alloc {w : World} {lo hi : Nat} {e : TypeId} {v : Value} {vs : List Value} (h : Own w lo hi e v vs) (o : Obj) : Own (w.alloc o) lo hi e v vs := h.below ((Below.refl _ _).alloc (Nat.le_refl _) o)
theorem own_of_row {w : World} {lo lo' n : Nat} {e : TypeId} {v : Value} {vs vs' : List Value} (h : w.ownsRow lo e 1 v n vs) (hv : vs = vs') (hlo : lo' ≤ lo) : Own w lo' w.heap.size e v vs' := by
  subst hv; exact (Own.of h).mono hlo (Nat.le_refl _)
theorem WI.below {w w' : World} {wb : Nat} {st be : Int} {a : Option Addr} {n c : Nat} {S : SS} (h : WI w wb st be a n c S) (hb : Below w.heap.size w w') : WI w' wb st be a n c S := by
  obtain ⟨bv, h1, h2, h3⟩ := h
  exact ⟨bv, h1.below hb, (h2.below hb).mono (Nat.le_refl _) hb.size, h3⟩
theorem WI.nilCell {w : World} {wb : Nat} {st be : Int} {a : Option Addr} {n c : Nat} {S : SS} (h : WI w wb st be a n c S) : w.cell? ⟨wb, 1, none⟩ = some (.slice a n c) := by
  obtain ⟨bv, h1, h2, h3⟩ := h
  exact h1.cell 1 _ rfl
theorem gtransW {a b c : World} {row : Option Nat} (h : a.grownBy b row) (k : b.grownBy c row) : a.grownBy c row :=
  ⟨k.os.trans h.os, k.tape.trans h.tape, k.output.trans h.output, Nat.le_trans h.size k.size, fun i hi hn => (k.block i (Nat.lt_of_lt_of_le hi h.size) hn).trans (h.block i hi hn)⟩
theorem gbelowW {a b : World} (h : Below a.heap.size a b) (row : Option Nat) : a.grownBy b row := ⟨h.os, h.tape, h.output, h.size, fun i hi _ => h.block i hi⟩
/-- two cells behind what is made beside them -/
theorem ks_below {A B : Addr} {u v : Value} {cur w1 : World} (h : cur.cell? A = some u ∧ cur.cell? B = some v) (hb : Below cur.heap.size cur w1) : w1.cell? A = some u ∧ w1.cell? B = some v :=
  ⟨(hb.cell (World.block_lt_of_cell? _ _ h.1)).trans h.1, (hb.cell (World.block_lt_of_cell? _ _ h.2)).trans h.2⟩
theorem ks_alloc {A B : Addr} {u v : Value} {cur : World} (o : Obj) (h : cur.cell? A = some u ∧ cur.cell? B = some v) : (cur.alloc o).cell? A = some u ∧ (cur.alloc o).cell? B = some v := ks_below h ((Below.refl _ _).alloc (Nat.le_refl _) o)
theorem ks_grow {A B : Addr} {u v : Value} {cur w1 : World} {row : Option Nat} (h : cur.cell? A = some u ∧ cur.cell? B = some v) (hg : cur.grownBy w1 row) (hA : row ≠ some A.block) (hB : row ≠ some B.block) : w1.cell? A = some u ∧ w1.cell? B = some v :=
  ⟨hg.cell h.1 hA.symm, hg.cell h.2 hB.symm⟩
theorem pendb {A : Addr} {u : Value} {cur w1 : World} (h : cur.cell? A = some u) (hb : Below cur.heap.size cur w1) : w1.cell? A = some u := (hb.cell (World.block_lt_of_cell? _ _ h)).trans h
theorem pendba {A : Addr} {u : Value} {cur w1 : World} {o : Obj} (h : cur.cell? A = some u) (hb : Below (cur.alloc o).heap.size (cur.alloc o) w1) : w1.cell? A = some u := pendb (pendb h ((Below.refl _ _).alloc (Nat.le_refl _) o)) hb
theorem pendg {A : Addr} {u : Value} {cur w1 : World} {row : Option Nat} (h : cur.cell? A = some u) (hg : cur.grownBy w1 row) (hA : row ≠ some A.block) : w1.cell? A = some u := hg.cell h hA.symm
theorem pendga {A : Addr} {u : Value} {cur w1 : World} {o : Obj} {row : Option Nat} (h : cur.cell? A = some u) (hg : (cur.alloc o).grownBy w1 row) (hA : row ≠ some A.block) : w1.cell? A = some u := pendg (pendb h ((Below.refl _ _).alloc (Nat.le_refl _) o)) hg hA
theorem pendg1 {V w1 : World} {u : Value} {e : TypeId} {row : Option Nat} (hg : (V.alloc (.cells #[u] e)).grownBy w1 row) (hA : row ≠ some V.heap.size) : w1.cell? ⟨V.heap.size, 0, none⟩ = some u := pendg (cell_boxed rfl) hg hA
theorem pendg2 {V w1 : World} {u : Value} {e : TypeId} {o : Obj} {row : Option Nat} (hg : ((V.alloc (.cells #[u] e)).alloc o).grownBy w1 row) (hA : row ≠ some V.heap.size) : w1.cell? ⟨V.heap.size, 0, none⟩ = some u := pendga (cell_boxed rfl) hg hA
theorem cell_boxed2 {w : World} {g : Nat} {u : Value} {e : TypeId} {o : Obj} (hg : g = w.heap.size) : ((w.alloc (.cells #[u] e)).alloc o).cell? ⟨g, 0, none⟩ = some u := pendb (cell_boxed hg) ((Below.refl _ _).alloc (Nat.le_refl _) o)
theorem cell_al {w : World} {A : Addr} {u : Value} {o : Obj} (h : w.cell? A = some u) : (w.alloc o).cell? A = some u := pendb h ((Below.refl _ _).alloc (Nat.le_refl _) o)

set_option maxHeartbeats 4000000 in
theorem walk_any (W0 : World) (st be : Int) (a : Option Addr) (n c : Nat) (xs : List Int) (hst : 3 ≤ st ∧ st ≤ 60) (hok : okRods xs = true) (hr : RV W0 a n c (ints xs)) (wb : Nat) (hwb : W0.heap.size ≤ wb) :
    ∀ (f : Nat) (o : List Nat) (S : SS) (vo vl : Value) (w : World), o.length + f = n → (∀ x ∈ o, x < n) → Below W0.heap.size W0 w → WI w wb st be a n c S →
      Own w (wb + 1) w.heap.size 2 vo (ints (nats o)) → Own w (wb + 1) w.heap.size 2 vl (ints (laidIn xs o)) →
      Calls Try.prog 36 #[.pointer (some ⟨wb, 0, none⟩), vo, vl] w fun e w' => e = .returned (.tuple #[]) ∧ WI w' wb st be a n c (srch (meas st xs be) n f o S) ∧ w.grownBy w' (some wb) := by
  have Hmono := Lib.hid (fun o k => meas_mono st xs be o k)
  have h7 : n ≤ 7 := by have := (okRods_iff.1 hok).2; rw [hr.lenI] at this; exact this
  have Hr := Lib.hid hr
  have Hok := Lib.hid hok
  have Hxl := Lib.hid hr.lenI
  have hnc : n ≤ c := hr.2.1
  clear hr hok
  intro f
  induction f with
  | zero =>
    intro o S vo vl w hlen hlt hB hW ho hl
    obtain ⟨bv, hblk, hbo, hS1, hS2, hS3⟩ := hW
    obtain ⟨ao, co, rfl, hro⟩ := ho.sliceI
    obtain ⟨al, cl, rfl, hrl⟩ := hl.sliceI
    have e1 : (nats o).length = n := by simp [nats]; omega
    have e2 : (laidIn xs o).length = n := by simp [laidIn]; omega
    rw [e1] at hro ho ⊢
    rw [e2] at hrl hl ⊢
    have c0 := hblk.cell 0 _ rfl
    have c1 := hblk.cell 1 _ rfl
    have c2 := hblk.cell 2 _ rfl
    have c4 := hblk.cell 4 _ rfl
    have HW := Lib.hid (show WI w wb st be a n c S from ⟨bv, hblk, hbo, hS1, hS2, hS3⟩)
    have hwbr : wb < w.heap.size := hblk.lt
    by_cases h0 : S.2 = 0
    · have Hs := Lib.hid (srch_same Hmono.out n 0 o S (by omega) (by omega))
      have t0 : (S.2 == 0) = true := by simp [h0]
      clear h0 hblk hbo hro hrl ho hl
      go_enter Try.func36, Try.ntmps36
      go_wp2
      (first | go_end0 | (simp only [Exit.inBlock, Exit.then]; refine bodyPost_ret (results_none rfl _ _ _) rfl ?_) | refine bodyPost_ret (results_none rfl _ _ _) rfl ?_)
      rw [Hs.out]
      exact ⟨rfl, HW.out, World.grownBy.refl _ _⟩
    · have t0 : (S.2 == 0) = false := by simp [h0]
      obtain ⟨m, Hm⟩ : ∃ m, Hid (m = meas st xs be o) := ⟨_, rfl⟩
      have hm7 : m ≤ 7 := by rw [Hm.out]; exact meas_le (by omega)
      have Hab := Lib.hid (fun W h => l10Above_any st be al n cl (laidIn xs o) W hst (laidIn_ok Hok.out (by omega) (by rw [Hxl.out]; exact hlt)) h)
      have Hml := Lib.hid (show (nats (abovesTo (places (laidIn xs o)) st be (places (laidIn xs o)).length)).length = m by rw [Hm.out]; simp [nats, meas, allAbv])
      have Hrl := Lib.hid hrl
      have Hho := Lib.hid ho
      have HS0 := Lib.hid (And.intro c0 c2)
      have HB0 := Lib.hid (Below.refl w.heap.size w)
      have Hblk := Lib.hid hblk
      have Hbo := Lib.hid hbo
      clear hro hrl ho hl hblk hbo
      generalize nats (abovesTo (places (laidIn xs o)) st be (places (laidIn xs o)).length) = L at *
      go_enter Try.func36, Try.ntmps36
      go_wp2
      go_region_held3 (fun w' => w'.cell? ⟨wb, 0, none⟩ = some (.int .i64 st) ∧ w'.cell? ⟨wb, 2, none⟩ = some (.int .i64 be)) (first | exact HS0.out | exact HS.out | exact ks_alloc _ (by assumption)) (first | (go_at_call 31; (with_reducible refine (Hab.out _ (Hrl.out.below (by repeat' (first | (with_reducible exact HB0.out) | (with_reducible exact Below.refl _ _) | (with_reducible refine bdrewN ?_ _) | (with_reducible refine Below.drew ?_) | (with_reducible refine Below.setCell ?_ ?_ _) | (with_reducible refine Below.alloc ?_ ?_ _) | omega | (simp; done) | (simp; omega))))).mono ?_); rintro e w1 ⟨v1, rfl, ho1, hb1⟩; obtain ⟨a1, c1', rfl, hr1⟩ := ho1.sliceI; have HS := Lib.hid (ks_below (by assumption) hb1); have HB1 := Lib.hid (show Below w.heap.size w w1 from bundrew hb1); rw [Hml.out]; clear ho1 hb1 hr1))
      have hbl1 := Hblk.out.below HB1.out
      have hbo1 := (Hbo.out.below HB1.out).mono (Nat.le_refl _) HB1.out.size
      have hho1 := (Hho.out.below HB1.out).mono (Nat.le_refl _) HB1.out.size
      have d4 := hbl1.cell 4 _ rfl
      have d3 := hbl1.cell 3 _ rfl
      have f4 := hbl1.frozen 4
      have f3 := hbl1.frozen 3
      have Hg1 := Lib.hid (gbelowW HB1.out (some wb))
      have Hput := Lib.hid (show srch (meas st xs be) n 0 o S = putS (meas st xs be) o S from rfl)
      have hwb1 : wb < w1.heap.size := hbl1.lt
      by_cases h1 : S.2 < 0 ∨ (m : Int) < S.2
      · have Hres := Lib.hid (show putS (meas st xs be) o S = (o, (m : Int)) by unfold putS; rw [← Hm.out, if_pos h1])
        have hb2 := (hbl1.set 3 (.slice ao n co)).set 4 (.int .i64 m)
        have ho2 := (hho1.kept (gsetK w1 wb 3 (.slice ao n co)) (fun q hq => by cases hq; exact .inl (Nat.lt_succ_self _))).kept (gsetK (w1.setCell ⟨wb, 3, none⟩ (.slice ao n co)) wb 4 (.int .i64 m)) (fun q hq => by cases hq; exact .inl (Nat.lt_succ_self _))
        simp only [List.set_cons_zero, List.set_cons_succ] at hb2
        have Hb2 := Lib.hid hb2
        have Ho2 := Lib.hid ho2
        have Hg2 := Lib.hid (gtransW (gtransW Hg1.out (gsetK w1 wb 3 (.slice ao n co))) (gsetK (w1.setCell ⟨wb, 3, none⟩ (.slice ao n co)) wb 4 (.int .i64 m)))
        clear hb2 ho2 hbl1 hbo1 hho1
        by_cases h2 : S.2 < 0
        · clear h1
          go_wp2
          (first | go_end0 | (simp only [Exit.inBlock, Exit.then]; refine bodyPost_ret (results_none rfl _ _ _) rfl ?_) | refine bodyPost_ret (results_none rfl _ _ _) rfl ?_)
          rw [Hput.out, Hres.out]
          exact ⟨rfl, ⟨_, Hb2.out, Ho2.out.mono (Nat.le_refl _) (by simp), by show -1 ≤ (m : Int); omega, by show (m : Int) ≤ 7; omega, by show o.length ≤ 7; omega⟩, Hg2.out⟩
        · have h3 : (m : Int) < S.2 := by omega
          clear h1
          go_wp2
          (first | go_end0 | (simp only [Exit.inBlock, Exit.then]; refine bodyPost_ret (results_none rfl _ _ _) rfl ?_) | refine bodyPost_ret (results_none rfl _ _ _) rfl ?_)
          rw [Hput.out, Hres.out]
          exact ⟨rfl, ⟨_, Hb2.out, Ho2.out.mono (Nat.le_refl _) (by simp), by show -1 ≤ (m : Int); omega, by show (m : Int) ≤ 7; omega, by show o.length ≤ 7; omega⟩, Hg2.out⟩
      · have Hres := Lib.hid (show putS (meas st xs be) o S = S by unfold putS; rw [← Hm.out, if_neg h1])
        have h2 : ¬ S.2 < 0 := by omega
        have h3 : ¬ (m : Int) < S.2 := by omega
        have HW1 := Lib.hid (HW.out.below HB1.out)
        clear h1 hbl1 hbo1 hho1
        go_wp2
        (first | go_end0 | (simp only [Exit.inBlock, Exit.then]; refine bodyPost_ret (results_none rfl _ _ _) rfl ?_) | refine bodyPost_ret (results_none rfl _ _ _) rfl ?_)
        rw [Hput.out, Hres.out]
        exact ⟨rfl, HW1.out, Hg1.out⟩
  | succ f ih =>
    intro o S vo vl w hlen hlt hB hW ho hl
    obtain ⟨bv, hblk, hbo, hS1, hS2, hS3⟩ := hW
    obtain ⟨ao, co, rfl, hro⟩ := ho.sliceI
    obtain ⟨al, cl, rfl, hrl⟩ := hl.sliceI
    have c1 := hblk.cell 1 _ rfl
    have c4 := hblk.cell 4 _ rfl
    have Hlto := Lib.hid hlt
    clear hlt
    by_cases h0 : S.2 = 0
    · have Hs := Lib.hid (srch_same Hmono.out n (f + 1) o S (by omega) (by omega))
      have t0 : (S.2 == 0) = true := by simp [h0]
      have HW := Lib.hid (show WI w wb st be a n c S from ⟨bv, hblk, hbo, hS1, hS2, hS3⟩)
      clear h0 hblk hbo hro hrl ho hl
      go_enter Try.func36, Try.ntmps36
      go_wp2
      (first | go_end0 | (simp only [Exit.inBlock, Exit.then]; refine bodyPost_ret (results_none rfl _ _ _) rfl ?_) | refine bodyPost_ret (results_none rfl _ _ _) rfl ?_)
      rw [Hs.out]
      exact ⟨rfl, HW.out, World.grownBy.refl _ _⟩
    · have t0 : (S.2 == 0) = false := by simp [h0]
      have e1 : (nats o).length = o.length := by simp [nats]
      have e2 : (laidIn xs o).length = o.length := by simp [laidIn]
      have t1 : ((o.length : Int) == (n : Int)) = false := by simp; omega
      have HW := Lib.hid (show WI w wb st be a n c S from ⟨bv, hblk, hbo, hS1, hS2, hS3⟩)
      have Ho := Lib.hid ho
      have Hl := Lib.hid hl
      rw [e1] at Ho ⊢
      rw [e2] at Hl ⊢
      have HB := Lib.hid hB
      clear h0 hblk hbo hro hrl ho hl hB
      go_enter Try.func36, Try.ntmps36
      go_wp2
      go_loopw [7] (fun i wr => ∃ k : Nat, k ≤ n ∧ i = .int .i64 k ∧ ∃ T : SS, Hid (T = srchTo (srch (meas st xs be) n f) o S k) ∧ Hid (WI wr wb st be a n c T) ∧ Hid (w.grownBy wr (some wb))) (fun i _ => n - (intOf i).toNat)
      case atStart => exact ⟨0, Nat.zero_le _, rfl, S, Lib.hid rfl, HW, Lib.hid (World.grownBy.refl _ _)⟩
      case round =>
        obtain ⟨k, hk, rfl, T, HT, HWr, Hg⟩ := hrel
        obtain ⟨bv, hblk, hbo, hT1, hT2, hT3⟩ := HWr.out
        have c1 := hblk.cell 1 _ rfl
        by_cases hlt : k < n
        · have HBr := Lib.hid (HB.out.grown Hg.out HB.out.size (by intro q hq; cases hq; exact hwb))
          obtain ⟨b, o', rfl, hb, hc⟩ := Hr.out.cell (show n ≠ 0 by omega)
          have e1 := (HBr.out.cell (p := ⟨b, o' + k, none⟩) hb).trans (hc k hlt)
          obtain ⟨x, Hx⟩ : ∃ x, Hid (x = xs.getD k 0) := ⟨_, rfl⟩
          rw [← Hx.out] at e1
          have hrow : ∀ q, some wb = some q → q < wb + 1 ∨ w.heap.size ≤ q := fun q hq => by cases hq; exact .inl (Nat.lt_succ_self _)
          have How := Lib.hid (Ho.out.kept Hg.out hrow)
          have Hlw := Lib.hid (Hl.out.kept Hg.out hrow)
          have hsw := Hg.out.size
          have hwbr : wb < wr.heap.size := hblk.lt
          have Hro := Lib.hid (show RV wr ao o.length co (ints (nats o)) from How.out.rv)
          have Hrl := Lib.hid (show RV wr al o.length cl (ints (laidIn xs o)) from Hlw.out.rv)
          clear hblk hbo hc hrow
          have hkn : (k : Int) < n := by omega
          by_cases hmem : k ∈ o
          · have Hhas := Lib.hid (by
              have h := l00Has_nats ao o.length co o k wr Hro.out
              rw [show decide (k ∈ o) = true by simp [hmem]] at h
              exact h)
            have Hn := Lib.hid (show T = srchTo (srch (meas st xs be) n f) o S (k + 1) by rw [srchTo, if_pos hmem]; exact HT.out)
            clear hmem
            go_wp2_with (go_at_call 46; refine Hhas.out.mono ?_; rintro e w' ⟨rfl, rfl⟩)
            go_roundw
            case rel => exact ⟨k + 1, by omega, by go_num, T, Hn, HWr, Hg⟩
            case measure => simp [intOf]; omega
          · have Hhas := Lib.hid (by
              have h := l00Has_nats ao o.length co o k wr Hro.out
              rw [show decide (k ∈ o) = false by simp [hmem]] at h
              exact h)
            have Hn := Lib.hid (show srch (meas st xs be) n f (o ++ [k]) T = srchTo (srch (meas st xs be) n f) o S (k + 1) by rw [srchTo, if_neg hmem, HT.out])
            clear hmem
            go_wp2_with (go_at_call 46; refine Hhas.out.mono ?_; rintro e w' ⟨rfl, rfl⟩)
            clear Hhas
            have Hown1 := Lib.hid (fun W h => l00Own_any ao o.length co (nats o) W (by omega) (own_nil How.out) h)
            have Hown2 := Lib.hid (fun W h => l00Own_any al o.length cl (laidIn xs o) W (by omega) (own_nil Hlw.out) h)
            have HS0 := Lib.hid (show wr.cell? ⟨wb, 1, none⟩ = some (.slice (some ⟨b, o', none⟩) n c) ∧ wr.cell? ⟨b, o' + k, none⟩ = some (.int .i64 x) from ⟨c1, e1⟩)
            have HBel := Lib.hid (Below.refl wr.heap.size wr)
            have Hlen := Lib.hid (show (o ++ [k]).length + f = n by simp; omega)
            have Hltk := Lib.hid (show ∀ y ∈ o ++ [k], y < n by
              intro y hy
              rcases List.mem_append.1 hy with h | h
              · exact Hlto.out y h
              · simp at h; omega)
            have Hnk := Lib.hid (show ints (nats o) ++ [Value.int .i64 k] = ints (nats (o ++ [k])) by simp [nats])
            have Hlk := Lib.hid (show ints (laidIn xs o) ++ [Value.int .i64 x] = ints (laidIn xs (o ++ [k])) by rw [Hx.out]; simp [laidIn])
            have HL1 := Lib.hid (show (ints (nats o)).length = o.length by simp [nats])
            have HL3 := Lib.hid (show (ints (laidIn xs o)).length = o.length by simp [laidIn])
            have hwb0 : b < wr.heap.size := by have := HBr.out.size; omega
            have ho7 : o.length ≤ 7 := by omega
            go_region_held3 (fun w' => w'.cell? ⟨wb, 1, none⟩ = some (.slice (some ⟨b, o', none⟩) n c) ∧ w'.cell? ⟨b, o' + k, none⟩ = some (.int .i64 x)) (first | exact HS0.out | exact HS.out | exact ks_alloc _ (by assumption)) (first | (go_at_call 29; (with_reducible refine (Hown1.out _ (Hro.out.below (by repeat' (first | (with_reducible exact HBel.out) | (with_reducible exact Below.refl _ _) | (with_reducible refine bdrewN ?_ _) | (with_reducible refine Below.drew ?_) | (with_reducible refine Below.setCell ?_ ?_ _) | (with_reducible refine Below.alloc ?_ ?_ _) | omega | (simp; done) | (simp; omega))))).mono ?_); rintro e w1 ⟨v1, rfl, ho1, hb1⟩; have HS := Lib.hid (ks_below (by assumption) hb1); (try have P1 := pend1 hb1); (try have P2 := pend2 hb1); (try have P1 := pend1d hb1); (try have P2 := pend2d hb1); have Hb1 := Lib.hid hb1; have Ho1 := Lib.hid ho1; have HBel := Lib.hid (show Below wr.heap.size wr w1 from bstep (by repeat' (first | (with_reducible exact HBel.out) | (with_reducible exact Below.refl _ _) | (with_reducible refine bdrewN ?_ _) | (with_reducible refine Below.drew ?_) | (with_reducible refine Below.setCell ?_ ?_ _) | (with_reducible refine Below.alloc ?_ ?_ _) | omega | (simp; done) | (simp; omega))) hb1 (Nat.le_refl _)); have z1 := HBel.out.size; clear ho1 hb1) | (refine step_app1 rfl _ _ 22 rfl _ 2 _ 8 Try.underlying22 info_i64 (by decide) rfl v1 o.length (ints (nats o)) rfl (by first | exact Own.at Ho1.out HL1.out | exact Own.at (Ho1.out.alloc _) HL1.out | exact Own.at ((Ho1.out.alloc _).alloc _) HL1.out) _ (.int .i64 k) rfl (by first | exact cell_boxed rfl | exact cell_boxed2 rfl | assumption | exact cell_al (by assumption) | exact cell_boxed (by simp) | (simpa using P1) | (simpa using P2) | (simpa using P3) | (simpa using P4) | (simpa using P5) | (simpa using P6) | (simpa using P7) | (simpa using P8) | (simpa using R1) | (simpa using R2) | (simpa using R3) | (simpa using R4) | (simpa using R5) | (simpa using R6) | (simpa using R7) | (simpa using R8) | (simpa using T3) | (simpa using T4) | (simpa using T5) | (simpa using T6) | (simpa using T7) | (simpa using T8) | exact cell_boxed2 (by simp)) rfl (by omega) (Nat.le_trans Hb1.out.size (by first | exact Nat.le_refl _ | (simp; done) | (simp; omega))) ?_; intro g2 cap2 w2 hown2 hgr2; have HS := Lib.hid (ks_grow (by assumption) hgr2 (fun e => by have q1 := Ho1.out.1.lt _ e; first | omega | (simp at q1; done) | (simp at q1; omega)) (fun e => by have q1 := Ho1.out.1.lt _ e; first | omega | (simp at q1; done) | (simp at q1; omega))); (try have P3 := pendg P1 hgr2 (fun e => by have q1 := Ho1.out.1.lt _ e; first | omega | (simp at q1; done) | (simp at q1; omega))); (try have P4 := pendga P1 hgr2 (fun e => by have q1 := Ho1.out.1.lt _ e; first | omega | (simp at q1; done) | (simp at q1; omega))); (try have P5 := pendg P2 hgr2 (fun e => by have q1 := Ho1.out.1.lt _ e; first | omega | (simp at q1; done) | (simp at q1; omega))); (try have P6 := pendga P2 hgr2 (fun e => by have q1 := Ho1.out.1.lt _ e; first | omega | (simp at q1; done) | (simp at q1; omega))); (try have P7 := pendg1 hgr2 (fun e => by have q1 := Ho1.out.1.lt _ e; first | omega | (simp at q1; done) | (simp at q1; omega))); (try have P8 := pendg2 hgr2 (fun e => by have q1 := Ho1.out.1.lt _ e; first | omega | (simp at q1; done) | (simp at q1; omega))); have HBel := Lib.hid (show Below wr.heap.size wr w2 from Below.grown (by repeat' (first | (with_reducible exact HBel.out) | (with_reducible exact Below.refl _ _) | (with_reducible refine bdrewN ?_ _) | (with_reducible refine Below.drew ?_) | (with_reducible refine Below.setCell ?_ ?_ _) | (with_reducible refine Below.alloc ?_ ?_ _) | omega | (simp; done) | (simp; omega))) hgr2 (by first | exact z1 | (simp; omega)) (fun q e => by have q1 := Ho1.out.1.lt _ e; first | omega | (simp at q1; omega))); have z2 := HBel.out.size; have HR2 := Lib.hid hown2; clear hown2 hgr2) | (go_at_call 29; (with_reducible refine (Hown2.out _ (Hrl.out.below (by repeat' (first | (with_reducible exact HBel.out) | (with_reducible exact Below.refl _ _) | (with_reducible refine bdrewN ?_ _) | (with_reducible refine Below.drew ?_) | (with_reducible refine Below.setCell ?_ ?_ _) | (with_reducible refine Below.alloc ?_ ?_ _) | omega | (simp; done) | (simp; omega))))).mono ?_); rintro e w3 ⟨v3, rfl, ho3, hb3⟩; have HS := Lib.hid (ks_below (by assumption) hb3); (try have R3 := pendb P3 hb3); (try have R4 := pendb P4 hb3); (try have R5 := pendb P5 hb3); (try have R6 := pendb P6 hb3); (try have R7 := pendb P7 hb3); (try have R8 := pendb P8 hb3); (try have T3 := pendba P3 hb3); (try have T4 := pendba P4 hb3); (try have T5 := pendba P5 hb3); (try have T6 := pendba P6 hb3); (try have T7 := pendba P7 hb3); (try have T8 := pendba P8 hb3); (try have R1 := pend1 hb3); have HR3 := Lib.hid (show World.ownsRow w3 _ _ _ _ _ _ from (by first | exact owns_below HR2.out hb3 | exact owns_below (HR2.out.alloc _) hb3)); have Hb3 := Lib.hid hb3; have Ho3 := Lib.hid ho3; have HBel := Lib.hid (show Below wr.heap.size wr w3 from bstep (by repeat' (first | (with_reducible exact HBel.out) | (with_reducible exact Below.refl _ _) | (with_reducible refine bdrewN ?_ _) | (with_reducible refine Below.drew ?_) | (with_reducible refine Below.setCell ?_ ?_ _) | (with_reducible refine Below.alloc ?_ ?_ _) | omega | (simp; done) | (simp; omega))) hb3 (Nat.le_refl _)); have z3 := HBel.out.size; clear ho3 hb3) | (refine step_app1 rfl _ _ 22 rfl _ 2 _ 8 Try.underlying22 info_i64 (by decide) rfl v3 o.length (ints (laidIn xs o)) rfl (by first | exact Own.at Ho3.out HL3.out | exact Own.at (Ho3.out.alloc _) HL3.out | exact Own.at ((Ho3.out.alloc _).alloc _) HL3.out) _ (.int .i64 x) rfl (by first | exact cell_boxed rfl | exact cell_boxed2 rfl | assumption | exact cell_al (by assumption) | exact cell_boxed (by simp) | (simpa using P1) | (simpa using P2) | (simpa using P3) | (simpa using P4) | (simpa using P5) | (simpa using P6) | (simpa using P7) | (simpa using P8) | (simpa using R1) | (simpa using R2) | (simpa using R3) | (simpa using R4) | (simpa using R5) | (simpa using R6) | (simpa using R7) | (simpa using R8) | (simpa using T3) | (simpa using T4) | (simpa using T5) | (simpa using T6) | (simpa using T7) | (simpa using T8) | exact cell_boxed2 (by simp)) rfl (by omega) (Nat.le_trans Hb3.out.size (by first | exact Nat.le_refl _ | (simp; done) | (simp; omega))) ?_; intro g4 cap4 w4 hown4 hgr4; have HS := Lib.hid (ks_grow (by assumption) hgr4 (fun e => by have q1 := Ho3.out.1.lt _ e; first | omega | (simp at q1; done) | (simp at q1; omega)) (fun e => by have q1 := Ho3.out.1.lt _ e; first | omega | (simp at q1; done) | (simp at q1; omega))); have HR4 := Lib.hid (show World.ownsRow w4 _ _ _ _ _ _ from (by first | exact HR3.out.kept hgr4 (.inr (fun e => by have q1 := Ho3.out.1.lt _ (e.symm.trans rfl); have q2 : g2 < w2.heap.size := (HR2.out.lt _ rfl).2; first | omega | (simp at q1; done) | (simp at q1; omega))) | exact (HR3.out.alloc _).kept hgr4 (.inr (fun e => by have q1 := Ho3.out.1.lt _ (e.symm.trans rfl); have q2 : g2 < w2.heap.size := (HR2.out.lt _ rfl).2; first | omega | (simp at q1; done) | (simp at q1; omega))))); have HBel := Lib.hid (show Below wr.heap.size wr w4 from Below.grown (by repeat' (first | (with_reducible exact HBel.out) | (with_reducible exact Below.refl _ _) | (with_reducible refine bdrewN ?_ _) | (with_reducible refine Below.drew ?_) | (with_reducible refine Below.setCell ?_ ?_ _) | (with_reducible refine Below.alloc ?_ ?_ _) | omega | (simp; done) | (simp; omega))) hgr4 (by first | exact z3 | (simp; omega)) (fun q e => by have q1 := Ho3.out.1.lt _ e; first | omega | (simp at q1; omega))); have z4 := HBel.out.size; have HR5 := Lib.hid hown4; clear hown4 hgr4) | (go_at_call 36; (with_reducible refine (ih (o ++ [k]) T _ _ _ Hlen.out Hltk.out (bstep HBr.out HBel.out (Nat.le_refl _)) (HWr.out.below HBel.out) (own_of_row HR4.out Hnk.out (by first | omega | (simp; done) | (simp; omega))) (own_of_row HR5.out Hlk.out (by first | omega | (simp; done) | (simp; omega)))).mono ?_); rintro e w5 ⟨rfl, hW5, hg5⟩; have HS := Lib.hid (And.intro hW5.nilCell (hg5.cell HS.out.2 (fun e => by have q := Option.some.inj e; (try simp at q); omega))); have HW5 := Lib.hid hW5; have Hg5 := Lib.hid (gtransW (gbelowW HBel.out (some wb)) hg5); clear hW5 hg5))
            all_goals
              go_wp2
              go_roundw
              case rel => exact ⟨k + 1, by omega, by go_num, _, Hn, HW5, Lib.hid (gtransW Hg.out Hg5.out)⟩
              case measure => simp [intOf]; omega
        · have hkn : k = n := by omega
          have Hf := Lib.hid (show srch (meas st xs be) n (f + 1) o S = T by rw [HT.out, hkn]; rfl)
          clear hblk hbo hkn
          go_wp2
          (first | go_end0 | (simp only [Exit.inBlock, Exit.then]; refine bodyPost_ret (results_none rfl _ _ _) rfl ?_) | refine bodyPost_ret (results_none rfl _ _ _) rfl ?_)
          rw [Hf.out]
          exact ⟨rfl, HWr.out, Hg.out⟩
end Go.Proofs.Ytdbgicfbigjmmaa
