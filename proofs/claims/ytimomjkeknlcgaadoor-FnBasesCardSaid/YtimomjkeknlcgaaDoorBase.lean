/-
  Bases: what the program's and the reference's functions compute (chapter P7), by walks.
-/
import Derived.Test.YtimomjkeknlcgaaDoorBasePlain
namespace Go.Proofs.YtimomjkeknlcgaaDoor
open Go.RowKit
set_option linter.unusedVariables false

/-- a base in memory -/
def BaseAt (w : World) (b : Nat) (t s r k : Int) : Prop :=
  w.cell? ⟨b, 0, none⟩ = some (.int .i64 t) ∧ w.cell? ⟨b, 1, none⟩ = some (.int .i64 s) ∧ w.cell? ⟨b, 2, none⟩ = some (.int .i64 r) ∧ w.cell? ⟨b, 3, none⟩ = some (.int .i64 k)
theorem BaseAt.below {w w' : World} {B b : Nat} {t s r k : Int} (h : BaseAt w b t s r k) (hb : Below B w w') (hB : b < B) : BaseAt w' b t s r k :=
  ⟨(hb.cell (p := ⟨b, 0, none⟩) hB).trans h.1, (hb.cell (p := ⟨b, 1, none⟩) hB).trans h.2.1, (hb.cell (p := ⟨b, 2, none⟩) hB).trans h.2.2.1, (hb.cell (p := ⟨b, 3, none⟩) hB).trans h.2.2.2⟩
theorem BaseAt.drewN {w : World} {b : Nat} {t s r k : Int} (h : BaseAt w b t s r k) (m : Nat) : BaseAt (w.drewN m) b t s r k := h
theorem BaseAt.drew {w : World} {b : Nat} {t s r k : Int} (h : BaseAt w b t s r k) : BaseAt w.drew b t s r k := h
theorem BaseAt.boxed (w : World) (t s r k : Int) (e : TypeId) : BaseAt (w.alloc (.cells #[.int .i64 t, .int .i64 s, .int .i64 r, .int .i64 k] e)) w.heap.size t s r k := by
  refine ⟨?_, ?_, ?_, ?_⟩ <;> simp [go_sem]

abbrev baseV (t s r k : Int) : Value := .agg #[.int .i64 t, .int .i64 s, .int .i64 r, .int .i64 k]

theorem toBase_any (t s r k : Int) (w : World) : Calls Tryd.prog 6 #[.agg #[.int .i64 t, .int .i64 s, .int .i64 r, .int .i64 k]] w fun e w' =>
    e = .returned (.agg #[.int .i64 t, .int .i64 s, .int .i64 r, .int .i64 k]) ∧ Below w.heap.size w w' := by
  go_enter Tryd.func6, Tryd.ntmps6
  go_wp2
  go_returns
  exact ⟨rfl, by go_grown⟩

theorem validBase_any (t s r k : Int) (w : World) : Calls Tryd.prog 21 #[.agg #[.int .i64 t, .int .i64 s, .int .i64 r, .int .i64 k]] w fun e w' => e = .returned (.bool (vBase t s r k)) ∧ Below w.heap.size w w' := by
  have hv : vBase t s r k = (inB t 1 12 && inB s 1 12 && inB r 10 1000 && inB k 1 50) := rfl
  generalize vBase t s r k = v at *
  have Hv := Lib.hid hv
  clear hv
  cases h1 : inB t 1 12 <;> cases h2 : inB s 1 12 <;> cases h3 : inB r 10 1000 <;> cases h4 : inB k 1 50
  all_goals
    go_enter Tryd.func21, Tryd.ntmps21
    go_wp2_with (go_at_call 36; refine (within_any _ _ _ _).mono ?_; rintro e w' ⟨rfl, rfl⟩)
    go_ret
    exact ⟨ret_bool (by rw [Hv.out]; simp [h1, h2, h3, h4]), (Below.refl _ _).alloc (Nat.le_refl _) _⟩

theorem l07Ok_any (b : Nat) (t s r k : Int) (w : World) (h : BaseAt w b t s r k) : Calls Tryd.prog 24 #[.pointer (some ⟨b, 0, none⟩)] w fun e w' => e = .returned (.bool (vBase t s r k)) ∧ w = w' := by
  obtain ⟨c0, c1, c2, c3⟩ := h
  have hv : vBase t s r k = (inB t 1 12 && inB s 1 12 && inB r 10 1000 && inB k 1 50) := rfl
  generalize vBase t s r k = v at *
  have Hv := Lib.hid hv
  clear hv
  cases h1 : inB t 1 12 <;> cases h2 : inB s 1 12 <;> cases h3 : inB r 10 1000 <;> cases h4 : inB k 1 50
  all_goals
    go_enter Tryd.func24, Tryd.ntmps24
    go_wp2_with (go_at_call 37; refine (l00In_any _ _ _ _).mono ?_; rintro e w' ⟨rfl, rfl⟩)
    go_ret
    exact ⟨ret_bool (by rw [Hv.out]; simp [h1, h2, h3, h4]), rfl⟩

theorem specValidBase_any (t s r k : Int) (w : World) : Calls Tryd.prog 22 #[.agg #[.int .i64 t, .int .i64 s, .int .i64 r, .int .i64 k]] w fun e w' => e = .returned (.bool (vBase t s r k)) ∧ Below w.heap.size w w' := by
  go_enter Tryd.func22, Tryd.ntmps22
  go_wp2_with (go_at_call 24; refine (l07Ok_any _ _ _ _ _ _ (BaseAt.boxed _ _ _ _ _ _)).mono ?_; rintro e w' ⟨rfl, rfl⟩)
  go_ret
  exact ⟨rfl, (Below.refl _ _).alloc (Nat.le_refl _) _⟩

theorem l07Ends_any (b : Nat) (t s r k : Int) (w : World) (h : BaseAt w b t s r k) (hv : vBase t s r k = true) : Calls Tryd.prog 39 #[.pointer (some ⟨b, 0, none⟩)] w fun e w' => e = .returned (.int .i64 (ends t s)) ∧ ∃ m, w' = w.drewN m := by
  obtain ⟨c0, c1, c2, c3⟩ := h
  obtain ⟨⟨h1, h2⟩, ⟨h3, h4⟩, _⟩ := vBase_iff.1 hv
  have he : IntKind.i64.wrap (t + s) = t + s := IntWalk.i64_in _ (by omega)
  have he2 : IntKind.i64.wrap (2 * (t + s)) = 2 * (t + s) := IntWalk.i64_in _ (by omega)
  clear hv h1 h2 h3 h4
  go_enter Tryd.func39, Tryd.ntmps39
  go_wp2
  go_quiet (fail)
  go_wp2
  go_ret
  exact ⟨ret_int rfl, _, rfl⟩

theorem endsOf_exact (t s r k : Int) (w : World) (hv : vBase t s r k = true) : Calls Tryd.prog 38 #[.agg #[.int .i64 t, .int .i64 s, .int .i64 r, .int .i64 k]] w fun e w' => e = .returned (.int .i64 (ends t s)) ∧ w' = w.alloc (.cells #[.int .i64 t, .int .i64 s, .int .i64 r, .int .i64 k] 25) := by
  obtain ⟨⟨h1, h2⟩, ⟨h3, h4⟩, _⟩ := vBase_iff.1 hv
  clear hv
  go_enter Tryd.func38, Tryd.ntmps38
  go_wp2
  go_ret
  exact ⟨ret_int rfl, rfl⟩
theorem endsOf_any (t s r k : Int) (w : World) (hv : vBase t s r k = true) : Calls Tryd.prog 38 #[.agg #[.int .i64 t, .int .i64 s, .int .i64 r, .int .i64 k]] w fun e w' => e = .returned (.int .i64 (ends t s)) ∧ Below w.heap.size w w' := by
  obtain ⟨⟨h1, h2⟩, ⟨h3, h4⟩, _⟩ := vBase_iff.1 hv
  clear hv
  go_enter Tryd.func38, Tryd.ntmps38
  go_wp2
  go_ret
  exact ⟨ret_int rfl, (Below.refl _ _).alloc (Nat.le_refl _) _⟩

theorem ringsOf_any (t s r k : Int) (w : World) (hv : vBase t s r k = true) :
    Calls Tryd.prog 29 #[.agg #[.int .i64 t, .int .i64 s, .int .i64 r, .int .i64 k]] w fun e w' =>
      ∃ v : Value, e = .returned v ∧ Own w' w.heap.size w'.heap.size 2 v (ints (rings t s r k)) ∧ Below w.heap.size w w' := by
  obtain ⟨⟨ht, ht'⟩, ⟨hs, hs'⟩, ⟨hr, hr'⟩, ⟨hk, hk'⟩⟩ := vBase_iff.1 hv
  clear hv
  have hm0 : RingRel r k (rings t s r k) 60 [] (k * max t s) := rfl
  generalize rings t s r k = goal at *
  obtain ⟨m, hm, hm1, hm2⟩ : ∃ m, max t s = m ∧ 1 ≤ m ∧ m ≤ 12 := ⟨_, rfl, by omega, by omega⟩
  have hb1 : k * m ≤ 50 * 12 := Int.mul_le_mul hk' hm2 (by omega) (by omega)
  have hb2 : 1 * 1 ≤ k * m := Int.mul_le_mul hk hm1 (by omega) (by omega)
  rw [hm] at hm0
  have hmm : (if t < s then s else t) = m := by rw [← hm]; split <;> omega
  have Hmm := Lib.hid hmm
  clear hmm hm
  by_cases hts : t < s
  all_goals
    have e1 := Hmm.out
    simp only [hts, if_true, if_false] at e1
    subst e1
    go_enter Tryd.func29, Tryd.ntmps29
    go_wp2
    go_loopg [3, 4] 60 (fun f v i wr => ∃ (pre : List Int) (j : Int), i = .int .i64 j ∧ 1 ≤ j ∧ j ≤ 2000 ∧ pre.length + f = 60 ∧ wr.ownsRow (w.heap.size + 1) 2 1 v pre.length (pre.map (.int .i64)) ∧ Below (w.heap.size + 1) (w.alloc (.cells #[.int .i64 t, .int .i64 s, .int .i64 r, .int .i64 k] 25)) wr ∧ Hid (RingRel r k goal f pre j))
    case atStart =>
      refine ⟨[], _, rfl, by omega, by omega, rfl, ?_, (Below.refl _ _).alloc (by simp) _, Lib.hid hm0⟩
      exact owns_empty (by simp) (by omega)
    case round =>
      obtain ⟨pre, j, rfl, hj1, hj2, hlen, hown, hbel, hR⟩ := hrel
      obtain ⟨a, c, rfl⟩ := owns_slice hown
      have c0 : wr.cell? ⟨w.heap.size, 2, none⟩ = some (.int .i64 r) := (hbel.cell (by simp)).trans (by simp [go_sem])
      have c1 : wr.cell? ⟨w.heap.size, 3, none⟩ = some (.int .i64 k) := (hbel.cell (by simp)).trans (by simp [go_sem])
      have hsz := hbel.size
      simp at hsz
      by_cases h1 : j + k ≤ r
      · by_cases h2 : pre.length < 60
        · have h2' : (pre.length : Int) < 60 := by omega
          go_wp2_with (at_builtin; refine wpList_app1 rfl _ _ 31 rfl (w.heap.size + 1) 2 _ 8 Tryd.underlying31 info_i64 (by decide) rfl _ pre.length _ rfl (hown.alloc _) wr.heap.size (.int .i64 (j + k / 2)) rfl ?c1 rfl ?c2 ?c3 ?_)
          case c1 => exact cell_boxed rfl
          case c2 => omega
          case c3 => simp; omega
          intro v' w' hown' hgrow
          have hb' := below_app (hbel.alloc (by omega) _) (hown.alloc _) hgrow (Nat.le_refl _) (by simp; omega)
          have c1' : w'.cell? ⟨w.heap.size, 3, none⟩ = some (.int .i64 k) := (hb'.cell (by simp)).trans (by simp [go_sem])
          clear hown hgrow
          go_wp2
          obtain ⟨f', rfl⟩ : ∃ f', gk = f' + 1 := ⟨gk - 1, by omega⟩
          go_roundg f'
          case measure => omega
          case rel => exact ⟨pre ++ [j + k / 2], _, rfl, by omega, by omega, by simp; omega, by simpa using hown', hb', Lib.hid (ringRel_step hR.out h1)⟩
        · have h2' : (60 : Int) ≤ (pre.length : Int) := by omega
          go_wp2
          go_ret
          have := ringRel_end hR.out (.inl (by omega))
          subst this
          exact ⟨_, rfl, Own.of (owns_mono hown (by omega)), ((Below.refl _ _).alloc (Nat.le_refl _) _).trans (hbel.mono (by omega))⟩
      · go_wp2
        go_ret
        have := ringRel_end hR.out (.inr (by omega))
        subst this
        exact ⟨_, rfl, Own.of (owns_mono hown (by omega)), ((Below.refl _ _).alloc (Nat.le_refl _) _).trans (hbel.mono (by omega))⟩

theorem l07Rings_any (b : Nat) (t s r k : Int) (w : World) (hb : b < w.heap.size) (h : BaseAt w b t s r k) (hv : vBase t s r k = true) :
    Calls Tryd.prog 30 #[.pointer (some ⟨b, 0, none⟩)] w fun e w' =>
      ∃ v : Value, e = .returned v ∧ Own w' w.heap.size w'.heap.size 2 v (ints (rings t s r k)) ∧ Below w.heap.size w w' := by
  obtain ⟨⟨ht, ht'⟩, ⟨hs, hs'⟩, ⟨hr, hr'⟩, ⟨hk, hk'⟩⟩ := vBase_iff.1 hv
  clear hv
  have hm0 : RingRel r k (rings t s r k) 60 [] (k * max t s) := rfl
  generalize rings t s r k = goal at *
  obtain ⟨m, hm, hm1, hm2⟩ : ∃ m, max t s = m ∧ 1 ≤ m ∧ m ≤ 12 := ⟨_, rfl, by omega, by omega⟩
  have hb1 : k * m ≤ 50 * 12 := Int.mul_le_mul hk' hm2 (by omega) (by omega)
  have hb2 : 1 * 1 ≤ k * m := Int.mul_le_mul hk hm1 (by omega) (by omega)
  rw [hm] at hm0
  have hw := IntWalk.i64_in (k * m) (by omega)
  have Hm := Lib.hid hm
  clear hm
  obtain ⟨c0, c1, c2, c3⟩ := h
  have hbase : ∀ (o : Obj) x, (w.alloc o).cell? ⟨b, x, none⟩ = w.cell? ⟨b, x, none⟩ := fun o x => ((Below.refl w.heap.size w).alloc (Nat.le_refl _) o).cell (p := ⟨b, x, none⟩) hb
  go_enter Tryd.func30, Tryd.ntmps30
  go_wp2
  go_quiet ((go_at_call 41; exact Calls.quiet_of_same ((l00Max_any _ _ _).mono fun e w' ⟨h1, h2⟩ => ⟨h1.trans (by rw [Hm.out]), h2.symm⟩)))
  go_wp2
  clear hw hbase
  go_loopg [3, 4] 60 (fun f v i wr => ∃ (pre : List Int) (j : Int), i = .int .i64 j ∧ 1 ≤ j ∧ j ≤ 2000 ∧ pre.length + f = 60 ∧ wr.ownsRow w.heap.size 2 1 v pre.length (pre.map (.int .i64)) ∧ Below w.heap.size w wr ∧ Hid (RingRel r k goal f pre j))
  case atStart =>
    refine ⟨[], _, rfl, by omega, by omega, rfl, ?_, bdrewN ((Below.refl _ _).alloc (by simp) _) _, Lib.hid hm0⟩
    exact owns_empty rfl (Nat.le_refl _)
  case round =>
    obtain ⟨pre, j, rfl, hj1, hj2, hlen, hown, hbel, hR⟩ := hrel
    obtain ⟨a, c, rfl⟩ := owns_slice hown
    have d2 : wr.cell? ⟨b, 2, none⟩ = some (.int .i64 r) := (hbel.cell hb).trans c2
    have d3 : wr.cell? ⟨b, 3, none⟩ = some (.int .i64 k) := (hbel.cell hb).trans c3
    clear c0 c1 c2 c3
    have hsz := hbel.size
    have hw := IntWalk.i64_in (j + k) (by omega)
    by_cases h1 : j + k ≤ r
    · by_cases h2 : pre.length < 60
      · have h2' : (pre.length : Int) < 60 := by omega
        go_wp2
        go_quiet (fail)
        go_wp2_with (at_builtin; refine wpList_app1 rfl _ _ 31 rfl w.heap.size 2 _ 8 Tryd.underlying31 info_i64 (by decide) rfl _ pre.length _ rfl (hown.alloc _) wr.heap.size (.int .i64 (j + k / 2)) rfl ?c1 rfl ?c2 ?c3 ?_)
        case c1 => exact cell_boxed rfl
        case c2 => omega
        case c3 => simp; omega
        intro v' w' hown' hgrow
        have hb' := below_app (bdrewN (hbel.alloc (by omega) _) _) (hown.alloc _) hgrow (Nat.le_refl _) (by simp; omega)
        have d3' : w'.cell? ⟨b, 3, none⟩ = some (.int .i64 k) := (hb'.cell hb).trans ((hbel.cell (p := ⟨b, 3, none⟩) hb).symm.trans d3)
        clear hown hgrow
        go_wp2
        obtain ⟨f', rfl⟩ : ∃ f', gk = f' + 1 := ⟨gk - 1, by omega⟩
        go_roundg f'
        case measure => omega
        case rel => exact ⟨pre ++ [j + k / 2], _, rfl, by omega, by omega, by simp; omega, by simpa using hown', hb', Lib.hid (ringRel_step hR.out h1)⟩
      · have h2' : (60 : Int) ≤ (pre.length : Int) := by omega
        go_wp2
        go_quiet (fail)
        go_wp2
        go_ret
        have := ringRel_end hR.out (.inl (by omega))
        subst this
        exact ⟨_, rfl, Own.of hown, bdrewN hbel _⟩
    · have hd : decide (j + k ≤ r) = false := by simpa using h1
      go_wp2
      go_quiet (fail)
      go_wp2
      go_ret
      have := ringRel_end hR.out (.inr (by omega))
      subst this
      exact ⟨_, rfl, Own.of hown, bdrewN hbel _⟩
end Go.Proofs.YtimomjkeknlcgaaDoor
