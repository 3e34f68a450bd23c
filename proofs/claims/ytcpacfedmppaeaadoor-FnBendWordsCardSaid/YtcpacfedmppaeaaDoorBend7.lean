/-
  Bends: how many rods can be drawn out, the program, by walks.
-/
import Derived.Test.YtcpacfedmppaeaaDoorBend4
namespace Go.Proofs.YtcpacfedmppaeaaDoor
open Go.RowKit
set_option linter.unusedVariables false

/-- which rods are gone, as a row -/
def bools (N : Nat) (out : List Int) : List Value := (List.range N).map fun (i : Nat) => Value.bool (decide ((i : Int) ∈ out))
theorem bools_len (N : Nat) (out : List Int) : (bools N out).length = N := by simp [bools]
theorem bools_get {N : Nat} {out : List Int} {i : Nat} (h : i < N) : (bools N out)[i]? = some (.bool (decide ((i : Int) ∈ out))) := by simp [bools, h]
theorem bools_set {N : Nat} {out : List Int} {k : Nat} (h : k < N) : (bools N out).set k (.bool true) = bools N (out ++ [(k : Int)]) := by
  apply List.ext_getElem?
  intro i
  simp only [bools, List.getElem?_set, List.length_map, List.length_range, List.getElem?_map]
  by_cases h1 : k = i
  · subst h1
    simp [h]
  · have h2 : ¬ (i : Int) = k := by omega
    by_cases hi : i < N
    · simp [h1, hi, h2]
    · simp [h1, hi]
theorem bools_made (N : Nat) : (madeCells #[Value.bool false] N) = (bools N []).toArray := by
  apply Array.ext'
  apply List.ext_getElem?
  intro i
  by_cases hi : i < N
  · simp [madeCells, bools, hi, Nat.mod_one]
  · simp [madeCells, bools, hi]

theorem freeTo_step (l : List UInt8) (st k : Int) (out : List Int) {j : Nat} (h : j < (coversW l st k).length) : freeTo l st k out (j + 1) = (freeTo l st k out j && decide ((coversW l st k).getD j 0 ∈ out)) := by
  unfold freeTo
  rw [take_snocB (d := 0) h, List.all_append]
  simp
theorem freeTo_all (l : List UInt8) (st k : Int) (out : List Int) {j : Nat} (h : j = (coversW l st k).length) : freeTo l st k out j = freeW l st k out := by
  unfold freeTo freeW
  rw [List.take_of_length_le (by omega)]

def isT : Value → Bool
  | .bool b => b
  | _ => false
/-- all that come out -/
def outW (l : List UInt8) (N : Nat) : List Int := outF l N (N + 1) [0]
theorem passTo_len (l : List UInt8) (st : Int) (out : List Int) (k : Nat) : out.length ≤ (passTo l st out k).length := by
  obtain ⟨r, hr⟩ := passTo_grows l st out k
  rw [hr]; simp

set_option maxHeartbeats 4000000 in
theorem drawnOut_any (s : ByteArray) (N : Nat) (w : World) (h2 : two 98 102 s.data.toList = true) (h8 : s.size ≤ 8) (hN : 1 ≤ N ∧ N ≤ 40) :
    Calls Tryd.prog 40 #[.string s, .int .i64 N] w fun e w' => e = .returned (.int .i64 ((outW s.data.toList N).length : Nat)) ∧ Below w.heap.size w w' := by
  obtain ⟨l, Hl⟩ : ∃ l, Hid (l = s.data.toList) := ⟨_, rfl⟩
  have Hll := Lib.hid (show l.length = s.size by rw [Hl.out, size_list])
  have Hcov := Lib.hid (fun (k : Nat) (W : World) (hk : k < N) => coversOf_any s N k W h2 h8 (by omega) (by omega))
  rw [← Hl.out] at Hcov ⊢
  obtain ⟨RES, HR⟩ : ∃ RES, Hid (RES = outW l N) := ⟨_, rfl⟩
  rw [← HR.out]
  have hmk := fun W => run_make_row' (P := Tryd.prog) 70 4 (.bool false) 1 Tryd.underlying70 (by kernel_rfl) rfl .i64 .i64 N (by omega) (by omega) W
  have Hcs := Lib.hid (bools_made N)
  generalize (madeCells #[Value.bool false] N) = cs at hmk Hcs
  have Hb0 := Lib.hid (show Blk (w.alloc (.cells cs 4)) w.heap.size (bools N []) 4 by rw [Hcs.out]; exact Blk.box w (bools N []) 4 rfl)
  have hc0 := Hb0.out.cell 0 _ (bools_get (by omega))
  have hf0 := Hb0.out.frozen 0
  have Hset := Lib.hid (show cs.setIfInBounds 0 (.bool true) = (bools N [0]).toArray by
    rw [Hcs.out, List.setIfInBounds_toArray]
    congr 1
    exact bools_set (by omega))
  have hN1 : (0 : Int) < N := by omega
  clear h2
  go_enter Tryd.func40, Tryd.ntmps40
  go_wp2
  go_loopw [6, 7] (fun q g wr => ∃ out : List Int, Hid (Some N out) ∧ 1 ≤ out.length ∧ out.length ≤ N ∧ q = .int .i64 (out.length : Nat) ∧ (∃ b : Bool, g = .bool b ∧ Hid (b = true → ∃ f, N + 1 ≤ f + out.length ∧ outF l N f out = RES) ∧ Hid (b = false → out = RES)) ∧ Hid (Blk wr w.heap.size (bools N out) 4) ∧ Hid (Below w.heap.size w wr)) (fun q g _ => if isT g then 1 + (N - (intOf q).toNat) else 0)
  case atStart =>
    refine ⟨[0], Lib.hid ⟨by simp, fun x hx => by simp at hx; omega⟩, by simp, by simp; omega, rfl, ⟨true, rfl, Lib.hid fun _ => ⟨N + 1, by omega, HR.out.symm⟩, Lib.hid fun h => by cases h⟩, Lib.hid ?_, Lib.hid ?_⟩
    · rw [Hset.out]; exact Blk.box w (bools N [0]) 4 rfl
    · exact (Below.refl _ _).alloc (Nat.le_refl _) _
  case round =>
    obtain ⟨out, Hsome, ho1, hoN, rfl, ⟨b, rfl, Hgo, Hend⟩, Hblk, Hb⟩ := hrel
    cases b
    · have Hf := Lib.hid (Hend.out rfl)
      go_wp2
      go_ret
      have e1 := Hf.out
      subst e1
      exact ⟨rfl, Hb.out⟩
    · obtain ⟨f, hf, hF⟩ := Hgo.out rfl
      obtain ⟨f', rfl⟩ : ∃ f', f = f' + 1 := ⟨f - 1, by omega⟩
      have HF := Lib.hid hF
      clear hF Hend Hgo
      go_wp2
      go_loopw [6, 7, 18] (fun q g i wr2 => ∃ k : Nat, k ≤ N ∧ i = .int .i64 k ∧ ∃ o2 : List Int, Hid (o2 = passTo l N out k) ∧ Hid (Some N o2) ∧ o2.length ≤ N ∧ q = .int .i64 (o2.length : Nat) ∧ g = .bool (decide (out.length < o2.length)) ∧ Hid (Blk wr2 w.heap.size (bools N o2) 4) ∧ Hid (Below w.heap.size w wr2)) (fun _ _ i _ => N - (intOf i).toNat)
      case atStart => exact ⟨0, Nat.zero_le _, rfl, out, Lib.hid rfl, Hsome, hoN, rfl, by simp, Hblk, Hb⟩
      case round =>
        obtain ⟨k, hk, rfl, o2, Ho2, Hs2, hl2, rfl, rfl, Hblk2, Hb2⟩ := hrel
        by_cases hlt : k < N
        · have hlti : (k : Int) < N := by omega
          have hck := Hblk2.out.cell k _ (bools_get hlt)
          have hsz2 := Hblk2.out.lt
          obtain ⟨nk, Hnk⟩ : ∃ nk, Hid (decide ((k : Int) ∈ o2) = nk) := ⟨_, rfl⟩
          rw [Hnk.out] at hck
          have Hck := Lib.hid hck
          obtain ⟨ag, Hag⟩ : ∃ ag, Hid (decide (out.length < o2.length) = ag) := ⟨_, rfl⟩
          rw [Hag.out]
          go_wp2_with (go_at_call 43; (with_reducible refine (Hcov.out _ _ hlt).mono ?_); rintro e w3 ⟨v, rfl, ho, hb3⟩; have Hb3 := Lib.hid (bstep Hb2.out hb3 (Nat.le_refl _)); have Hblk3 := Lib.hid (Hblk2.out.below hb3); obtain ⟨a1, c1, rfl, hr1⟩ := ho.sliceI; have Hr1 := Lib.hid hr1; clear hr1 ho hb3)
          obtain ⟨m, Hm⟩ : ∃ m, Hid ((coversW l N k).length = m) := ⟨_, rfl⟩
          have hm8 : m ≤ 8 := by
            rw [← Hm.out]
            have := coversTo_len l N k l.length
            rw [Hll.out] at this
            show (coversTo l N k l.length).length ≤ 8
            rw [Hll.out]; omega
          rw [Hm.out] at Hr1 ⊢
          go_loop [9, 31] (fun fr i => ∃ j : Nat, j ≤ m ∧ i = .int .i64 j ∧ ∃ b : Bool, fr = .bool b ∧ Hid (b = (!nk && freeTo l N k o2 j))) (fun _ i => m - (intOf i).toNat)
          case atStart => exact ⟨0, Nat.zero_le _, rfl, !nk, rfl, Lib.hid (by simp [freeTo])⟩
          case round =>
            obtain ⟨j, hj, rfl, b, rfl, Hbj⟩ := hrel
            by_cases hjm : j < m
            · obtain ⟨b1, o1, rfl, hb1, hcc⟩ := Hr1.out.cell (by omega)
              have e1 := hcc j hjm
              have hbd := coversW_bd (l := l) (st := N) (k := k) (by omega) ((coversW l N k).getD j 0) (by simp [show j < (coversW l N k).length by rw [Hm.out]; exact hjm])
              have Hfs := Lib.hid (freeTo_step l N k o2 (j := j) (by rw [Hm.out]; exact hjm))
              obtain ⟨xn, hx⟩ : ∃ xn : Nat, (coversW l N k).getD j 0 = (xn : Int) := ⟨((coversW l N k).getD j 0).toNat, by omega⟩
              rw [hx] at e1 hbd Hfs
              have hxN : xn < N := by omega
              have hxi : (xn : Int) < N := by omega
              have hcx := Hblk3.out.cell xn _ (bools_get hxN)
              obtain ⟨d, hd⟩ : ∃ d, decide ((xn : Int) ∈ o2) = d := ⟨_, rfl⟩
              rw [hd] at hcx Hfs
              have hji : (j : Int) < m := by omega
              clear hcc hx hd hbd
              cases b
              · go_wp2
                go_round
                case rel => exact ⟨j + 1, by omega, by go_num, false, rfl, Lib.hid (by rw [Hfs.out, ← Bool.and_assoc, ← Hbj.out]; rfl)⟩
                case measure => simp [intOf]; omega
              · go_wp2
                go_round
                case rel => exact ⟨j + 1, by omega, by go_num, d, rfl, Lib.hid (by rw [Hfs.out, ← Bool.and_assoc, ← Hbj.out]; simp)⟩
                case measure => simp [intOf]; omega
            · have hjm2 : j = m := by omega
              have Hbf := Lib.hid (show b = (!nk && freeW l N k o2) by rw [Hbj.out, freeTo_all l N k o2 (by rw [Hm.out]; exact hjm2)])
              have hc3 := Hblk3.out.cell k _ (bools_get hlt)
              rw [Hnk.out] at hc3
              have hf3 := Hblk3.out.frozen k
              have hsz3 := Hblk3.out.lt
              have Hgrow := Lib.hid (passTo_len l N out k)
              rw [← Ho2.out] at Hgrow
              clear hjm2
              cases b
              · have Hn := Lib.hid (show passTo l N out (k + 1) = o2 by
                  show outStep l N (passTo l N out k) k = o2
                  rw [← Ho2.out]
                  unfold outStep
                  rw [Hnk.out]
                  have h := Hbf.out
                  cases nk
                  · simp at h; simp [h]
                  · simp)
                go_wp2
                go_roundw
                case rel => exact ⟨k + 1, by omega, by go_num, o2, Lib.hid Hn.out.symm, Hs2, hl2, rfl, by rw [Hag.out], Hblk3, Hb3⟩
                case measure => simp [intOf]; omega
              · have hnk : nk = false ∧ freeW l N k o2 = true := by
                  have h := Hbf.out
                  cases nk <;> simp at h ⊢
                  exact h
                have Hn := Lib.hid (show passTo l N out (k + 1) = o2 ++ [(k : Int)] by
                  show outStep l N (passTo l N out k) k = _
                  rw [← Ho2.out]
                  unfold outStep
                  rw [Hnk.out, hnk.1, hnk.2]
                  rfl)
                have Hs3 := Lib.hid (show Some N (o2 ++ [(k : Int)]) by
                  have h := outStep_some (l := l) (st := N) Hs2.out hlt
                  have e : outStep l N o2 k = o2 ++ [(k : Int)] := by
                    unfold outStep
                    rw [Hnk.out, hnk.1, hnk.2]
                    rfl
                  rw [e] at h
                  exact h)
                have Hl3 := Lib.hid (some_len Hs3.out)
                have Hblk4 := Lib.hid (Hblk3.out.set k (.bool true))
                rw [bools_set hlt] at Hblk4
                have Hb4 := Lib.hid (Hb3.out.setCell (p := ⟨w.heap.size, k, none⟩) (Nat.le_refl _) (.bool true))
                clear hnk
                go_wp2
                go_roundw
                case rel =>
                  refine ⟨k + 1, by omega, by go_num, o2 ++ [(k : Int)], Lib.hid Hn.out.symm, Hs3, Hl3.out, by simp, ?_, Hblk4, Hb4⟩
                  have h1 := Hgrow.out
                  simp; omega
                case measure => simp [intOf]; omega
        · have hkN : k = N := by omega
          have He := Lib.hid (show o2 = passTo l N out N by rw [Ho2.out, hkN])
          have Hgrow := Lib.hid (passTo_grows l N out N)
          rw [← He.out] at Hgrow
          have Hun := Lib.hid (show (if o2.length = out.length then out else outF l N f' o2) = RES by
            have h := HF.out
            unfold outF at h
            rw [Int.toNat_natCast, ← He.out] at h
            exact h)
          clear hkN
          go_wp2
          go_roundw
          case rel =>
            obtain ⟨r, hr⟩ := Hgrow.out
            have hlen : o2.length = out.length + r.length := by rw [hr]; simp
            refine ⟨o2, Hs2, by omega, hl2, rfl, ⟨_, rfl, Lib.hid fun h => ⟨f', ?_, ?_⟩, Lib.hid fun h => ?_⟩, Hblk2, Hb2⟩
            · have h2 : out.length < o2.length := by simpa using h
              omega
            · have h2 : out.length < o2.length := by simpa using h
              have h3 := Hun.out
              rw [if_neg (by omega)] at h3
              exact h3
            · have h2 : ¬ out.length < o2.length := by simpa using h
              have h3 := Hun.out
              rw [if_pos (by omega)] at h3
              have : r = [] := List.eq_nil_of_length_eq_zero (by omega)
              rw [hr, this, List.append_nil]; exact h3
          case measure =>
            obtain ⟨r, hr⟩ := Hgrow.out
            have hlen : o2.length = out.length + r.length := by rw [hr]; simp
            by_cases h : out.length < o2.length
            · simp [isT, intOf, h]; omega
            · simp [isT, intOf, h]; omega
end Go.Proofs.YtcpacfedmppaeaaDoor
