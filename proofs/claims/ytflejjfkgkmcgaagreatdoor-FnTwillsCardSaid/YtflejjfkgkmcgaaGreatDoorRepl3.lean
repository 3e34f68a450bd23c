/-
  A replacer of single bytes, by walks: a new one; the exchange of two letters.
-/
import Derived.Test.YtflejjfkgkmcgaaGreatDoorRepl2
import Derived.Test.YtflejjfkgkmcgaaGreatDoorRegTail
import Derived.Test.YtflejjfkgkmcgaaGreatDoorStrS
namespace Go.Proofs.YtflejjfkgkmcgaaGreatDoor
open Go Go.RowKit
set_option linter.unusedVariables false

theorem owns_first {w : World} {base : Nat} {e : TypeId} {v : Value} {n : Nat} {xs : List Value} (h : w.ownsRow base e 1 v n xs) (hn : n ≠ 0) : ∃ g c, v = .slice (some ⟨g, 0, none⟩) n c ∧ base ≤ g ∧ n ≤ c ∧ g < w.heap.size := by
  rcases h.2 with ⟨_, h2⟩ | ⟨g, cap, cur, hv, hg, hh, hc, _⟩
  · exact absurd h2 hn
  · exact ⟨g, cap, hv, hg, hc, (Array.getElem?_eq_some_iff.1 hh).1⟩

abbrev st4V : List Value := [.string ⟨#[70]⟩, .string ⟨#[66]⟩, .string ⟨#[66]⟩, .string ⟨#[70]⟩]
theorem St4.rv {w : World} {h : Nat} (s : St4 w h) : RV w (some ⟨h, 0, none⟩) 4 4 st4V := by
  refine ⟨rfl, by decide, by decide, .inr ⟨h, 0, rfl, s.1, fun i u hu => ?_⟩⟩
  rw [Nat.zero_add]
  obtain ⟨_, s0, s1, s2, s3⟩ := s
  match i, hu with
  | 0, hu => cases hu; exact s0
  | 1, hu => cases hu; exact s1
  | 2, hu => cases hu; exact s2
  | 3, hu => cases hu; exact s3
  | i + 4, hu => cases hu
theorem st4_of_rv {w : World} {h n c : Nat} (r : RV w (some ⟨h, 0, none⟩) n c st4V) : St4 w h := by
  obtain ⟨b, o, ha, hb, hc⟩ := r.cellv (by have := r.1; simp at this; omega)
  simp only [Option.some.injEq, Addr.mk.injEq, and_true] at ha
  obtain ⟨rfl, rfl⟩ := ha
  exact ⟨hb, hc 0 _ rfl, hc 1 _ rfl, hc 2 _ rfl, hc 3 _ rfl⟩
set_option maxRecDepth 100000 in
theorem newReplacer_any (h0 : Nat) (w : World) (hs : St4 w h0) :
    Calls Tryz.prog 59 #[.slice (some ⟨h0, 0, none⟩) 4 4] w fun e w' => ∃ g h cc, e = .returned (.pointer (some ⟨g, 0, none⟩)) ∧ 4 ≤ cc ∧ g ≠ h ∧ w.heap.size ≤ g ∧ w.heap.size ≤ h ∧ Blk w' g [.int .u32 0, .int .i32 0, .int .u32 0, .nilIface, .slice (some ⟨h, 0, none⟩) 4 cc] 107 ∧ St4 w' h ∧ Below w.heap.size w w' := by
  have hn := World.ownsRow_nil w w.heap.size 9 1
  have Hs := Lib.hid hs
  go_enter Tryz.func59, Tryz.ntmps59
  go_wp2_with (at_builtin; go_loud (refine wpList_appN rfl _ _ 29 rfl w.heap.size 9 _ 16 Tryz.underlying29 info_str (by decide) rfl _ 0 [] rfl hn (some ⟨h0, 0, none⟩) 4 4 st4V rfl Hs.out.rv (fun h => by cases h) (by decide) (by decide) (Nat.le_refl _) ?_))
  intro v' w' hown hgrow _
  obtain ⟨h, cc, rfl, hh, hcc, hlt⟩ := owns_first hown (by decide)
  have hst := st4_of_rv (owns_read hown).1
  have hbel : Below w.heap.size w w' := (Below.refl w.heap.size w).grown hgrow (Nat.le_refl _) (fun k hk => by cases hk)
  have Hst := Lib.hid hst
  have Hbel := Lib.hid hbel
  have hz := hbel.size
  clear hown hgrow hst hbel hs hn
  go_wp2
  go_ret
  refine ⟨w'.heap.size, h, cc, rfl, hcc, by omega, hz, hh, Blk.box w' _ _ rfl, Hst.out.below ((Below.refl _ _).alloc (Nat.le_refl _) _), Hbel.out.alloc (by omega) _⟩
end Go.Proofs.YtflejjfkgkmcgaaGreatDoor
