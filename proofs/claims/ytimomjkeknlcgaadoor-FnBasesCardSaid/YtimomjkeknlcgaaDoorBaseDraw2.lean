/-
  The reference's drawings of a base and a number.
-/
import Derived.Test.YtimomjkeknlcgaaDoorBaseDraw
import Derived.Test.YtimomjkeknlcgaaDoorRegTail
namespace Go.Proofs.YtimomjkeknlcgaaDoor
open Go.RowKit
set_option linter.unusedVariables false

theorem b4cells {w : World} {b : Nat} {e : TypeId} {t s r k : Int} (h : Blk w b [.int .i64 t, .int .i64 s, .int .i64 r, .int .i64 k] e) : w.cell? ⟨b, 0, none⟩ = some (.int .i64 t) ∧ w.cell? ⟨b, 1, none⟩ = some (.int .i64 s) ∧ w.cell? ⟨b, 2, none⟩ = some (.int .i64 r) ∧ w.cell? ⟨b, 3, none⟩ = some (.int .i64 k) :=
  ⟨h.cell 0 _ rfl, h.cell 1 _ rfl, h.cell 2 _ rfl, h.cell 3 _ rfl⟩
theorem Blk.drew {w : World} {b : Nat} {cs : List Value} {e : TypeId} (h : Blk w b cs e) : Blk w.drew b cs e := h




end Go.Proofs.YtimomjkeknlcgaaDoor
