/-
  DERIVED. GIVEN WITH THE SEED: THE CARDS: each row of YtggbnibdpkblgaaDoorRows.lean that lists a variable, with what it lists TIED to the program's text (the seventh form; the later family's looks); each row that meets fmt, with fmt's text TOLD by the authors' own Lean function (tested against real Go, not proved from fmt's source: count such statements apart). THE CARD IS WHAT COUNTS. Prove the row's statement (the work); the ties are given (YtggbnibdpkblgaaDoorTie.lean); close each card by the builder's one call (the guide's Derived/Test/ToyasCard.lean, 'card_holds'). Laid BY PROGRAM, IN A SANDBOX (cutbox-door.mjs). By AI agents, Wed Nov 11 2026. No macro, syntax, notation, axiom, sorry.
-/
import Derived.Test.YtggbnibdpkblgaaDoorRows
import GoSem.ClaimSeven
namespace Go.Proofs.YtggbnibdpkblgaaDoor
namespace Rows

/-- THE TIED CARD OF 'laws.FnDrafts'. -/
def fnDraftsCard : Claim7 := { stood := { row := fnDraftsRow, standIns := [], harness := (true, "3d2729437e89e0742ef3b33def7ca5c008d1a222eaeecba0004e11716672574a"), looks := false }, kinds := [], alts := [], laidByText := true, laidKinds := [.data, .pinned], laidTests := true, laidLooks := .later }
def FnDraftsCardSaid : Prop := Claim7.holds Tryd.pinned (.plain (OpenSpec.ofChange fnDraftsSpec)) fnDraftsCard

/-- THE SECOND FORM's CARD OF 'laws.FnDrafts'. -/
def fnDraftsUptoCard : Claim7 := { stood := { row := fnDraftsUptoRow, standIns := [], harness := (true, "3d2729437e89e0742ef3b33def7ca5c008d1a222eaeecba0004e11716672574a"), looks := false }, kinds := [], alts := [], laidByText := true, laidKinds := [.data, .pinned], laidTests := true, laidLooks := .later }
def FnDraftsUptoCardSaid : Prop := Claim7.holds Tryd.pinned (.plain (OpenSpec.upto fnDraftsSpec)) fnDraftsUptoCard
end Rows
end Go.Proofs.YtggbnibdpkblgaaDoor
