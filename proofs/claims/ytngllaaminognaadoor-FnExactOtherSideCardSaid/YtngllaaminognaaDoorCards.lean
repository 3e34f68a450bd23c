/-
  DERIVED. GIVEN WITH THE SEED: THE CARDS: each row of YtngllaaminognaaDoorRows.lean that lists a variable, with what it lists TIED to the program's text (the seventh form; the later family's looks); each row that meets fmt, with fmt's text TOLD by the authors' own Lean function (tested against real Go, not proved from fmt's source: count such statements apart). THE CARD IS WHAT COUNTS. Prove the row's statement (the work); the ties are given (YtngllaaminognaaDoorTie.lean); close each card by the builder's one call (the guide's Derived/Test/ToyasCard.lean, 'card_holds'). Laid BY PROGRAM, IN A SANDBOX (cutbox-door.mjs). By AI agents, Wed Nov 11 2026. No macro, syntax, notation, axiom, sorry.
-/
import Derived.Test.YtngllaaminognaaDoorRows
import GoSem.ClaimSeven
namespace Go.Proofs.YtngllaaminognaaDoor
namespace Rows

/-- THE TIED CARD OF 'laws.FnExactOtherSide'. -/
def fnExactOtherSideCard : Claim7 := { stood := { row := fnExactOtherSideRow, standIns := [], harness := (true, "5dc3d17ff660260042f3563a078ab32b93edfe6bdfc6a09a4f6576506f6bfc48"), looks := true }, kinds := [], alts := [], laidByText := true, laidKinds := [.data, .pinned], laidTests := true, laidLooks := .later }
def FnExactOtherSideCardSaid : Prop := Claim7.holds Tryd.pinned (.plain (OpenSpec.ofChange fnExactOtherSideSpec)) fnExactOtherSideCard

/-- THE SECOND FORM's CARD OF 'laws.FnExactOtherSide'. -/
def fnExactOtherSideUptoCard : Claim7 := { stood := { row := fnExactOtherSideUptoRow, standIns := [], harness := (true, "5dc3d17ff660260042f3563a078ab32b93edfe6bdfc6a09a4f6576506f6bfc48"), looks := true }, kinds := [], alts := [], laidByText := true, laidKinds := [.data, .pinned], laidTests := true, laidLooks := .later }
def FnExactOtherSideUptoCardSaid : Prop := Claim7.holds Tryd.pinned (.plain (OpenSpec.upto fnExactOtherSideSpec)) fnExactOtherSideUptoCard
end Rows
end Go.Proofs.YtngllaaminognaaDoor
