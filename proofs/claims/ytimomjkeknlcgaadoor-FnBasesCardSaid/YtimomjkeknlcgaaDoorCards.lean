/-
  DERIVED. GIVEN WITH THE SEED: THE CARDS: each row of YtimomjkeknlcgaaDoorRows.lean that lists a variable, with what it lists TIED to the program's text (the seventh form; the later family's looks); each row that meets fmt, with fmt's text TOLD by the authors' own Lean function (tested against real Go, not proved from fmt's source: count such statements apart). THE CARD IS WHAT COUNTS. Prove the row's statement (the work); the ties are given (YtimomjkeknlcgaaDoorTie.lean); close each card by the builder's one call (the guide's Derived/Test/ToyasCard.lean, 'card_holds'). Laid BY PROGRAM, IN A SANDBOX (cutbox-door.mjs). By AI agents, Wed Nov 11 2026. No macro, syntax, notation, axiom, sorry.
-/
import Derived.Test.YtimomjkeknlcgaaDoorRows
import GoSem.ClaimSeven
namespace Go.Proofs.YtimomjkeknlcgaaDoor
namespace Rows

/-- THE TIED CARD OF 'laws.FnExactBaseText'. -/
def fnExactBaseTextCard : Claim7 := { stood := { row := fnExactBaseTextRow, standIns := [], harness := (true, "399fb9f95262c9df08f1686c91eb4252d2b73cf79fa9dcb9d585db8bcba6e394"), looks := false }, kinds := [], alts := [], laidByText := true, laidKinds := [.data, .data, .data], laidTests := true, laidLooks := .later }
def FnExactBaseTextCardSaid : Prop := Claim7.holds Tryd.pinned (.plain (OpenSpec.ofChange fnExactBaseTextSpec)) fnExactBaseTextCard

/-- THE TIED CARD OF 'laws.FnBases'. -/
def fnBasesCard : Claim7 := { stood := { row := fnBasesRow, standIns := [], harness := (true, "399fb9f95262c9df08f1686c91eb4252d2b73cf79fa9dcb9d585db8bcba6e394"), looks := false }, kinds := [], alts := [], laidByText := true, laidKinds := [.data, .data, .data], laidTests := true, laidLooks := .later }
def FnBasesCardSaid : Prop := Claim7.holds Tryd.pinned (.plain (OpenSpec.ofChange fnBasesSpec)) fnBasesCard

/-- THE SECOND FORM's CARD OF 'laws.FnExactBaseText'. -/
def fnExactBaseTextUptoCard : Claim7 := { stood := { row := fnExactBaseTextUptoRow, standIns := [], harness := (true, "399fb9f95262c9df08f1686c91eb4252d2b73cf79fa9dcb9d585db8bcba6e394"), looks := false }, kinds := [], alts := [], laidByText := true, laidKinds := [.data, .data, .data], laidTests := true, laidLooks := .later }
def FnExactBaseTextUptoCardSaid : Prop := Claim7.holds Tryd.pinned (.plain (OpenSpec.upto fnExactBaseTextSpec)) fnExactBaseTextUptoCard

/-- THE SECOND FORM's CARD OF 'laws.FnBases'. -/
def fnBasesUptoCard : Claim7 := { stood := { row := fnBasesUptoRow, standIns := [], harness := (true, "399fb9f95262c9df08f1686c91eb4252d2b73cf79fa9dcb9d585db8bcba6e394"), looks := false }, kinds := [], alts := [], laidByText := true, laidKinds := [.data, .data, .data], laidTests := true, laidLooks := .later }
def FnBasesUptoCardSaid : Prop := Claim7.holds Tryd.pinned (.plain (OpenSpec.upto fnBasesSpec)) fnBasesUptoCard
end Rows
end Go.Proofs.YtimomjkeknlcgaaDoor
