/-
  DERIVED. GIVEN WITH THE SEED: THE CARDS: each row of YtkofcafnblikkaaDoorRows.lean that lists a variable, with what it lists TIED to the program's text (the seventh form; the later family's looks); each row that meets fmt, with fmt's text TOLD by the authors' own Lean function (tested against real Go, not proved from fmt's source: count such statements apart). THE CARD IS WHAT COUNTS. Prove the row's statement (the work); the ties are given (YtkofcafnblikkaaDoorTie.lean); close each card by the builder's one call (the guide's Derived/Test/ToyasCard.lean, 'card_holds'). Laid BY PROGRAM, IN A SANDBOX (cutbox-door.mjs). By AI agents, Wed Nov 11 2026. No macro, syntax, notation, axiom, sorry.
-/
import Derived.Test.YtkofcafnblikkaaDoorRows
import GoSem.ClaimSeven
namespace Go.Proofs.YtkofcafnblikkaaDoor
namespace Rows

/-- THE TIED CARD OF 'laws.FnExactTwillText'. -/
def fnExactTwillTextCard : Claim7 := { stood := { row := fnExactTwillTextRow, standIns := [], harness := (true, "b6cca475fa880350fb8707a7f1d8c04e5360b02e3b178948b5241249af2dc415"), looks := false }, kinds := [], alts := [], laidByText := true, laidKinds := [.data, .data, .data], laidTests := true, laidLooks := .later }
def FnExactTwillTextCardSaid : Prop := Claim7.holds Tryd.pinned (.plain (OpenSpec.ofChange fnExactTwillTextSpec)) fnExactTwillTextCard

/-- THE TIED CARD OF 'laws.FnDrafts'. -/
def fnDraftsCard : Claim7 := { stood := { row := fnDraftsRow, standIns := [], harness := (true, "b6cca475fa880350fb8707a7f1d8c04e5360b02e3b178948b5241249af2dc415"), looks := false }, kinds := [], alts := [], laidByText := true, laidKinds := [.data, .pinned], laidTests := true, laidLooks := .later }
def FnDraftsCardSaid : Prop := Claim7.holds Tryd.pinned (.plain (OpenSpec.ofChange fnDraftsSpec)) fnDraftsCard

/-- THE SECOND FORM's CARD OF 'laws.FnExactTwillText'. -/
def fnExactTwillTextUptoCard : Claim7 := { stood := { row := fnExactTwillTextUptoRow, standIns := [], harness := (true, "b6cca475fa880350fb8707a7f1d8c04e5360b02e3b178948b5241249af2dc415"), looks := false }, kinds := [], alts := [], laidByText := true, laidKinds := [.data, .data, .data], laidTests := true, laidLooks := .later }
def FnExactTwillTextUptoCardSaid : Prop := Claim7.holds Tryd.pinned (.plain (OpenSpec.upto fnExactTwillTextSpec)) fnExactTwillTextUptoCard

/-- THE SECOND FORM's CARD OF 'laws.FnDrafts'. -/
def fnDraftsUptoCard : Claim7 := { stood := { row := fnDraftsUptoRow, standIns := [], harness := (true, "b6cca475fa880350fb8707a7f1d8c04e5360b02e3b178948b5241249af2dc415"), looks := false }, kinds := [], alts := [], laidByText := true, laidKinds := [.data, .pinned], laidTests := true, laidLooks := .later }
def FnDraftsUptoCardSaid : Prop := Claim7.holds Tryd.pinned (.plain (OpenSpec.upto fnDraftsSpec)) fnDraftsUptoCard
end Rows
end Go.Proofs.YtkofcafnblikkaaDoor
