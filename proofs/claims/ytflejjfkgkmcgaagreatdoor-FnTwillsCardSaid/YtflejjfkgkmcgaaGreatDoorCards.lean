/-
  DERIVED. GIVEN WITH THE SEED: THE CARDS: each row of YtflejjfkgkmcgaaGreatDoorRows.lean that lists a variable, with what it lists TIED to the program's text (the seventh form; the later family's looks); each row that meets fmt, with fmt's text TOLD by the authors' own Lean function (tested against real Go, not proved from fmt's source: count such statements apart). THE CARD IS WHAT COUNTS. Prove the row's statement (the work); the ties are given (YtflejjfkgkmcgaaGreatDoorTie.lean); close each card by the builder's one call (the guide's Derived/Test/ToyasCard.lean, 'card_holds'). Laid BY PROGRAM, IN A SANDBOX (cutbox-door.mjs). By AI agents, Wed Nov 11 2026. No macro, syntax, notation, axiom, sorry.
-/
import Derived.Test.YtflejjfkgkmcgaaGreatDoorRows
import GoSem.ClaimSeven
namespace Go.Proofs.YtflejjfkgkmcgaaGreatDoor
namespace Rows

/-- THE TIED CARD OF 'laws.FnTwills'. -/
def fnTwillsCard : Claim7 := { stood := { row := fnTwillsRow, standIns := [], harness := (true, "ff449ef5111802fdc7b42816147f54dbeb3c9e2511a995a5146d4f18e26a66f5"), looks := true }, kinds := [], alts := [], laidByText := true, laidKinds := [.data, .data, .data], laidTests := true, laidLooks := .later }
def FnTwillsCardSaid : Prop := Claim7.holds Tryz.pinned (.plain (OpenSpec.ofChange fnTwillsSpec)) fnTwillsCard

/-- THE SECOND FORM's CARD OF 'laws.FnTwills'. -/
def fnTwillsUptoCard : Claim7 := { stood := { row := fnTwillsUptoRow, standIns := [], harness := (true, "ff449ef5111802fdc7b42816147f54dbeb3c9e2511a995a5146d4f18e26a66f5"), looks := true }, kinds := [], alts := [], laidByText := true, laidKinds := [.data, .data, .data], laidTests := true, laidLooks := .later }
def FnTwillsUptoCardSaid : Prop := Claim7.holds Tryz.pinned (.plain (OpenSpec.upto fnTwillsSpec)) fnTwillsUptoCard
end Rows
end Go.Proofs.YtflejjfkgkmcgaaGreatDoor
