/-
  DERIVED. GIVEN WITH THE SEED: THE CARDS: each row of YtcpacfedmppaeaaDoorRows.lean that lists a variable, with what it lists TIED to the program's text (the seventh form; the later family's looks); each row that meets fmt, with fmt's text TOLD by the authors' own Lean function (tested against real Go, not proved from fmt's source: count such statements apart). THE CARD IS WHAT COUNTS. Prove the row's statement (the work); the ties are given (YtcpacfedmppaeaaDoorTie.lean); close each card by the builder's one call (the guide's Derived/Test/ToyasCard.lean, 'card_holds'). Laid BY PROGRAM, IN A SANDBOX (cutbox-door.mjs). By AI agents, Wed Nov 11 2026. No macro, syntax, notation, axiom, sorry.
-/
import Derived.Test.YtcpacfedmppaeaaDoorRows
import GoSem.ClaimSeven
namespace Go.Proofs.YtcpacfedmppaeaaDoor
namespace Rows

/-- THE TIED CARD OF 'laws.FnBorders'. -/
def fnBordersCard : Claim7 := { stood := { row := fnBordersRow, standIns := [], harness := (true, "1d651998bfae1ed96b0d6c1ba5d28faca8426f5e22d80e0502ecd37a990ab52e"), looks := false }, kinds := [], alts := [], laidByText := true, laidKinds := [.data, .pinned], laidTests := true, laidLooks := .later }
def FnBordersCardSaid : Prop := Claim7.holds Tryd.pinned (.plain (OpenSpec.ofChange fnBordersSpec)) fnBordersCard

/-- THE TIED CARD OF 'laws.FnBendWords'. -/
def fnBendWordsCard : Claim7 := { stood := { row := fnBendWordsRow, standIns := [], harness := (true, "1d651998bfae1ed96b0d6c1ba5d28faca8426f5e22d80e0502ecd37a990ab52e"), looks := false }, kinds := [], alts := [], laidByText := true, laidKinds := [.data, .pinned], laidTests := true, laidLooks := .later }
def FnBendWordsCardSaid : Prop := Claim7.holds Tryd.pinned (.plain (OpenSpec.ofChange fnBendWordsSpec)) fnBendWordsCard

/-- THE SECOND FORM's CARD OF 'laws.FnBorders'. -/
def fnBordersUptoCard : Claim7 := { stood := { row := fnBordersUptoRow, standIns := [], harness := (true, "1d651998bfae1ed96b0d6c1ba5d28faca8426f5e22d80e0502ecd37a990ab52e"), looks := false }, kinds := [], alts := [], laidByText := true, laidKinds := [.data, .pinned], laidTests := true, laidLooks := .later }
def FnBordersUptoCardSaid : Prop := Claim7.holds Tryd.pinned (.plain (OpenSpec.upto fnBordersSpec)) fnBordersUptoCard

/-- THE SECOND FORM's CARD OF 'laws.FnBendWords'. -/
def fnBendWordsUptoCard : Claim7 := { stood := { row := fnBendWordsUptoRow, standIns := [], harness := (true, "1d651998bfae1ed96b0d6c1ba5d28faca8426f5e22d80e0502ecd37a990ab52e"), looks := false }, kinds := [], alts := [], laidByText := true, laidKinds := [.data, .pinned], laidTests := true, laidLooks := .later }
def FnBendWordsUptoCardSaid : Prop := Claim7.holds Tryd.pinned (.plain (OpenSpec.upto fnBendWordsSpec)) fnBendWordsUptoCard
end Rows
end Go.Proofs.YtcpacfedmppaeaaDoor
