/-
  DERIVED. GIVEN WITH THE SEED: THE CARDS: each row of YtemgllkkocieoaaDoorRows.lean that lists a variable, with what it lists TIED to the program's text (the seventh form; the later family's looks); each row that meets fmt, with fmt's text TOLD by the authors' own Lean function (tested against real Go, not proved from fmt's source: count such statements apart). THE CARD IS WHAT COUNTS. Prove the row's statement (the work); the ties are given (YtemgllkkocieoaaDoorTie.lean); close each card by the builder's one call (the guide's Derived/Test/ToyasCard.lean, 'card_holds'). Laid BY PROGRAM, IN A SANDBOX (cutbox-door.mjs). By AI agents, Wed Nov 11 2026. No macro, syntax, notation, axiom, sorry.
-/
import Derived.Test.YtemgllkkocieoaaDoorRows
import GoSem.ClaimSeven
namespace Go.Proofs.YtemgllkkocieoaaDoor
namespace Rows

/-- THE TIED CARD OF 'laws.FnExactValidBends'. -/
def fnExactValidBendsCard : Claim7 := { stood := { row := fnExactValidBendsRow, standIns := [], harness := (true, "64677db58f6f85a1363d3d7a35f3b4d416eb7cb9fe4e48e224b8db6906e6f884"), looks := false }, kinds := [], alts := [], laidByText := true, laidKinds := [.data, .pinned], laidTests := true, laidLooks := .later }
def FnExactValidBendsCardSaid : Prop := Claim7.holds Tryd.pinned (.plain (OpenSpec.ofChange fnExactValidBendsSpec)) fnExactValidBendsCard

/-- THE TIED CARD OF 'laws.FnExactFirstWord'. -/
def fnExactFirstWordCard : Claim7 := { stood := { row := fnExactFirstWordRow, standIns := [], harness := (true, "64677db58f6f85a1363d3d7a35f3b4d416eb7cb9fe4e48e224b8db6906e6f884"), looks := false }, kinds := [], alts := [], laidByText := true, laidKinds := [.data, .pinned], laidTests := true, laidLooks := .later }
def FnExactFirstWordCardSaid : Prop := Claim7.holds Tryd.pinned (.plain (OpenSpec.ofChange fnExactFirstWordSpec)) fnExactFirstWordCard

/-- THE TIED CARD OF 'laws.FnExactSameBorder'. -/
def fnExactSameBorderCard : Claim7 := { stood := { row := fnExactSameBorderRow, standIns := [], harness := (true, "64677db58f6f85a1363d3d7a35f3b4d416eb7cb9fe4e48e224b8db6906e6f884"), looks := false }, kinds := [], alts := [], laidByText := true, laidKinds := [.data, .pinned], laidTests := true, laidLooks := .later }
def FnExactSameBorderCardSaid : Prop := Claim7.holds Tryd.pinned (.plain (OpenSpec.ofChange fnExactSameBorderSpec)) fnExactSameBorderCard

/-- THE TIED CARD OF 'laws.FnExactEndOfBend'. -/
def fnExactEndOfBendCard : Claim7 := { stood := { row := fnExactEndOfBendRow, standIns := [], harness := (true, "64677db58f6f85a1363d3d7a35f3b4d416eb7cb9fe4e48e224b8db6906e6f884"), looks := false }, kinds := [], alts := [], laidByText := true, laidKinds := [.data, .pinned], laidTests := true, laidLooks := .later }
def FnExactEndOfBendCardSaid : Prop := Claim7.holds Tryd.pinned (.plain (OpenSpec.ofChange fnExactEndOfBendSpec)) fnExactEndOfBendCard

/-- THE TIED CARD OF 'laws.FnExactCoversOf'. -/
def fnExactCoversOfCard : Claim7 := { stood := { row := fnExactCoversOfRow, standIns := [], harness := (true, "64677db58f6f85a1363d3d7a35f3b4d416eb7cb9fe4e48e224b8db6906e6f884"), looks := false }, kinds := [], alts := [], laidByText := true, laidKinds := [.data, .pinned], laidTests := true, laidLooks := .later }
def FnExactCoversOfCardSaid : Prop := Claim7.holds Tryd.pinned (.plain (OpenSpec.ofChange fnExactCoversOfSpec)) fnExactCoversOfCard

/-- THE TIED CARD OF 'laws.FnExactDrawnOut'. -/
def fnExactDrawnOutCard : Claim7 := { stood := { row := fnExactDrawnOutRow, standIns := [], harness := (true, "64677db58f6f85a1363d3d7a35f3b4d416eb7cb9fe4e48e224b8db6906e6f884"), looks := false }, kinds := [], alts := [], laidByText := true, laidKinds := [.data, .pinned], laidTests := true, laidLooks := .later }
def FnExactDrawnOutCardSaid : Prop := Claim7.holds Tryd.pinned (.plain (OpenSpec.ofChange fnExactDrawnOutSpec)) fnExactDrawnOutCard

/-- THE TIED CARD OF 'laws.FnExactIsLocked'. -/
def fnExactIsLockedCard : Claim7 := { stood := { row := fnExactIsLockedRow, standIns := [], harness := (true, "64677db58f6f85a1363d3d7a35f3b4d416eb7cb9fe4e48e224b8db6906e6f884"), looks := false }, kinds := [], alts := [], laidByText := true, laidKinds := [.data, .pinned], laidTests := true, laidLooks := .later }
def FnExactIsLockedCardSaid : Prop := Claim7.holds Tryd.pinned (.plain (OpenSpec.ofChange fnExactIsLockedSpec)) fnExactIsLockedCard

/-- THE TIED CARD OF 'laws.FnExactRodForBorder'. -/
def fnExactRodForBorderCard : Claim7 := { stood := { row := fnExactRodForBorderRow, standIns := [], harness := (true, "64677db58f6f85a1363d3d7a35f3b4d416eb7cb9fe4e48e224b8db6906e6f884"), looks := false }, kinds := [], alts := [], laidByText := true, laidKinds := [.data, .pinned], laidTests := true, laidLooks := .later }
def FnExactRodForBorderCardSaid : Prop := Claim7.holds Tryd.pinned (.plain (OpenSpec.ofChange fnExactRodForBorderSpec)) fnExactRodForBorderCard

/-- THE SECOND FORM's CARD OF 'laws.FnExactValidBends'. -/
def fnExactValidBendsUptoCard : Claim7 := { stood := { row := fnExactValidBendsUptoRow, standIns := [], harness := (true, "64677db58f6f85a1363d3d7a35f3b4d416eb7cb9fe4e48e224b8db6906e6f884"), looks := false }, kinds := [], alts := [], laidByText := true, laidKinds := [.data, .pinned], laidTests := true, laidLooks := .later }
def FnExactValidBendsUptoCardSaid : Prop := Claim7.holds Tryd.pinned (.plain (OpenSpec.upto fnExactValidBendsSpec)) fnExactValidBendsUptoCard

/-- THE SECOND FORM's CARD OF 'laws.FnExactFirstWord'. -/
def fnExactFirstWordUptoCard : Claim7 := { stood := { row := fnExactFirstWordUptoRow, standIns := [], harness := (true, "64677db58f6f85a1363d3d7a35f3b4d416eb7cb9fe4e48e224b8db6906e6f884"), looks := false }, kinds := [], alts := [], laidByText := true, laidKinds := [.data, .pinned], laidTests := true, laidLooks := .later }
def FnExactFirstWordUptoCardSaid : Prop := Claim7.holds Tryd.pinned (.plain (OpenSpec.upto fnExactFirstWordSpec)) fnExactFirstWordUptoCard

/-- THE SECOND FORM's CARD OF 'laws.FnExactSameBorder'. -/
def fnExactSameBorderUptoCard : Claim7 := { stood := { row := fnExactSameBorderUptoRow, standIns := [], harness := (true, "64677db58f6f85a1363d3d7a35f3b4d416eb7cb9fe4e48e224b8db6906e6f884"), looks := false }, kinds := [], alts := [], laidByText := true, laidKinds := [.data, .pinned], laidTests := true, laidLooks := .later }
def FnExactSameBorderUptoCardSaid : Prop := Claim7.holds Tryd.pinned (.plain (OpenSpec.upto fnExactSameBorderSpec)) fnExactSameBorderUptoCard

/-- THE SECOND FORM's CARD OF 'laws.FnExactEndOfBend'. -/
def fnExactEndOfBendUptoCard : Claim7 := { stood := { row := fnExactEndOfBendUptoRow, standIns := [], harness := (true, "64677db58f6f85a1363d3d7a35f3b4d416eb7cb9fe4e48e224b8db6906e6f884"), looks := false }, kinds := [], alts := [], laidByText := true, laidKinds := [.data, .pinned], laidTests := true, laidLooks := .later }
def FnExactEndOfBendUptoCardSaid : Prop := Claim7.holds Tryd.pinned (.plain (OpenSpec.upto fnExactEndOfBendSpec)) fnExactEndOfBendUptoCard

/-- THE SECOND FORM's CARD OF 'laws.FnExactCoversOf'. -/
def fnExactCoversOfUptoCard : Claim7 := { stood := { row := fnExactCoversOfUptoRow, standIns := [], harness := (true, "64677db58f6f85a1363d3d7a35f3b4d416eb7cb9fe4e48e224b8db6906e6f884"), looks := false }, kinds := [], alts := [], laidByText := true, laidKinds := [.data, .pinned], laidTests := true, laidLooks := .later }
def FnExactCoversOfUptoCardSaid : Prop := Claim7.holds Tryd.pinned (.plain (OpenSpec.upto fnExactCoversOfSpec)) fnExactCoversOfUptoCard

/-- THE SECOND FORM's CARD OF 'laws.FnExactDrawnOut'. -/
def fnExactDrawnOutUptoCard : Claim7 := { stood := { row := fnExactDrawnOutUptoRow, standIns := [], harness := (true, "64677db58f6f85a1363d3d7a35f3b4d416eb7cb9fe4e48e224b8db6906e6f884"), looks := false }, kinds := [], alts := [], laidByText := true, laidKinds := [.data, .pinned], laidTests := true, laidLooks := .later }
def FnExactDrawnOutUptoCardSaid : Prop := Claim7.holds Tryd.pinned (.plain (OpenSpec.upto fnExactDrawnOutSpec)) fnExactDrawnOutUptoCard

/-- THE SECOND FORM's CARD OF 'laws.FnExactIsLocked'. -/
def fnExactIsLockedUptoCard : Claim7 := { stood := { row := fnExactIsLockedUptoRow, standIns := [], harness := (true, "64677db58f6f85a1363d3d7a35f3b4d416eb7cb9fe4e48e224b8db6906e6f884"), looks := false }, kinds := [], alts := [], laidByText := true, laidKinds := [.data, .pinned], laidTests := true, laidLooks := .later }
def FnExactIsLockedUptoCardSaid : Prop := Claim7.holds Tryd.pinned (.plain (OpenSpec.upto fnExactIsLockedSpec)) fnExactIsLockedUptoCard

/-- THE SECOND FORM's CARD OF 'laws.FnExactRodForBorder'. -/
def fnExactRodForBorderUptoCard : Claim7 := { stood := { row := fnExactRodForBorderUptoRow, standIns := [], harness := (true, "64677db58f6f85a1363d3d7a35f3b4d416eb7cb9fe4e48e224b8db6906e6f884"), looks := false }, kinds := [], alts := [], laidByText := true, laidKinds := [.data, .pinned], laidTests := true, laidLooks := .later }
def FnExactRodForBorderUptoCardSaid : Prop := Claim7.holds Tryd.pinned (.plain (OpenSpec.upto fnExactRodForBorderSpec)) fnExactRodForBorderUptoCard
end Rows
end Go.Proofs.YtemgllkkocieoaaDoor
