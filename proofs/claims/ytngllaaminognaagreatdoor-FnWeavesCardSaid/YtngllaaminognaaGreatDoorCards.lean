/-
  DERIVED. GIVEN WITH THE SEED: THE CARDS: each row of YtngllaaminognaaGreatDoorRows.lean that lists a variable, with what it lists TIED to the program's text (the seventh form; the later family's looks); each row that meets fmt, with fmt's text TOLD by the authors' own Lean function (tested against real Go, not proved from fmt's source: count such statements apart). THE CARD IS WHAT COUNTS. Prove the row's statement (the work); the ties are given (YtngllaaminognaaGreatDoorTie.lean); close each card by the builder's one call (the guide's Derived/Test/ToyasCard.lean, 'card_holds'). Laid BY PROGRAM, IN A SANDBOX (cutbox-door.mjs). By AI agents, Wed Nov 11 2026. No macro, syntax, notation, axiom, sorry.
-/
import Derived.Test.YtngllaaminognaaGreatDoorRows
import GoSem.ClaimSeven
namespace Go.Proofs.YtngllaaminognaaGreatDoor
namespace Rows

/-- THE TIED CARD OF 'laws.FnWeaves'. -/
def fnWeavesCard : Claim7 := { stood := { row := fnWeavesRow, standIns := [], harness := (true, "2e97218cb544d1de9a70e2c690438e5064559b812a3eb4811fcab41692c7dc15"), looks := true }, kinds := [], alts := [], laidByText := true, laidKinds := [.data, .pinned], laidTests := true, laidLooks := .later }
def FnWeavesCardSaid : Prop := Claim7.holds Tryz.pinned (.plain (OpenSpec.ofChange fnWeavesSpec)) fnWeavesCard

/-- THE SECOND FORM's CARD OF 'laws.FnWeaves'. -/
def fnWeavesUptoCard : Claim7 := { stood := { row := fnWeavesUptoRow, standIns := [], harness := (true, "2e97218cb544d1de9a70e2c690438e5064559b812a3eb4811fcab41692c7dc15"), looks := true }, kinds := [], alts := [], laidByText := true, laidKinds := [.data, .pinned], laidTests := true, laidLooks := .later }
def FnWeavesUptoCardSaid : Prop := Claim7.holds Tryz.pinned (.plain (OpenSpec.upto fnWeavesSpec)) fnWeavesUptoCard
end Rows
end Go.Proofs.YtngllaaminognaaGreatDoor
