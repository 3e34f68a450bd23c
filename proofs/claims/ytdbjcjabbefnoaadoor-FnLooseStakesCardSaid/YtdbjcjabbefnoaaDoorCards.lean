/-
  DERIVED. GIVEN WITH THE SEED: THE CARDS: each row of YtdbjcjabbefnoaaDoorRows.lean that lists a variable, with what it lists TIED to the program's text (the seventh form; the later family's looks); each row that meets fmt, with fmt's text TOLD by the authors' own Lean function (tested against real Go, not proved from fmt's source: count such statements apart). THE CARD IS WHAT COUNTS. Prove the row's statement (the work); the ties are given (YtdbjcjabbefnoaaDoorTie.lean); close each card by the builder's one call (the guide's Derived/Test/ToyasCard.lean, 'card_holds'). Laid BY PROGRAM, IN A SANDBOX (cutbox-door.mjs). By AI agents, Wed Nov 11 2026. No macro, syntax, notation, axiom, sorry.
-/
import Derived.Test.YtdbjcjabbefnoaaDoorRows
import GoSem.ClaimSeven
namespace Go.Proofs.YtdbjcjabbefnoaaDoor
namespace Rows

/-- THE TIED CARD OF 'laws.FnLooseStakes'. -/
def fnLooseStakesCard : Claim7 := { stood := { row := fnLooseStakesRow, standIns := [], harness := (true, "c1a6f091aa61e7db9d0f659661e7d6c9241281098af5c2a057da1e944caa10bd"), looks := false }, kinds := [], alts := [], laidByText := true, laidKinds := [.data, .pinned], laidTests := true, laidLooks := .later }
def FnLooseStakesCardSaid : Prop := Claim7.holds Tryd.pinned (.plain (OpenSpec.ofChange fnLooseStakesSpec)) fnLooseStakesCard

/-- THE TIED CARD OF 'laws.FnExactSoundStakes'. -/
def fnExactSoundStakesCard : Claim7 := { stood := { row := fnExactSoundStakesRow, standIns := [], harness := (true, "c1a6f091aa61e7db9d0f659661e7d6c9241281098af5c2a057da1e944caa10bd"), looks := false }, kinds := [], alts := [], laidByText := true, laidKinds := [.data, .pinned], laidTests := true, laidLooks := .later }
def FnExactSoundStakesCardSaid : Prop := Claim7.holds Tryd.pinned (.plain (OpenSpec.ofChange fnExactSoundStakesSpec)) fnExactSoundStakesCard

/-- THE SECOND FORM's CARD OF 'laws.FnLooseStakes'. -/
def fnLooseStakesUptoCard : Claim7 := { stood := { row := fnLooseStakesUptoRow, standIns := [], harness := (true, "c1a6f091aa61e7db9d0f659661e7d6c9241281098af5c2a057da1e944caa10bd"), looks := false }, kinds := [], alts := [], laidByText := true, laidKinds := [.data, .pinned], laidTests := true, laidLooks := .later }
def FnLooseStakesUptoCardSaid : Prop := Claim7.holds Tryd.pinned (.plain (OpenSpec.upto fnLooseStakesSpec)) fnLooseStakesUptoCard

/-- THE SECOND FORM's CARD OF 'laws.FnExactSoundStakes'. -/
def fnExactSoundStakesUptoCard : Claim7 := { stood := { row := fnExactSoundStakesUptoRow, standIns := [], harness := (true, "c1a6f091aa61e7db9d0f659661e7d6c9241281098af5c2a057da1e944caa10bd"), looks := false }, kinds := [], alts := [], laidByText := true, laidKinds := [.data, .pinned], laidTests := true, laidLooks := .later }
def FnExactSoundStakesUptoCardSaid : Prop := Claim7.holds Tryd.pinned (.plain (OpenSpec.upto fnExactSoundStakesSpec)) fnExactSoundStakesUptoCard
end Rows
end Go.Proofs.YtdbjcjabbefnoaaDoor
