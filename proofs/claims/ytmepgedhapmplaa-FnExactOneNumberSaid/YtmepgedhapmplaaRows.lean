/-
  No cell of these rows narrows 'for every input' (looked for: loops, veiled, ifaces, maps, wideKeys, modest, calm, conditions, laid).
  DERIVED. THE GIVEN ROWS OF THIS SEAT. 11 by the template 'for every input the law returns true; each argument reads behind the call as it read before'; 0 by the template 'total and deterministic' (their statements: YtmepgedhapmplaaTotals.lean).
  GIVEN WITH THE SEED: the statements are not yours to turn. If you find one false, say at which input.
  Laid BY PROGRAM, IN A SANDBOX (cutbox-rows.mjs): the forced cells as the released guide's own fill.sh prints them over the translation cff7798218945e7f… (all of the seat's roots in one cut). By AI agents, Wed Nov 11 2026. No macro, syntax, notation, axiom, sorry.
-/
import Derived.Test.YtmepgedhapmplaaChecked
import GoSem.Claim
import GoSem.ClaimJoined
import GoSem.ClaimMapViews
import Derived.JoinedTies
import Derived.KernelRfl
namespace Go.Proofs.Ytmepgedhapmplaa
/- THE CELL 'sum', in the pinned program and in every row, IS THE sha256 OF THE DUMP (.gsa) THAT YtmepgedhapmplaaProg.lean LOADS. Nothing in Lean hashes anything: it is a label: what it is worth is what the hold of that sum in a sandbox is worth. -/
noncomputable def Try.pinned : Pinned := { name := "ytmepgedhapmplaa", sum := "cff7798218945e7f847942d359b79ef73f037d1864a579b0d93fe8813050ab26", checked := Try.checked }
namespace Rows
def none {H : Type} : Left H := { results := [], args := [] }

/-- 'laws.FnExactValidShape': WHATEVER THE INPUT: true; the input reads as it did. -/
def fnExactValidShapeSpec : ChangeSpec := { name := "fnExactValidShape", fn := fun _ => fun
  | [d] => { results := [.lit (.bool true)], args := [d] }
  | _ => none }
def fnExactValidShapeRow : OpenClaim := { program := "ytmepgedhapmplaa", sum := "cff7798218945e7f847942d359b79ef73f037d1864a579b0d93fe8813050ab26", func := "loop.example/g01064/laws.FnExactValidShape", spec := "fnExactValidShape", apart := false }
def FnExactValidShapeSaid : Prop := fnExactValidShapeRow.holds Try.pinned (OpenSpec.ofChange fnExactValidShapeSpec)

/-- ITS FALSE NEIGHBOUR: 'it returns false'. Refute it at one input. -/
def fnExactValidShapeWrong : ChangeSpec := { name := "fnExactValidShape", fn := fun _ => fun
  | [d] => { results := [.lit (.bool false)], args := [d] }
  | _ => none }
def FnExactValidShapeWrongFalsely : Prop := fnExactValidShapeRow.holds Try.pinned (OpenSpec.ofChange fnExactValidShapeWrong)

/-- 'laws.FnExactStakesRange': WHATEVER THE INPUT: true; the input reads as it did. -/
def fnExactStakesRangeSpec : ChangeSpec := { name := "fnExactStakesRange", fn := fun _ => fun
  | [d1, d2, d3] => { results := [.lit (.bool true)], args := [d1, d2, d3] }
  | _ => none }
def fnExactStakesRangeRow : OpenClaim := { program := "ytmepgedhapmplaa", sum := "cff7798218945e7f847942d359b79ef73f037d1864a579b0d93fe8813050ab26", func := "loop.example/g01064/laws.FnExactStakesRange", spec := "fnExactStakesRange", apart := false }
def FnExactStakesRangeSaid : Prop := fnExactStakesRangeRow.holds Try.pinned (OpenSpec.ofChange fnExactStakesRangeSpec)

/-- ITS FALSE NEIGHBOUR: 'it returns false'. Refute it at one input. -/
def fnExactStakesRangeWrong : ChangeSpec := { name := "fnExactStakesRange", fn := fun _ => fun
  | [d1, d2, d3] => { results := [.lit (.bool false)], args := [d1, d2, d3] }
  | _ => none }
def FnExactStakesRangeWrongFalsely : Prop := fnExactStakesRangeRow.holds Try.pinned (OpenSpec.ofChange fnExactStakesRangeWrong)

/-- 'laws.FnShapes': WHATEVER THE INPUT: true; the input reads as it did. -/
def fnShapesSpec : ChangeSpec := { name := "fnShapes", fn := fun _ => fun
  | [d1, d2] => { results := [.lit (.bool true)], args := [d1, d2] }
  | _ => none }
def fnShapesRow : OpenClaim := { program := "ytmepgedhapmplaa", sum := "cff7798218945e7f847942d359b79ef73f037d1864a579b0d93fe8813050ab26", func := "loop.example/g01064/laws.FnShapes", spec := "fnShapes", apart := false }
def FnShapesSaid : Prop := fnShapesRow.holds Try.pinned (OpenSpec.ofChange fnShapesSpec)

/-- ITS FALSE NEIGHBOUR: 'it returns false'. Refute it at one input. -/
def fnShapesWrong : ChangeSpec := { name := "fnShapes", fn := fun _ => fun
  | [d1, d2] => { results := [.lit (.bool false)], args := [d1, d2] }
  | _ => none }
def FnShapesWrongFalsely : Prop := fnShapesRow.holds Try.pinned (OpenSpec.ofChange fnShapesWrong)

/-- 'laws.FnExactChangesOf': WHATEVER THE INPUT: true; the input reads as it did. -/
def fnExactChangesOfSpec : ChangeSpec := { name := "fnExactChangesOf", fn := fun _ => fun
  | [d] => { results := [.lit (.bool true)], args := [d] }
  | _ => none }
def fnExactChangesOfRow : OpenClaim := { program := "ytmepgedhapmplaa", sum := "cff7798218945e7f847942d359b79ef73f037d1864a579b0d93fe8813050ab26", func := "loop.example/g01064/laws.FnExactChangesOf", spec := "fnExactChangesOf", apart := false }
def FnExactChangesOfSaid : Prop := fnExactChangesOfRow.holds Try.pinned (OpenSpec.ofChange fnExactChangesOfSpec)

/-- ITS FALSE NEIGHBOUR: 'it returns false'. Refute it at one input. -/
def fnExactChangesOfWrong : ChangeSpec := { name := "fnExactChangesOf", fn := fun _ => fun
  | [d] => { results := [.lit (.bool false)], args := [d] }
  | _ => none }
def FnExactChangesOfWrongFalsely : Prop := fnExactChangesOfRow.holds Try.pinned (OpenSpec.ofChange fnExactChangesOfWrong)

/-- 'laws.FnExactWidestLevel': WHATEVER THE INPUT: true; the input reads as it did. -/
def fnExactWidestLevelSpec : ChangeSpec := { name := "fnExactWidestLevel", fn := fun _ => fun
  | [d] => { results := [.lit (.bool true)], args := [d] }
  | _ => none }
def fnExactWidestLevelRow : OpenClaim := { program := "ytmepgedhapmplaa", sum := "cff7798218945e7f847942d359b79ef73f037d1864a579b0d93fe8813050ab26", func := "loop.example/g01064/laws.FnExactWidestLevel", spec := "fnExactWidestLevel", apart := false }
def FnExactWidestLevelSaid : Prop := fnExactWidestLevelRow.holds Try.pinned (OpenSpec.ofChange fnExactWidestLevelSpec)

/-- ITS FALSE NEIGHBOUR: 'it returns false'. Refute it at one input. -/
def fnExactWidestLevelWrong : ChangeSpec := { name := "fnExactWidestLevel", fn := fun _ => fun
  | [d] => { results := [.lit (.bool false)], args := [d] }
  | _ => none }
def FnExactWidestLevelWrongFalsely : Prop := fnExactWidestLevelRow.holds Try.pinned (OpenSpec.ofChange fnExactWidestLevelWrong)

/-- 'laws.FnShapeTurns': WHATEVER THE INPUT: true; the input reads as it did. -/
def fnShapeTurnsSpec : ChangeSpec := { name := "fnShapeTurns", fn := fun _ => fun
  | [d1, d2] => { results := [.lit (.bool true)], args := [d1, d2] }
  | _ => none }
def fnShapeTurnsRow : OpenClaim := { program := "ytmepgedhapmplaa", sum := "cff7798218945e7f847942d359b79ef73f037d1864a579b0d93fe8813050ab26", func := "loop.example/g01064/laws.FnShapeTurns", spec := "fnShapeTurns", apart := false }
def FnShapeTurnsSaid : Prop := fnShapeTurnsRow.holds Try.pinned (OpenSpec.ofChange fnShapeTurnsSpec)

/-- ITS FALSE NEIGHBOUR: 'it returns false'. Refute it at one input. -/
def fnShapeTurnsWrong : ChangeSpec := { name := "fnShapeTurns", fn := fun _ => fun
  | [d1, d2] => { results := [.lit (.bool false)], args := [d1, d2] }
  | _ => none }
def FnShapeTurnsWrongFalsely : Prop := fnShapeTurnsRow.holds Try.pinned (OpenSpec.ofChange fnShapeTurnsWrong)

/-- 'laws.FnExactLevelsBetween': WHATEVER THE INPUT: true; the input reads as it did. -/
def fnExactLevelsBetweenSpec : ChangeSpec := { name := "fnExactLevelsBetween", fn := fun _ => fun
  | [d] => { results := [.lit (.bool true)], args := [d] }
  | _ => none }
def fnExactLevelsBetweenRow : OpenClaim := { program := "ytmepgedhapmplaa", sum := "cff7798218945e7f847942d359b79ef73f037d1864a579b0d93fe8813050ab26", func := "loop.example/g01064/laws.FnExactLevelsBetween", spec := "fnExactLevelsBetween", apart := false }
def FnExactLevelsBetweenSaid : Prop := fnExactLevelsBetweenRow.holds Try.pinned (OpenSpec.ofChange fnExactLevelsBetweenSpec)

/-- ITS FALSE NEIGHBOUR: 'it returns false'. Refute it at one input. -/
def fnExactLevelsBetweenWrong : ChangeSpec := { name := "fnExactLevelsBetween", fn := fun _ => fun
  | [d] => { results := [.lit (.bool false)], args := [d] }
  | _ => none }
def FnExactLevelsBetweenWrongFalsely : Prop := fnExactLevelsBetweenRow.holds Try.pinned (OpenSpec.ofChange fnExactLevelsBetweenWrong)

/-- 'laws.FnExactTurned': WHATEVER THE INPUT: true; the input reads as it did. -/
def fnExactTurnedSpec : ChangeSpec := { name := "fnExactTurned", fn := fun _ => fun
  | [d] => { results := [.lit (.bool true)], args := [d] }
  | _ => none }
def fnExactTurnedRow : OpenClaim := { program := "ytmepgedhapmplaa", sum := "cff7798218945e7f847942d359b79ef73f037d1864a579b0d93fe8813050ab26", func := "loop.example/g01064/laws.FnExactTurned", spec := "fnExactTurned", apart := false }
def FnExactTurnedSaid : Prop := fnExactTurnedRow.holds Try.pinned (OpenSpec.ofChange fnExactTurnedSpec)

/-- ITS FALSE NEIGHBOUR: 'it returns false'. Refute it at one input. -/
def fnExactTurnedWrong : ChangeSpec := { name := "fnExactTurned", fn := fun _ => fun
  | [d] => { results := [.lit (.bool false)], args := [d] }
  | _ => none }
def FnExactTurnedWrongFalsely : Prop := fnExactTurnedRow.holds Try.pinned (OpenSpec.ofChange fnExactTurnedWrong)

/-- 'laws.FnExactSpacingAt': WHATEVER THE INPUT: true; the input reads as it did. -/
def fnExactSpacingAtSpec : ChangeSpec := { name := "fnExactSpacingAt", fn := fun _ => fun
  | [d1, d2, d3] => { results := [.lit (.bool true)], args := [d1, d2, d3] }
  | _ => none }
def fnExactSpacingAtRow : OpenClaim := { program := "ytmepgedhapmplaa", sum := "cff7798218945e7f847942d359b79ef73f037d1864a579b0d93fe8813050ab26", func := "loop.example/g01064/laws.FnExactSpacingAt", spec := "fnExactSpacingAt", apart := false }
def FnExactSpacingAtSaid : Prop := fnExactSpacingAtRow.holds Try.pinned (OpenSpec.ofChange fnExactSpacingAtSpec)

/-- ITS FALSE NEIGHBOUR: 'it returns false'. Refute it at one input. -/
def fnExactSpacingAtWrong : ChangeSpec := { name := "fnExactSpacingAt", fn := fun _ => fun
  | [d1, d2, d3] => { results := [.lit (.bool false)], args := [d1, d2, d3] }
  | _ => none }
def FnExactSpacingAtWrongFalsely : Prop := fnExactSpacingAtRow.holds Try.pinned (OpenSpec.ofChange fnExactSpacingAtWrong)

/-- 'laws.FnExactOneNumber': WHATEVER THE INPUT: true; the input reads as it did. -/
def fnExactOneNumberSpec : ChangeSpec := { name := "fnExactOneNumber", fn := fun _ => fun
  | [d1, d2, d3] => { results := [.lit (.bool true)], args := [d1, d2, d3] }
  | _ => none }
def fnExactOneNumberRow : OpenClaim := { program := "ytmepgedhapmplaa", sum := "cff7798218945e7f847942d359b79ef73f037d1864a579b0d93fe8813050ab26", func := "loop.example/g01064/laws.FnExactOneNumber", spec := "fnExactOneNumber", apart := false }
def FnExactOneNumberSaid : Prop := fnExactOneNumberRow.holds Try.pinned (OpenSpec.ofChange fnExactOneNumberSpec)

/-- ITS FALSE NEIGHBOUR: 'it returns false'. Refute it at one input. -/
def fnExactOneNumberWrong : ChangeSpec := { name := "fnExactOneNumber", fn := fun _ => fun
  | [d1, d2, d3] => { results := [.lit (.bool false)], args := [d1, d2, d3] }
  | _ => none }
def FnExactOneNumberWrongFalsely : Prop := fnExactOneNumberRow.holds Try.pinned (OpenSpec.ofChange fnExactOneNumberWrong)

/-- 'laws.FnExactStakePlan': WHATEVER THE INPUT: true; the input reads as it did. -/
def fnExactStakePlanSpec : ChangeSpec := { name := "fnExactStakePlan", fn := fun _ => fun
  | [d1, d2, d3] => { results := [.lit (.bool true)], args := [d1, d2, d3] }
  | _ => none }
def fnExactStakePlanRow : OpenClaim := { program := "ytmepgedhapmplaa", sum := "cff7798218945e7f847942d359b79ef73f037d1864a579b0d93fe8813050ab26", func := "loop.example/g01064/laws.FnExactStakePlan", spec := "fnExactStakePlan", apart := false }
def FnExactStakePlanSaid : Prop := fnExactStakePlanRow.holds Try.pinned (OpenSpec.ofChange fnExactStakePlanSpec)

/-- ITS FALSE NEIGHBOUR: 'it returns false'. Refute it at one input. -/
def fnExactStakePlanWrong : ChangeSpec := { name := "fnExactStakePlan", fn := fun _ => fun
  | [d1, d2, d3] => { results := [.lit (.bool false)], args := [d1, d2, d3] }
  | _ => none }
def FnExactStakePlanWrongFalsely : Prop := fnExactStakePlanRow.holds Try.pinned (OpenSpec.ofChange fnExactStakePlanWrong)

/- THE SECOND FORM. 'bulk': how many values and letters a reading holds, each counted each time it is reached (what is shared counts as often as it is met; a slice's spare places count too). A statement '..UptoSaid' is the law's where the arguments, and the package variables that the reading takes, are together of bulk at most 1048576: NARROWER than '..Said'. Prove '..Said' where nothing that the law and all that it calls make is longer than what came in: it says more and counts as full. Else prove '..UptoSaid'. A law counts once. -/
mutual
def uptoBulk {H : Type} : DataW H → Nat
  | .lit (.string bytes) => bytes.length + 1
  | .lit _ => 1
  | .nil => 1
  | .ptr d => uptoBulk d + 1
  | .slice elems spare => uptoBulkAll elems + uptoBulkAll spare + 1
  | .agg parts => uptoBulkAll parts + 1
  | .iface _ d => uptoBulk d + 1
  | .map entries => uptoBulkEntries entries + 1
  | .held _ => 1
def uptoBulkAll {H : Type} : List (DataW H) → Nat
  | [] => 0
  | d :: r => uptoBulk d + uptoBulkAll r
def uptoBulkEntries {H : Type} : List (Lit × DataW H) → Nat
  | [] => 0
  | x :: r => uptoBulkEntry x + uptoBulkEntries r
def uptoBulkEntry {H : Type} : Lit × DataW H → Nat
  | (.string bytes, d) => bytes.length + uptoBulk d + 1
  | (_, d) => uptoBulk d + 1
 end
def uptoSmall : (H : Type) → List (DataW H) → Bool := fun _ ds => decide (uptoBulkAll ds ≤ 1048576)
def OpenSpec.upto (s : _root_.Go.ChangeSpec) : _root_.Go.OpenSpec := { _root_.Go.OpenSpec.ofChange s with cond := some uptoSmall }

/-- 'laws.FnExactValidShape', WHERE WHAT IT READS IS OF BULK AT MOST 1048576: true; the input reads as it did. -/
def fnExactValidShapeUptoRow : OpenClaim := { program := "ytmepgedhapmplaa", sum := "cff7798218945e7f847942d359b79ef73f037d1864a579b0d93fe8813050ab26", func := "loop.example/g01064/laws.FnExactValidShape", spec := "fnExactValidShape", apart := false, narrowed := true }
def FnExactValidShapeUptoSaid : Prop := fnExactValidShapeUptoRow.holds Try.pinned (OpenSpec.upto fnExactValidShapeSpec)

/-- 'laws.FnExactStakesRange', WHERE WHAT IT READS IS OF BULK AT MOST 1048576: true; the input reads as it did. -/
def fnExactStakesRangeUptoRow : OpenClaim := { program := "ytmepgedhapmplaa", sum := "cff7798218945e7f847942d359b79ef73f037d1864a579b0d93fe8813050ab26", func := "loop.example/g01064/laws.FnExactStakesRange", spec := "fnExactStakesRange", apart := false, narrowed := true }
def FnExactStakesRangeUptoSaid : Prop := fnExactStakesRangeUptoRow.holds Try.pinned (OpenSpec.upto fnExactStakesRangeSpec)

/-- 'laws.FnShapes', WHERE WHAT IT READS IS OF BULK AT MOST 1048576: true; the input reads as it did. -/
def fnShapesUptoRow : OpenClaim := { program := "ytmepgedhapmplaa", sum := "cff7798218945e7f847942d359b79ef73f037d1864a579b0d93fe8813050ab26", func := "loop.example/g01064/laws.FnShapes", spec := "fnShapes", apart := false, narrowed := true }
def FnShapesUptoSaid : Prop := fnShapesUptoRow.holds Try.pinned (OpenSpec.upto fnShapesSpec)

/-- 'laws.FnExactChangesOf', WHERE WHAT IT READS IS OF BULK AT MOST 1048576: true; the input reads as it did. -/
def fnExactChangesOfUptoRow : OpenClaim := { program := "ytmepgedhapmplaa", sum := "cff7798218945e7f847942d359b79ef73f037d1864a579b0d93fe8813050ab26", func := "loop.example/g01064/laws.FnExactChangesOf", spec := "fnExactChangesOf", apart := false, narrowed := true }
def FnExactChangesOfUptoSaid : Prop := fnExactChangesOfUptoRow.holds Try.pinned (OpenSpec.upto fnExactChangesOfSpec)

/-- 'laws.FnExactWidestLevel', WHERE WHAT IT READS IS OF BULK AT MOST 1048576: true; the input reads as it did. -/
def fnExactWidestLevelUptoRow : OpenClaim := { program := "ytmepgedhapmplaa", sum := "cff7798218945e7f847942d359b79ef73f037d1864a579b0d93fe8813050ab26", func := "loop.example/g01064/laws.FnExactWidestLevel", spec := "fnExactWidestLevel", apart := false, narrowed := true }
def FnExactWidestLevelUptoSaid : Prop := fnExactWidestLevelUptoRow.holds Try.pinned (OpenSpec.upto fnExactWidestLevelSpec)

/-- 'laws.FnShapeTurns', WHERE WHAT IT READS IS OF BULK AT MOST 1048576: true; the input reads as it did. -/
def fnShapeTurnsUptoRow : OpenClaim := { program := "ytmepgedhapmplaa", sum := "cff7798218945e7f847942d359b79ef73f037d1864a579b0d93fe8813050ab26", func := "loop.example/g01064/laws.FnShapeTurns", spec := "fnShapeTurns", apart := false, narrowed := true }
def FnShapeTurnsUptoSaid : Prop := fnShapeTurnsUptoRow.holds Try.pinned (OpenSpec.upto fnShapeTurnsSpec)

/-- 'laws.FnExactLevelsBetween', WHERE WHAT IT READS IS OF BULK AT MOST 1048576: true; the input reads as it did. -/
def fnExactLevelsBetweenUptoRow : OpenClaim := { program := "ytmepgedhapmplaa", sum := "cff7798218945e7f847942d359b79ef73f037d1864a579b0d93fe8813050ab26", func := "loop.example/g01064/laws.FnExactLevelsBetween", spec := "fnExactLevelsBetween", apart := false, narrowed := true }
def FnExactLevelsBetweenUptoSaid : Prop := fnExactLevelsBetweenUptoRow.holds Try.pinned (OpenSpec.upto fnExactLevelsBetweenSpec)

/-- 'laws.FnExactTurned', WHERE WHAT IT READS IS OF BULK AT MOST 1048576: true; the input reads as it did. -/
def fnExactTurnedUptoRow : OpenClaim := { program := "ytmepgedhapmplaa", sum := "cff7798218945e7f847942d359b79ef73f037d1864a579b0d93fe8813050ab26", func := "loop.example/g01064/laws.FnExactTurned", spec := "fnExactTurned", apart := false, narrowed := true }
def FnExactTurnedUptoSaid : Prop := fnExactTurnedUptoRow.holds Try.pinned (OpenSpec.upto fnExactTurnedSpec)

/-- 'laws.FnExactSpacingAt', WHERE WHAT IT READS IS OF BULK AT MOST 1048576: true; the input reads as it did. -/
def fnExactSpacingAtUptoRow : OpenClaim := { program := "ytmepgedhapmplaa", sum := "cff7798218945e7f847942d359b79ef73f037d1864a579b0d93fe8813050ab26", func := "loop.example/g01064/laws.FnExactSpacingAt", spec := "fnExactSpacingAt", apart := false, narrowed := true }
def FnExactSpacingAtUptoSaid : Prop := fnExactSpacingAtUptoRow.holds Try.pinned (OpenSpec.upto fnExactSpacingAtSpec)

/-- 'laws.FnExactOneNumber', WHERE WHAT IT READS IS OF BULK AT MOST 1048576: true; the input reads as it did. -/
def fnExactOneNumberUptoRow : OpenClaim := { program := "ytmepgedhapmplaa", sum := "cff7798218945e7f847942d359b79ef73f037d1864a579b0d93fe8813050ab26", func := "loop.example/g01064/laws.FnExactOneNumber", spec := "fnExactOneNumber", apart := false, narrowed := true }
def FnExactOneNumberUptoSaid : Prop := fnExactOneNumberUptoRow.holds Try.pinned (OpenSpec.upto fnExactOneNumberSpec)

/-- 'laws.FnExactStakePlan', WHERE WHAT IT READS IS OF BULK AT MOST 1048576: true; the input reads as it did. -/
def fnExactStakePlanUptoRow : OpenClaim := { program := "ytmepgedhapmplaa", sum := "cff7798218945e7f847942d359b79ef73f037d1864a579b0d93fe8813050ab26", func := "loop.example/g01064/laws.FnExactStakePlan", spec := "fnExactStakePlan", apart := false, narrowed := true }
def FnExactStakePlanUptoSaid : Prop := fnExactStakePlanUptoRow.holds Try.pinned (OpenSpec.upto fnExactStakePlanSpec)

end Rows
end Go.Proofs.Ytmepgedhapmplaa
