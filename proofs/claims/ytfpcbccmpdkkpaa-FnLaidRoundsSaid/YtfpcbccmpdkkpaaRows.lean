/-
  No cell of these rows narrows 'for every input' (looked for: loops, veiled, ifaces, maps, wideKeys, modest, calm, conditions, laid).
  DERIVED. THE GIVEN ROWS OF THIS SEAT. 10 by the template 'for every input the law returns true; each argument reads behind the call as it read before'; 0 by the template 'total and deterministic' (their statements: YtfpcbccmpdkkpaaTotals.lean).
  GIVEN WITH THE SEED: the statements are not yours to turn. If you find one false, say at which input.
  Laid BY PROGRAM, IN A SANDBOX (cutbox-rows.mjs): the forced cells as the released guide's own fill.sh prints them over the translation 8fb9bd85a923f0e8… (all of the seat's roots in one cut). By AI agents, Wed Nov 11 2026. No macro, syntax, notation, axiom, sorry.
-/
import Derived.Test.YtfpcbccmpdkkpaaChecked
import GoSem.Claim
import GoSem.ClaimJoined
import GoSem.ClaimMapViews
import Derived.JoinedTies
import Derived.KernelRfl
namespace Go.Proofs.Ytfpcbccmpdkkpaa
/- THE CELL 'sum', in the pinned program and in every row, IS THE sha256 OF THE DUMP (.gsa) THAT YtfpcbccmpdkkpaaProg.lean LOADS. Nothing in Lean hashes anything: it is a label: what it is worth is what the hold of that sum in a sandbox is worth. -/
noncomputable def Try.pinned : Pinned := { name := "ytfpcbccmpdkkpaa", sum := "8fb9bd85a923f0e837ab0cd4be3c8d8e70ec39c3f8b4a880bb6b20e9a56fb647", checked := Try.checked }
namespace Rows
def none {H : Type} : Left H := { results := [], args := [] }

/-- 'laws.FnExactValidLaid': WHATEVER THE INPUT: true; the input reads as it did. -/
def fnExactValidLaidSpec : ChangeSpec := { name := "fnExactValidLaid", fn := fun _ => fun
  | [d1, d2] => { results := [.lit (.bool true)], args := [d1, d2] }
  | _ => none }
def fnExactValidLaidRow : OpenClaim := { program := "ytfpcbccmpdkkpaa", sum := "8fb9bd85a923f0e837ab0cd4be3c8d8e70ec39c3f8b4a880bb6b20e9a56fb647", func := "loop.example/g01064/laws.FnExactValidLaid", spec := "fnExactValidLaid", apart := false }
def FnExactValidLaidSaid : Prop := fnExactValidLaidRow.holds Try.pinned (OpenSpec.ofChange fnExactValidLaidSpec)

/-- ITS FALSE NEIGHBOUR: 'it returns false'. Refute it at one input. -/
def fnExactValidLaidWrong : ChangeSpec := { name := "fnExactValidLaid", fn := fun _ => fun
  | [d1, d2] => { results := [.lit (.bool false)], args := [d1, d2] }
  | _ => none }
def FnExactValidLaidWrongFalsely : Prop := fnExactValidLaidRow.holds Try.pinned (OpenSpec.ofChange fnExactValidLaidWrong)

/-- 'laws.FnExactRoundsLaid': WHATEVER THE INPUT: true; the input reads as it did. -/
def fnExactRoundsLaidSpec : ChangeSpec := { name := "fnExactRoundsLaid", fn := fun _ => fun
  | [d1, d2] => { results := [.lit (.bool true)], args := [d1, d2] }
  | _ => none }
def fnExactRoundsLaidRow : OpenClaim := { program := "ytfpcbccmpdkkpaa", sum := "8fb9bd85a923f0e837ab0cd4be3c8d8e70ec39c3f8b4a880bb6b20e9a56fb647", func := "loop.example/g01064/laws.FnExactRoundsLaid", spec := "fnExactRoundsLaid", apart := false }
def FnExactRoundsLaidSaid : Prop := fnExactRoundsLaidRow.holds Try.pinned (OpenSpec.ofChange fnExactRoundsLaidSpec)

/-- ITS FALSE NEIGHBOUR: 'it returns false'. Refute it at one input. -/
def fnExactRoundsLaidWrong : ChangeSpec := { name := "fnExactRoundsLaid", fn := fun _ => fun
  | [d1, d2] => { results := [.lit (.bool false)], args := [d1, d2] }
  | _ => none }
def FnExactRoundsLaidWrongFalsely : Prop := fnExactRoundsLaidRow.holds Try.pinned (OpenSpec.ofChange fnExactRoundsLaidWrong)

/-- 'laws.FnExactJoinsOf': WHATEVER THE INPUT: true; the input reads as it did. -/
def fnExactJoinsOfSpec : ChangeSpec := { name := "fnExactJoinsOf", fn := fun _ => fun
  | [d1, d2] => { results := [.lit (.bool true)], args := [d1, d2] }
  | _ => none }
def fnExactJoinsOfRow : OpenClaim := { program := "ytfpcbccmpdkkpaa", sum := "8fb9bd85a923f0e837ab0cd4be3c8d8e70ec39c3f8b4a880bb6b20e9a56fb647", func := "loop.example/g01064/laws.FnExactJoinsOf", spec := "fnExactJoinsOf", apart := false }
def FnExactJoinsOfSaid : Prop := fnExactJoinsOfRow.holds Try.pinned (OpenSpec.ofChange fnExactJoinsOfSpec)

/-- ITS FALSE NEIGHBOUR: 'it returns false'. Refute it at one input. -/
def fnExactJoinsOfWrong : ChangeSpec := { name := "fnExactJoinsOf", fn := fun _ => fun
  | [d1, d2] => { results := [.lit (.bool false)], args := [d1, d2] }
  | _ => none }
def FnExactJoinsOfWrongFalsely : Prop := fnExactJoinsOfRow.holds Try.pinned (OpenSpec.ofChange fnExactJoinsOfWrong)

/-- 'laws.FnExactCountAbove': WHATEVER THE INPUT: true; the input reads as it did. -/
def fnExactCountAboveSpec : ChangeSpec := { name := "fnExactCountAbove", fn := fun _ => fun
  | [d1, d2, d3] => { results := [.lit (.bool true)], args := [d1, d2, d3] }
  | _ => none }
def fnExactCountAboveRow : OpenClaim := { program := "ytfpcbccmpdkkpaa", sum := "8fb9bd85a923f0e837ab0cd4be3c8d8e70ec39c3f8b4a880bb6b20e9a56fb647", func := "loop.example/g01064/laws.FnExactCountAbove", spec := "fnExactCountAbove", apart := false }
def FnExactCountAboveSaid : Prop := fnExactCountAboveRow.holds Try.pinned (OpenSpec.ofChange fnExactCountAboveSpec)

/-- ITS FALSE NEIGHBOUR: 'it returns false'. Refute it at one input. -/
def fnExactCountAboveWrong : ChangeSpec := { name := "fnExactCountAbove", fn := fun _ => fun
  | [d1, d2, d3] => { results := [.lit (.bool false)], args := [d1, d2, d3] }
  | _ => none }
def FnExactCountAboveWrongFalsely : Prop := fnExactCountAboveRow.holds Try.pinned (OpenSpec.ofChange fnExactCountAboveWrong)

/-- 'laws.FnExactFirstAbove': WHATEVER THE INPUT: true; the input reads as it did. -/
def fnExactFirstAboveSpec : ChangeSpec := { name := "fnExactFirstAbove", fn := fun _ => fun
  | [d1, d2, d3] => { results := [.lit (.bool true)], args := [d1, d2, d3] }
  | _ => none }
def fnExactFirstAboveRow : OpenClaim := { program := "ytfpcbccmpdkkpaa", sum := "8fb9bd85a923f0e837ab0cd4be3c8d8e70ec39c3f8b4a880bb6b20e9a56fb647", func := "loop.example/g01064/laws.FnExactFirstAbove", spec := "fnExactFirstAbove", apart := false }
def FnExactFirstAboveSaid : Prop := fnExactFirstAboveRow.holds Try.pinned (OpenSpec.ofChange fnExactFirstAboveSpec)

/-- ITS FALSE NEIGHBOUR: 'it returns false'. Refute it at one input. -/
def fnExactFirstAboveWrong : ChangeSpec := { name := "fnExactFirstAbove", fn := fun _ => fun
  | [d1, d2, d3] => { results := [.lit (.bool false)], args := [d1, d2, d3] }
  | _ => none }
def FnExactFirstAboveWrongFalsely : Prop := fnExactFirstAboveRow.holds Try.pinned (OpenSpec.ofChange fnExactFirstAboveWrong)

/-- 'laws.FnExactStakesForRods': WHATEVER THE INPUT: true; the input reads as it did. -/
def fnExactStakesForRodsSpec : ChangeSpec := { name := "fnExactStakesForRods", fn := fun _ => fun
  | [d1, d2, d3] => { results := [.lit (.bool true)], args := [d1, d2, d3] }
  | _ => none }
def fnExactStakesForRodsRow : OpenClaim := { program := "ytfpcbccmpdkkpaa", sum := "8fb9bd85a923f0e837ab0cd4be3c8d8e70ec39c3f8b4a880bb6b20e9a56fb647", func := "loop.example/g01064/laws.FnExactStakesForRods", spec := "fnExactStakesForRods", apart := false }
def FnExactStakesForRodsSaid : Prop := fnExactStakesForRodsRow.holds Try.pinned (OpenSpec.ofChange fnExactStakesForRodsSpec)

/-- ITS FALSE NEIGHBOUR: 'it returns false'. Refute it at one input. -/
def fnExactStakesForRodsWrong : ChangeSpec := { name := "fnExactStakesForRods", fn := fun _ => fun
  | [d1, d2, d3] => { results := [.lit (.bool false)], args := [d1, d2, d3] }
  | _ => none }
def FnExactStakesForRodsWrongFalsely : Prop := fnExactStakesForRodsRow.holds Try.pinned (OpenSpec.ofChange fnExactStakesForRodsWrong)

/-- 'laws.FnExactFewestAbove': WHATEVER THE INPUT: true; the input reads as it did. -/
def fnExactFewestAboveSpec : ChangeSpec := { name := "fnExactFewestAbove", fn := fun _ => fun
  | [d1, d2, d3] => { results := [.lit (.bool true)], args := [d1, d2, d3] }
  | _ => none }
def fnExactFewestAboveRow : OpenClaim := { program := "ytfpcbccmpdkkpaa", sum := "8fb9bd85a923f0e837ab0cd4be3c8d8e70ec39c3f8b4a880bb6b20e9a56fb647", func := "loop.example/g01064/laws.FnExactFewestAbove", spec := "fnExactFewestAbove", unfollowed := true, recurses := true, apart := false }
def FnExactFewestAboveSaid : Prop := fnExactFewestAboveRow.holds Try.pinned (OpenSpec.ofChange fnExactFewestAboveSpec)

/-- ITS FALSE NEIGHBOUR: 'it returns false'. Refute it at one input. -/
def fnExactFewestAboveWrong : ChangeSpec := { name := "fnExactFewestAbove", fn := fun _ => fun
  | [d1, d2, d3] => { results := [.lit (.bool false)], args := [d1, d2, d3] }
  | _ => none }
def FnExactFewestAboveWrongFalsely : Prop := fnExactFewestAboveRow.holds Try.pinned (OpenSpec.ofChange fnExactFewestAboveWrong)

/-- 'laws.FnLaidRounds': WHATEVER THE INPUT: true; the input reads as it did. -/
def fnLaidRoundsSpec : ChangeSpec := { name := "fnLaidRounds", fn := fun _ => fun
  | [d1, d2] => { results := [.lit (.bool true)], args := [d1, d2] }
  | _ => none }
def fnLaidRoundsRow : OpenClaim := { program := "ytfpcbccmpdkkpaa", sum := "8fb9bd85a923f0e837ab0cd4be3c8d8e70ec39c3f8b4a880bb6b20e9a56fb647", func := "loop.example/g01064/laws.FnLaidRounds", spec := "fnLaidRounds", apart := false }
def FnLaidRoundsSaid : Prop := fnLaidRoundsRow.holds Try.pinned (OpenSpec.ofChange fnLaidRoundsSpec)

/-- ITS FALSE NEIGHBOUR: 'it returns false'. Refute it at one input. -/
def fnLaidRoundsWrong : ChangeSpec := { name := "fnLaidRounds", fn := fun _ => fun
  | [d1, d2] => { results := [.lit (.bool false)], args := [d1, d2] }
  | _ => none }
def FnLaidRoundsWrongFalsely : Prop := fnLaidRoundsRow.holds Try.pinned (OpenSpec.ofChange fnLaidRoundsWrong)

/-- 'laws.FnExactOrderRods': WHATEVER THE INPUT: true; the input reads as it did. -/
def fnExactOrderRodsSpec : ChangeSpec := { name := "fnExactOrderRods", fn := fun _ => fun
  | [d1, d2, d3] => { results := [.lit (.bool true)], args := [d1, d2, d3] }
  | _ => none }
def fnExactOrderRodsRow : OpenClaim := { program := "ytfpcbccmpdkkpaa", sum := "8fb9bd85a923f0e837ab0cd4be3c8d8e70ec39c3f8b4a880bb6b20e9a56fb647", func := "loop.example/g01064/laws.FnExactOrderRods", spec := "fnExactOrderRods", unfollowed := true, recurses := true, apart := false }
def FnExactOrderRodsSaid : Prop := fnExactOrderRodsRow.holds Try.pinned (OpenSpec.ofChange fnExactOrderRodsSpec)

/-- ITS FALSE NEIGHBOUR: 'it returns false'. Refute it at one input. -/
def fnExactOrderRodsWrong : ChangeSpec := { name := "fnExactOrderRods", fn := fun _ => fun
  | [d1, d2, d3] => { results := [.lit (.bool false)], args := [d1, d2, d3] }
  | _ => none }
def FnExactOrderRodsWrongFalsely : Prop := fnExactOrderRodsRow.holds Try.pinned (OpenSpec.ofChange fnExactOrderRodsWrong)

/-- 'laws.FnJoins': WHATEVER THE INPUT: true; the input reads as it did. -/
def fnJoinsSpec : ChangeSpec := { name := "fnJoins", fn := fun _ => fun
  | [d1, d2] => { results := [.lit (.bool true)], args := [d1, d2] }
  | _ => none }
def fnJoinsRow : OpenClaim := { program := "ytfpcbccmpdkkpaa", sum := "8fb9bd85a923f0e837ab0cd4be3c8d8e70ec39c3f8b4a880bb6b20e9a56fb647", func := "loop.example/g01064/laws.FnJoins", spec := "fnJoins", unfollowed := true, recurses := true, apart := false }
def FnJoinsSaid : Prop := fnJoinsRow.holds Try.pinned (OpenSpec.ofChange fnJoinsSpec)

/-- ITS FALSE NEIGHBOUR: 'it returns false'. Refute it at one input. -/
def fnJoinsWrong : ChangeSpec := { name := "fnJoins", fn := fun _ => fun
  | [d1, d2] => { results := [.lit (.bool false)], args := [d1, d2] }
  | _ => none }
def FnJoinsWrongFalsely : Prop := fnJoinsRow.holds Try.pinned (OpenSpec.ofChange fnJoinsWrong)

/- THE SECOND FORM. 'bulk': how many values and letters a reading holds, each counted each time it is reached (what is shared counts as often as it is met; a slice's spare places count too). A statement '..UptoSaid' is the law's where the arguments, and the package variables that the reading takes, are together of bulk at most 1048576: NARROWER than '..Said'. Prove '..Said' where nothing that the law and all that it calls make is longer than what came in: it says more and counts as full. Else prove '..UptoSaid'. A law counts once. -/
mutual
def uptoBulk {H : Type} : DataW H → Nat
  | .lit (.string bytes) => bytes.length + 1
  | .lit _ => 1
  | .nil => 1
  | .ptr d => uptoBulk d + 1
  | .slice elems spare => uptoBulkAll elems + uptoBulkAll spare + 1
  | .agg parts => uptoBulkAll parts + 1
  | .iface _ d => uptoBulk d + 1
  | .map entries => uptoBulkEntries entries + 1
  | .held _ => 1
def uptoBulkAll {H : Type} : List (DataW H) → Nat
  | [] => 0
  | d :: r => uptoBulk d + uptoBulkAll r
def uptoBulkEntries {H : Type} : List (Lit × DataW H) → Nat
  | [] => 0
  | x :: r => uptoBulkEntry x + uptoBulkEntries r
def uptoBulkEntry {H : Type} : Lit × DataW H → Nat
  | (.string bytes, d) => bytes.length + uptoBulk d + 1
  | (_, d) => uptoBulk d + 1
 end
def uptoSmall : (H : Type) → List (DataW H) → Bool := fun _ ds => decide (uptoBulkAll ds ≤ 1048576)
def OpenSpec.upto (s : _root_.Go.ChangeSpec) : _root_.Go.OpenSpec := { _root_.Go.OpenSpec.ofChange s with cond := some uptoSmall }

/-- 'laws.FnExactValidLaid', WHERE WHAT IT READS IS OF BULK AT MOST 1048576: true; the input reads as it did. -/
def fnExactValidLaidUptoRow : OpenClaim := { program := "ytfpcbccmpdkkpaa", sum := "8fb9bd85a923f0e837ab0cd4be3c8d8e70ec39c3f8b4a880bb6b20e9a56fb647", func := "loop.example/g01064/laws.FnExactValidLaid", spec := "fnExactValidLaid", apart := false, narrowed := true }
def FnExactValidLaidUptoSaid : Prop := fnExactValidLaidUptoRow.holds Try.pinned (OpenSpec.upto fnExactValidLaidSpec)

/-- 'laws.FnExactRoundsLaid', WHERE WHAT IT READS IS OF BULK AT MOST 1048576: true; the input reads as it did. -/
def fnExactRoundsLaidUptoRow : OpenClaim := { program := "ytfpcbccmpdkkpaa", sum := "8fb9bd85a923f0e837ab0cd4be3c8d8e70ec39c3f8b4a880bb6b20e9a56fb647", func := "loop.example/g01064/laws.FnExactRoundsLaid", spec := "fnExactRoundsLaid", apart := false, narrowed := true }
def FnExactRoundsLaidUptoSaid : Prop := fnExactRoundsLaidUptoRow.holds Try.pinned (OpenSpec.upto fnExactRoundsLaidSpec)

/-- 'laws.FnExactJoinsOf', WHERE WHAT IT READS IS OF BULK AT MOST 1048576: true; the input reads as it did. -/
def fnExactJoinsOfUptoRow : OpenClaim := { program := "ytfpcbccmpdkkpaa", sum := "8fb9bd85a923f0e837ab0cd4be3c8d8e70ec39c3f8b4a880bb6b20e9a56fb647", func := "loop.example/g01064/laws.FnExactJoinsOf", spec := "fnExactJoinsOf", apart := false, narrowed := true }
def FnExactJoinsOfUptoSaid : Prop := fnExactJoinsOfUptoRow.holds Try.pinned (OpenSpec.upto fnExactJoinsOfSpec)

/-- 'laws.FnExactCountAbove', WHERE WHAT IT READS IS OF BULK AT MOST 1048576: true; the input reads as it did. -/
def fnExactCountAboveUptoRow : OpenClaim := { program := "ytfpcbccmpdkkpaa", sum := "8fb9bd85a923f0e837ab0cd4be3c8d8e70ec39c3f8b4a880bb6b20e9a56fb647", func := "loop.example/g01064/laws.FnExactCountAbove", spec := "fnExactCountAbove", apart := false, narrowed := true }
def FnExactCountAboveUptoSaid : Prop := fnExactCountAboveUptoRow.holds Try.pinned (OpenSpec.upto fnExactCountAboveSpec)

/-- 'laws.FnExactFirstAbove', WHERE WHAT IT READS IS OF BULK AT MOST 1048576: true; the input reads as it did. -/
def fnExactFirstAboveUptoRow : OpenClaim := { program := "ytfpcbccmpdkkpaa", sum := "8fb9bd85a923f0e837ab0cd4be3c8d8e70ec39c3f8b4a880bb6b20e9a56fb647", func := "loop.example/g01064/laws.FnExactFirstAbove", spec := "fnExactFirstAbove", apart := false, narrowed := true }
def FnExactFirstAboveUptoSaid : Prop := fnExactFirstAboveUptoRow.holds Try.pinned (OpenSpec.upto fnExactFirstAboveSpec)

/-- 'laws.FnExactStakesForRods', WHERE WHAT IT READS IS OF BULK AT MOST 1048576: true; the input reads as it did. -/
def fnExactStakesForRodsUptoRow : OpenClaim := { program := "ytfpcbccmpdkkpaa", sum := "8fb9bd85a923f0e837ab0cd4be3c8d8e70ec39c3f8b4a880bb6b20e9a56fb647", func := "loop.example/g01064/laws.FnExactStakesForRods", spec := "fnExactStakesForRods", apart := false, narrowed := true }
def FnExactStakesForRodsUptoSaid : Prop := fnExactStakesForRodsUptoRow.holds Try.pinned (OpenSpec.upto fnExactStakesForRodsSpec)

/-- 'laws.FnExactFewestAbove', WHERE WHAT IT READS IS OF BULK AT MOST 1048576: true; the input reads as it did. -/
def fnExactFewestAboveUptoRow : OpenClaim := { program := "ytfpcbccmpdkkpaa", sum := "8fb9bd85a923f0e837ab0cd4be3c8d8e70ec39c3f8b4a880bb6b20e9a56fb647", func := "loop.example/g01064/laws.FnExactFewestAbove", spec := "fnExactFewestAbove", unfollowed := true, recurses := true, apart := false, narrowed := true }
def FnExactFewestAboveUptoSaid : Prop := fnExactFewestAboveUptoRow.holds Try.pinned (OpenSpec.upto fnExactFewestAboveSpec)

/-- 'laws.FnLaidRounds', WHERE WHAT IT READS IS OF BULK AT MOST 1048576: true; the input reads as it did. -/
def fnLaidRoundsUptoRow : OpenClaim := { program := "ytfpcbccmpdkkpaa", sum := "8fb9bd85a923f0e837ab0cd4be3c8d8e70ec39c3f8b4a880bb6b20e9a56fb647", func := "loop.example/g01064/laws.FnLaidRounds", spec := "fnLaidRounds", apart := false, narrowed := true }
def FnLaidRoundsUptoSaid : Prop := fnLaidRoundsUptoRow.holds Try.pinned (OpenSpec.upto fnLaidRoundsSpec)

/-- 'laws.FnExactOrderRods', WHERE WHAT IT READS IS OF BULK AT MOST 1048576: true; the input reads as it did. -/
def fnExactOrderRodsUptoRow : OpenClaim := { program := "ytfpcbccmpdkkpaa", sum := "8fb9bd85a923f0e837ab0cd4be3c8d8e70ec39c3f8b4a880bb6b20e9a56fb647", func := "loop.example/g01064/laws.FnExactOrderRods", spec := "fnExactOrderRods", unfollowed := true, recurses := true, apart := false, narrowed := true }
def FnExactOrderRodsUptoSaid : Prop := fnExactOrderRodsUptoRow.holds Try.pinned (OpenSpec.upto fnExactOrderRodsSpec)

/-- 'laws.FnJoins', WHERE WHAT IT READS IS OF BULK AT MOST 1048576: true; the input reads as it did. -/
def fnJoinsUptoRow : OpenClaim := { program := "ytfpcbccmpdkkpaa", sum := "8fb9bd85a923f0e837ab0cd4be3c8d8e70ec39c3f8b4a880bb6b20e9a56fb647", func := "loop.example/g01064/laws.FnJoins", spec := "fnJoins", unfollowed := true, recurses := true, apart := false, narrowed := true }
def FnJoinsUptoSaid : Prop := fnJoinsUptoRow.holds Try.pinned (OpenSpec.upto fnJoinsSpec)

end Rows
end Go.Proofs.Ytfpcbccmpdkkpaa
