/-
  No cell of these rows narrows 'for every input' (looked for: loops, veiled, ifaces, maps, wideKeys, modest, calm, conditions, laid).
  DERIVED. THE GIVEN ROWS OF THIS SEAT. 3 by the template 'for every input the law returns true; each argument reads behind the call as it read before'; 0 by the template 'total and deterministic' (their statements: YtdbgicfbigjmmaaTotals.lean).
  GIVEN WITH THE SEED: the statements are not yours to turn. If you find one false, say at which input.
  Laid BY PROGRAM, IN A SANDBOX (cutbox-rows.mjs): the forced cells as the released guide's own fill.sh prints them over the translation da10208f1dfe260e… (all of the seat's roots in one cut). By AI agents, Wed Nov 11 2026. No macro, syntax, notation, axiom, sorry.
-/
import Derived.Test.YtdbgicfbigjmmaaChecked
import GoSem.Claim
import GoSem.ClaimJoined
import GoSem.ClaimMapViews
import Derived.JoinedTies
import Derived.KernelRfl
namespace Go.Proofs.Ytdbgicfbigjmmaa
/- THE CELL 'sum', in the pinned program and in every row, IS THE sha256 OF THE DUMP (.gsa) THAT YtdbgicfbigjmmaaProg.lean LOADS. Nothing in Lean hashes anything: it is a label: what it is worth is what the hold of that sum in a sandbox is worth. -/
noncomputable def Try.pinned : Pinned := { name := "ytdbgicfbigjmmaa", sum := "da10208f1dfe260eac954cebf625c764756fea2e4cf563fbda3b32c812517a1c", checked := Try.checked }
namespace Rows
def none {H : Type} : Left H := { results := [], args := [] }

/-- 'laws.FnExactFewestAbove': WHATEVER THE INPUT: true; the input reads as it did. -/
def fnExactFewestAboveSpec : ChangeSpec := { name := "fnExactFewestAbove", fn := fun _ => fun
  | [d1, d2, d3] => { results := [.lit (.bool true)], args := [d1, d2, d3] }
  | _ => none }
def fnExactFewestAboveRow : OpenClaim := { program := "ytdbgicfbigjmmaa", sum := "da10208f1dfe260eac954cebf625c764756fea2e4cf563fbda3b32c812517a1c", func := "loop.example/g01064/laws.FnExactFewestAbove", spec := "fnExactFewestAbove", unfollowed := true, recurses := true, apart := false }
def FnExactFewestAboveSaid : Prop := fnExactFewestAboveRow.holds Try.pinned (OpenSpec.ofChange fnExactFewestAboveSpec)

/-- ITS FALSE NEIGHBOUR: 'it returns false'. Refute it at one input. -/
def fnExactFewestAboveWrong : ChangeSpec := { name := "fnExactFewestAbove", fn := fun _ => fun
  | [d1, d2, d3] => { results := [.lit (.bool false)], args := [d1, d2, d3] }
  | _ => none }
def FnExactFewestAboveWrongFalsely : Prop := fnExactFewestAboveRow.holds Try.pinned (OpenSpec.ofChange fnExactFewestAboveWrong)

/-- 'laws.FnExactOrderRods': WHATEVER THE INPUT: true; the input reads as it did. -/
def fnExactOrderRodsSpec : ChangeSpec := { name := "fnExactOrderRods", fn := fun _ => fun
  | [d1, d2, d3] => { results := [.lit (.bool true)], args := [d1, d2, d3] }
  | _ => none }
def fnExactOrderRodsRow : OpenClaim := { program := "ytdbgicfbigjmmaa", sum := "da10208f1dfe260eac954cebf625c764756fea2e4cf563fbda3b32c812517a1c", func := "loop.example/g01064/laws.FnExactOrderRods", spec := "fnExactOrderRods", unfollowed := true, recurses := true, apart := false }
def FnExactOrderRodsSaid : Prop := fnExactOrderRodsRow.holds Try.pinned (OpenSpec.ofChange fnExactOrderRodsSpec)

/-- ITS FALSE NEIGHBOUR: 'it returns false'. Refute it at one input. -/
def fnExactOrderRodsWrong : ChangeSpec := { name := "fnExactOrderRods", fn := fun _ => fun
  | [d1, d2, d3] => { results := [.lit (.bool false)], args := [d1, d2, d3] }
  | _ => none }
def FnExactOrderRodsWrongFalsely : Prop := fnExactOrderRodsRow.holds Try.pinned (OpenSpec.ofChange fnExactOrderRodsWrong)

/-- 'laws.FnJoins': WHATEVER THE INPUT: true; the input reads as it did. -/
def fnJoinsSpec : ChangeSpec := { name := "fnJoins", fn := fun _ => fun
  | [d1, d2] => { results := [.lit (.bool true)], args := [d1, d2] }
  | _ => none }
def fnJoinsRow : OpenClaim := { program := "ytdbgicfbigjmmaa", sum := "da10208f1dfe260eac954cebf625c764756fea2e4cf563fbda3b32c812517a1c", func := "loop.example/g01064/laws.FnJoins", spec := "fnJoins", unfollowed := true, recurses := true, apart := false }
def FnJoinsSaid : Prop := fnJoinsRow.holds Try.pinned (OpenSpec.ofChange fnJoinsSpec)

/-- ITS FALSE NEIGHBOUR: 'it returns false'. Refute it at one input. -/
def fnJoinsWrong : ChangeSpec := { name := "fnJoins", fn := fun _ => fun
  | [d1, d2] => { results := [.lit (.bool false)], args := [d1, d2] }
  | _ => none }
def FnJoinsWrongFalsely : Prop := fnJoinsRow.holds Try.pinned (OpenSpec.ofChange fnJoinsWrong)

/- THE SECOND FORM. 'bulk': how many values and letters a reading holds, each counted each time it is reached (what is shared counts as often as it is met; a slice's spare places count too). A statement '..UptoSaid' is the law's where the arguments, and the package variables that the reading takes, are together of bulk at most 1048576: NARROWER than '..Said'. Prove '..Said' where nothing that the law and all that it calls make is longer than what came in: it says more and counts as full. Else prove '..UptoSaid'. A law counts once. -/
mutual
def uptoBulk {H : Type} : DataW H → Nat
  | .lit (.string bytes) => bytes.length + 1
  | .lit _ => 1
  | .nil => 1
  | .ptr d => uptoBulk d + 1
  | .slice elems spare => uptoBulkAll elems + uptoBulkAll spare + 1
  | .agg parts => uptoBulkAll parts + 1
  | .iface _ d => uptoBulk d + 1
  | .map entries => uptoBulkEntries entries + 1
  | .held _ => 1
def uptoBulkAll {H : Type} : List (DataW H) → Nat
  | [] => 0
  | d :: r => uptoBulk d + uptoBulkAll r
def uptoBulkEntries {H : Type} : List (Lit × DataW H) → Nat
  | [] => 0
  | x :: r => uptoBulkEntry x + uptoBulkEntries r
def uptoBulkEntry {H : Type} : Lit × DataW H → Nat
  | (.string bytes, d) => bytes.length + uptoBulk d + 1
  | (_, d) => uptoBulk d + 1
 end
def uptoSmall : (H : Type) → List (DataW H) → Bool := fun _ ds => decide (uptoBulkAll ds ≤ 1048576)
def OpenSpec.upto (s : _root_.Go.ChangeSpec) : _root_.Go.OpenSpec := { _root_.Go.OpenSpec.ofChange s with cond := some uptoSmall }

/-- 'laws.FnExactFewestAbove', WHERE WHAT IT READS IS OF BULK AT MOST 1048576: true; the input reads as it did. -/
def fnExactFewestAboveUptoRow : OpenClaim := { program := "ytdbgicfbigjmmaa", sum := "da10208f1dfe260eac954cebf625c764756fea2e4cf563fbda3b32c812517a1c", func := "loop.example/g01064/laws.FnExactFewestAbove", spec := "fnExactFewestAbove", unfollowed := true, recurses := true, apart := false, narrowed := true }
def FnExactFewestAboveUptoSaid : Prop := fnExactFewestAboveUptoRow.holds Try.pinned (OpenSpec.upto fnExactFewestAboveSpec)

/-- 'laws.FnExactOrderRods', WHERE WHAT IT READS IS OF BULK AT MOST 1048576: true; the input reads as it did. -/
def fnExactOrderRodsUptoRow : OpenClaim := { program := "ytdbgicfbigjmmaa", sum := "da10208f1dfe260eac954cebf625c764756fea2e4cf563fbda3b32c812517a1c", func := "loop.example/g01064/laws.FnExactOrderRods", spec := "fnExactOrderRods", unfollowed := true, recurses := true, apart := false, narrowed := true }
def FnExactOrderRodsUptoSaid : Prop := fnExactOrderRodsUptoRow.holds Try.pinned (OpenSpec.upto fnExactOrderRodsSpec)

/-- 'laws.FnJoins', WHERE WHAT IT READS IS OF BULK AT MOST 1048576: true; the input reads as it did. -/
def fnJoinsUptoRow : OpenClaim := { program := "ytdbgicfbigjmmaa", sum := "da10208f1dfe260eac954cebf625c764756fea2e4cf563fbda3b32c812517a1c", func := "loop.example/g01064/laws.FnJoins", spec := "fnJoins", unfollowed := true, recurses := true, apart := false, narrowed := true }
def FnJoinsUptoSaid : Prop := fnJoinsUptoRow.holds Try.pinned (OpenSpec.upto fnJoinsSpec)

end Rows
end Go.Proofs.Ytdbgicfbigjmmaa
