/-
  No cell of these rows narrows 'for every input' (looked for: loops, veiled, ifaces, maps, wideKeys, modest, calm, conditions, laid).
  DERIVED. THE GIVEN ROWS OF THIS SEAT. 10 by the template 'for every input the law returns true; each argument reads behind the call as it read before'; 0 by the template 'total and deterministic' (their statements: YtepeklmeiooaeaaTotals.lean).
  GIVEN WITH THE SEED: the statements are not yours to turn. If you find one false, say at which input.
  Laid BY PROGRAM, IN A SANDBOX (cutbox-rows.mjs): the forced cells as the released guide's own fill.sh prints them over the translation 687d8088a0521a5e… (all of the seat's roots in one cut). By AI agents, Wed Nov 11 2026. No macro, syntax, notation, axiom, sorry.
-/
import Derived.Test.YtepeklmeiooaeaaChecked
import GoSem.Claim
import GoSem.ClaimJoined
import GoSem.ClaimMapViews
import Derived.JoinedTies
import Derived.KernelRfl
namespace Go.Proofs.Ytepeklmeiooaeaa
/- THE CELL 'sum', in the pinned program and in every row, IS THE sha256 OF THE DUMP (.gsa) THAT YtepeklmeiooaeaaProg.lean LOADS. Nothing in Lean hashes anything: it is a label: what it is worth is what the hold of that sum in a sandbox is worth. -/
noncomputable def Try.pinned : Pinned := { name := "ytepeklmeiooaeaa", sum := "687d8088a0521a5e23ad6673c25e56dbc22d60b3e39b670439e6b2324016324f", checked := Try.checked }
namespace Rows
def none {H : Type} : Left H := { results := [], args := [] }

/-- 'laws.FnExactValidBase': WHATEVER THE INPUT: true; the input reads as it did. -/
def fnExactValidBaseSpec : ChangeSpec := { name := "fnExactValidBase", fn := fun _ => fun
  | [d] => { results := [.lit (.bool true)], args := [d] }
  | _ => none }
def fnExactValidBaseRow : OpenClaim := { program := "ytepeklmeiooaeaa", sum := "687d8088a0521a5e23ad6673c25e56dbc22d60b3e39b670439e6b2324016324f", func := "loop.example/g01064/laws.FnExactValidBase", spec := "fnExactValidBase", apart := false }
def FnExactValidBaseSaid : Prop := fnExactValidBaseRow.holds Try.pinned (OpenSpec.ofChange fnExactValidBaseSpec)

/-- ITS FALSE NEIGHBOUR: 'it returns false'. Refute it at one input. -/
def fnExactValidBaseWrong : ChangeSpec := { name := "fnExactValidBase", fn := fun _ => fun
  | [d] => { results := [.lit (.bool false)], args := [d] }
  | _ => none }
def FnExactValidBaseWrongFalsely : Prop := fnExactValidBaseRow.holds Try.pinned (OpenSpec.ofChange fnExactValidBaseWrong)

/-- 'laws.FnExactBaseFor': WHATEVER THE INPUT: true; the input reads as it did. -/
def fnExactBaseForSpec : ChangeSpec := { name := "fnExactBaseFor", fn := fun _ => fun
  | [d] => { results := [.lit (.bool true)], args := [d] }
  | _ => none }
def fnExactBaseForRow : OpenClaim := { program := "ytepeklmeiooaeaa", sum := "687d8088a0521a5e23ad6673c25e56dbc22d60b3e39b670439e6b2324016324f", func := "loop.example/g01064/laws.FnExactBaseFor", spec := "fnExactBaseFor", apart := false }
def FnExactBaseForSaid : Prop := fnExactBaseForRow.holds Try.pinned (OpenSpec.ofChange fnExactBaseForSpec)

/-- ITS FALSE NEIGHBOUR: 'it returns false'. Refute it at one input. -/
def fnExactBaseForWrong : ChangeSpec := { name := "fnExactBaseFor", fn := fun _ => fun
  | [d] => { results := [.lit (.bool false)], args := [d] }
  | _ => none }
def FnExactBaseForWrongFalsely : Prop := fnExactBaseForRow.holds Try.pinned (OpenSpec.ofChange fnExactBaseForWrong)

/-- 'laws.FnExactEndsOf': WHATEVER THE INPUT: true; the input reads as it did. -/
def fnExactEndsOfSpec : ChangeSpec := { name := "fnExactEndsOf", fn := fun _ => fun
  | [d] => { results := [.lit (.bool true)], args := [d] }
  | _ => none }
def fnExactEndsOfRow : OpenClaim := { program := "ytepeklmeiooaeaa", sum := "687d8088a0521a5e23ad6673c25e56dbc22d60b3e39b670439e6b2324016324f", func := "loop.example/g01064/laws.FnExactEndsOf", spec := "fnExactEndsOf", apart := false }
def FnExactEndsOfSaid : Prop := fnExactEndsOfRow.holds Try.pinned (OpenSpec.ofChange fnExactEndsOfSpec)

/-- ITS FALSE NEIGHBOUR: 'it returns false'. Refute it at one input. -/
def fnExactEndsOfWrong : ChangeSpec := { name := "fnExactEndsOf", fn := fun _ => fun
  | [d] => { results := [.lit (.bool false)], args := [d] }
  | _ => none }
def FnExactEndsOfWrongFalsely : Prop := fnExactEndsOfRow.holds Try.pinned (OpenSpec.ofChange fnExactEndsOfWrong)

/-- 'laws.FnExactStakesFrom': WHATEVER THE INPUT: true; the input reads as it did. -/
def fnExactStakesFromSpec : ChangeSpec := { name := "fnExactStakesFrom", fn := fun _ => fun
  | [d1, d2, d3] => { results := [.lit (.bool true)], args := [d1, d2, d3] }
  | _ => none }
def fnExactStakesFromRow : OpenClaim := { program := "ytepeklmeiooaeaa", sum := "687d8088a0521a5e23ad6673c25e56dbc22d60b3e39b670439e6b2324016324f", func := "loop.example/g01064/laws.FnExactStakesFrom", spec := "fnExactStakesFrom", apart := false }
def FnExactStakesFromSaid : Prop := fnExactStakesFromRow.holds Try.pinned (OpenSpec.ofChange fnExactStakesFromSpec)

/-- ITS FALSE NEIGHBOUR: 'it returns false'. Refute it at one input. -/
def fnExactStakesFromWrong : ChangeSpec := { name := "fnExactStakesFrom", fn := fun _ => fun
  | [d1, d2, d3] => { results := [.lit (.bool false)], args := [d1, d2, d3] }
  | _ => none }
def FnExactStakesFromWrongFalsely : Prop := fnExactStakesFromRow.holds Try.pinned (OpenSpec.ofChange fnExactStakesFromWrong)

/-- 'laws.FnExactWeaverFor': WHATEVER THE INPUT: true; the input reads as it did. -/
def fnExactWeaverForSpec : ChangeSpec := { name := "fnExactWeaverFor", fn := fun _ => fun
  | [d] => { results := [.lit (.bool true)], args := [d] }
  | _ => none }
def fnExactWeaverForRow : OpenClaim := { program := "ytepeklmeiooaeaa", sum := "687d8088a0521a5e23ad6673c25e56dbc22d60b3e39b670439e6b2324016324f", func := "loop.example/g01064/laws.FnExactWeaverFor", spec := "fnExactWeaverFor", apart := false }
def FnExactWeaverForSaid : Prop := fnExactWeaverForRow.holds Try.pinned (OpenSpec.ofChange fnExactWeaverForSpec)

/-- ITS FALSE NEIGHBOUR: 'it returns false'. Refute it at one input. -/
def fnExactWeaverForWrong : ChangeSpec := { name := "fnExactWeaverFor", fn := fun _ => fun
  | [d] => { results := [.lit (.bool false)], args := [d] }
  | _ => none }
def FnExactWeaverForWrongFalsely : Prop := fnExactWeaverForRow.holds Try.pinned (OpenSpec.ofChange fnExactWeaverForWrong)

/-- 'laws.FnExactFirstOpen': WHATEVER THE INPUT: true; the input reads as it did. -/
def fnExactFirstOpenSpec : ChangeSpec := { name := "fnExactFirstOpen", fn := fun _ => fun
  | [d1, d2] => { results := [.lit (.bool true)], args := [d1, d2] }
  | _ => none }
def fnExactFirstOpenRow : OpenClaim := { program := "ytepeklmeiooaeaa", sum := "687d8088a0521a5e23ad6673c25e56dbc22d60b3e39b670439e6b2324016324f", func := "loop.example/g01064/laws.FnExactFirstOpen", spec := "fnExactFirstOpen", apart := false }
def FnExactFirstOpenSaid : Prop := fnExactFirstOpenRow.holds Try.pinned (OpenSpec.ofChange fnExactFirstOpenSpec)

/-- ITS FALSE NEIGHBOUR: 'it returns false'. Refute it at one input. -/
def fnExactFirstOpenWrong : ChangeSpec := { name := "fnExactFirstOpen", fn := fun _ => fun
  | [d1, d2] => { results := [.lit (.bool false)], args := [d1, d2] }
  | _ => none }
def FnExactFirstOpenWrongFalsely : Prop := fnExactFirstOpenRow.holds Try.pinned (OpenSpec.ofChange fnExactFirstOpenWrong)

/-- 'laws.FnExactLengthOfRing': WHATEVER THE INPUT: true; the input reads as it did. -/
def fnExactLengthOfRingSpec : ChangeSpec := { name := "fnExactLengthOfRing", fn := fun _ => fun
  | [d1, d2] => { results := [.lit (.bool true)], args := [d1, d2] }
  | _ => none }
def fnExactLengthOfRingRow : OpenClaim := { program := "ytepeklmeiooaeaa", sum := "687d8088a0521a5e23ad6673c25e56dbc22d60b3e39b670439e6b2324016324f", func := "loop.example/g01064/laws.FnExactLengthOfRing", spec := "fnExactLengthOfRing", apart := false }
def FnExactLengthOfRingSaid : Prop := fnExactLengthOfRingRow.holds Try.pinned (OpenSpec.ofChange fnExactLengthOfRingSpec)

/-- ITS FALSE NEIGHBOUR: 'it returns false'. Refute it at one input. -/
def fnExactLengthOfRingWrong : ChangeSpec := { name := "fnExactLengthOfRing", fn := fun _ => fun
  | [d1, d2] => { results := [.lit (.bool false)], args := [d1, d2] }
  | _ => none }
def FnExactLengthOfRingWrongFalsely : Prop := fnExactLengthOfRingRow.holds Try.pinned (OpenSpec.ofChange fnExactLengthOfRingWrong)

/-- 'laws.FnExactRingsOf': WHATEVER THE INPUT: true; the input reads as it did. -/
def fnExactRingsOfSpec : ChangeSpec := { name := "fnExactRingsOf", fn := fun _ => fun
  | [d] => { results := [.lit (.bool true)], args := [d] }
  | _ => none }
def fnExactRingsOfRow : OpenClaim := { program := "ytepeklmeiooaeaa", sum := "687d8088a0521a5e23ad6673c25e56dbc22d60b3e39b670439e6b2324016324f", func := "loop.example/g01064/laws.FnExactRingsOf", spec := "fnExactRingsOf", apart := false }
def FnExactRingsOfSaid : Prop := fnExactRingsOfRow.holds Try.pinned (OpenSpec.ofChange fnExactRingsOfSpec)

/-- ITS FALSE NEIGHBOUR: 'it returns false'. Refute it at one input. -/
def fnExactRingsOfWrong : ChangeSpec := { name := "fnExactRingsOf", fn := fun _ => fun
  | [d] => { results := [.lit (.bool false)], args := [d] }
  | _ => none }
def FnExactRingsOfWrongFalsely : Prop := fnExactRingsOfRow.holds Try.pinned (OpenSpec.ofChange fnExactRingsOfWrong)

/-- 'laws.FnExactGapsAt': WHATEVER THE INPUT: true; the input reads as it did. -/
def fnExactGapsAtSpec : ChangeSpec := { name := "fnExactGapsAt", fn := fun _ => fun
  | [d1, d2] => { results := [.lit (.bool true)], args := [d1, d2] }
  | _ => none }
def fnExactGapsAtRow : OpenClaim := { program := "ytepeklmeiooaeaa", sum := "687d8088a0521a5e23ad6673c25e56dbc22d60b3e39b670439e6b2324016324f", func := "loop.example/g01064/laws.FnExactGapsAt", spec := "fnExactGapsAt", apart := false }
def FnExactGapsAtSaid : Prop := fnExactGapsAtRow.holds Try.pinned (OpenSpec.ofChange fnExactGapsAtSpec)

/-- ITS FALSE NEIGHBOUR: 'it returns false'. Refute it at one input. -/
def fnExactGapsAtWrong : ChangeSpec := { name := "fnExactGapsAt", fn := fun _ => fun
  | [d1, d2] => { results := [.lit (.bool false)], args := [d1, d2] }
  | _ => none }
def FnExactGapsAtWrongFalsely : Prop := fnExactGapsAtRow.holds Try.pinned (OpenSpec.ofChange fnExactGapsAtWrong)

/-- 'laws.FnSticks': WHATEVER THE INPUT: true; the input reads as it did. -/
def fnSticksSpec : ChangeSpec := { name := "fnSticks", fn := fun _ => fun
  | [d] => { results := [.lit (.bool true)], args := [d] }
  | _ => none }
def fnSticksRow : OpenClaim := { program := "ytepeklmeiooaeaa", sum := "687d8088a0521a5e23ad6673c25e56dbc22d60b3e39b670439e6b2324016324f", func := "loop.example/g01064/laws.FnSticks", spec := "fnSticks", apart := false }
def FnSticksSaid : Prop := fnSticksRow.holds Try.pinned (OpenSpec.ofChange fnSticksSpec)

/-- ITS FALSE NEIGHBOUR: 'it returns false'. Refute it at one input. -/
def fnSticksWrong : ChangeSpec := { name := "fnSticks", fn := fun _ => fun
  | [d] => { results := [.lit (.bool false)], args := [d] }
  | _ => none }
def FnSticksWrongFalsely : Prop := fnSticksRow.holds Try.pinned (OpenSpec.ofChange fnSticksWrong)

/- THE SECOND FORM. 'bulk': how many values and letters a reading holds, each counted each time it is reached (what is shared counts as often as it is met; a slice's spare places count too). A statement '..UptoSaid' is the law's where the arguments, and the package variables that the reading takes, are together of bulk at most 1048576: NARROWER than '..Said'. Prove '..Said' where nothing that the law and all that it calls make is longer than what came in: it says more and counts as full. Else prove '..UptoSaid'. A law counts once. -/
mutual
def uptoBulk {H : Type} : DataW H → Nat
  | .lit (.string bytes) => bytes.length + 1
  | .lit _ => 1
  | .nil => 1
  | .ptr d => uptoBulk d + 1
  | .slice elems spare => uptoBulkAll elems + uptoBulkAll spare + 1
  | .agg parts => uptoBulkAll parts + 1
  | .iface _ d => uptoBulk d + 1
  | .map entries => uptoBulkEntries entries + 1
  | .held _ => 1
def uptoBulkAll {H : Type} : List (DataW H) → Nat
  | [] => 0
  | d :: r => uptoBulk d + uptoBulkAll r
def uptoBulkEntries {H : Type} : List (Lit × DataW H) → Nat
  | [] => 0
  | x :: r => uptoBulkEntry x + uptoBulkEntries r
def uptoBulkEntry {H : Type} : Lit × DataW H → Nat
  | (.string bytes, d) => bytes.length + uptoBulk d + 1
  | (_, d) => uptoBulk d + 1
 end
def uptoSmall : (H : Type) → List (DataW H) → Bool := fun _ ds => decide (uptoBulkAll ds ≤ 1048576)
def OpenSpec.upto (s : _root_.Go.ChangeSpec) : _root_.Go.OpenSpec := { _root_.Go.OpenSpec.ofChange s with cond := some uptoSmall }

/-- 'laws.FnExactValidBase', WHERE WHAT IT READS IS OF BULK AT MOST 1048576: true; the input reads as it did. -/
def fnExactValidBaseUptoRow : OpenClaim := { program := "ytepeklmeiooaeaa", sum := "687d8088a0521a5e23ad6673c25e56dbc22d60b3e39b670439e6b2324016324f", func := "loop.example/g01064/laws.FnExactValidBase", spec := "fnExactValidBase", apart := false, narrowed := true }
def FnExactValidBaseUptoSaid : Prop := fnExactValidBaseUptoRow.holds Try.pinned (OpenSpec.upto fnExactValidBaseSpec)

/-- 'laws.FnExactBaseFor', WHERE WHAT IT READS IS OF BULK AT MOST 1048576: true; the input reads as it did. -/
def fnExactBaseForUptoRow : OpenClaim := { program := "ytepeklmeiooaeaa", sum := "687d8088a0521a5e23ad6673c25e56dbc22d60b3e39b670439e6b2324016324f", func := "loop.example/g01064/laws.FnExactBaseFor", spec := "fnExactBaseFor", apart := false, narrowed := true }
def FnExactBaseForUptoSaid : Prop := fnExactBaseForUptoRow.holds Try.pinned (OpenSpec.upto fnExactBaseForSpec)

/-- 'laws.FnExactEndsOf', WHERE WHAT IT READS IS OF BULK AT MOST 1048576: true; the input reads as it did. -/
def fnExactEndsOfUptoRow : OpenClaim := { program := "ytepeklmeiooaeaa", sum := "687d8088a0521a5e23ad6673c25e56dbc22d60b3e39b670439e6b2324016324f", func := "loop.example/g01064/laws.FnExactEndsOf", spec := "fnExactEndsOf", apart := false, narrowed := true }
def FnExactEndsOfUptoSaid : Prop := fnExactEndsOfUptoRow.holds Try.pinned (OpenSpec.upto fnExactEndsOfSpec)

/-- 'laws.FnExactStakesFrom', WHERE WHAT IT READS IS OF BULK AT MOST 1048576: true; the input reads as it did. -/
def fnExactStakesFromUptoRow : OpenClaim := { program := "ytepeklmeiooaeaa", sum := "687d8088a0521a5e23ad6673c25e56dbc22d60b3e39b670439e6b2324016324f", func := "loop.example/g01064/laws.FnExactStakesFrom", spec := "fnExactStakesFrom", apart := false, narrowed := true }
def FnExactStakesFromUptoSaid : Prop := fnExactStakesFromUptoRow.holds Try.pinned (OpenSpec.upto fnExactStakesFromSpec)

/-- 'laws.FnExactWeaverFor', WHERE WHAT IT READS IS OF BULK AT MOST 1048576: true; the input reads as it did. -/
def fnExactWeaverForUptoRow : OpenClaim := { program := "ytepeklmeiooaeaa", sum := "687d8088a0521a5e23ad6673c25e56dbc22d60b3e39b670439e6b2324016324f", func := "loop.example/g01064/laws.FnExactWeaverFor", spec := "fnExactWeaverFor", apart := false, narrowed := true }
def FnExactWeaverForUptoSaid : Prop := fnExactWeaverForUptoRow.holds Try.pinned (OpenSpec.upto fnExactWeaverForSpec)

/-- 'laws.FnExactFirstOpen', WHERE WHAT IT READS IS OF BULK AT MOST 1048576: true; the input reads as it did. -/
def fnExactFirstOpenUptoRow : OpenClaim := { program := "ytepeklmeiooaeaa", sum := "687d8088a0521a5e23ad6673c25e56dbc22d60b3e39b670439e6b2324016324f", func := "loop.example/g01064/laws.FnExactFirstOpen", spec := "fnExactFirstOpen", apart := false, narrowed := true }
def FnExactFirstOpenUptoSaid : Prop := fnExactFirstOpenUptoRow.holds Try.pinned (OpenSpec.upto fnExactFirstOpenSpec)

/-- 'laws.FnExactLengthOfRing', WHERE WHAT IT READS IS OF BULK AT MOST 1048576: true; the input reads as it did. -/
def fnExactLengthOfRingUptoRow : OpenClaim := { program := "ytepeklmeiooaeaa", sum := "687d8088a0521a5e23ad6673c25e56dbc22d60b3e39b670439e6b2324016324f", func := "loop.example/g01064/laws.FnExactLengthOfRing", spec := "fnExactLengthOfRing", apart := false, narrowed := true }
def FnExactLengthOfRingUptoSaid : Prop := fnExactLengthOfRingUptoRow.holds Try.pinned (OpenSpec.upto fnExactLengthOfRingSpec)

/-- 'laws.FnExactRingsOf', WHERE WHAT IT READS IS OF BULK AT MOST 1048576: true; the input reads as it did. -/
def fnExactRingsOfUptoRow : OpenClaim := { program := "ytepeklmeiooaeaa", sum := "687d8088a0521a5e23ad6673c25e56dbc22d60b3e39b670439e6b2324016324f", func := "loop.example/g01064/laws.FnExactRingsOf", spec := "fnExactRingsOf", apart := false, narrowed := true }
def FnExactRingsOfUptoSaid : Prop := fnExactRingsOfUptoRow.holds Try.pinned (OpenSpec.upto fnExactRingsOfSpec)

/-- 'laws.FnExactGapsAt', WHERE WHAT IT READS IS OF BULK AT MOST 1048576: true; the input reads as it did. -/
def fnExactGapsAtUptoRow : OpenClaim := { program := "ytepeklmeiooaeaa", sum := "687d8088a0521a5e23ad6673c25e56dbc22d60b3e39b670439e6b2324016324f", func := "loop.example/g01064/laws.FnExactGapsAt", spec := "fnExactGapsAt", apart := false, narrowed := true }
def FnExactGapsAtUptoSaid : Prop := fnExactGapsAtUptoRow.holds Try.pinned (OpenSpec.upto fnExactGapsAtSpec)

/-- 'laws.FnSticks', WHERE WHAT IT READS IS OF BULK AT MOST 1048576: true; the input reads as it did. -/
def fnSticksUptoRow : OpenClaim := { program := "ytepeklmeiooaeaa", sum := "687d8088a0521a5e23ad6673c25e56dbc22d60b3e39b670439e6b2324016324f", func := "loop.example/g01064/laws.FnSticks", spec := "fnSticks", apart := false, narrowed := true }
def FnSticksUptoSaid : Prop := fnSticksUptoRow.holds Try.pinned (OpenSpec.upto fnSticksSpec)

end Rows
end Go.Proofs.Ytepeklmeiooaeaa
