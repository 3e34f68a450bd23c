/-
  No cell of these rows narrows 'for every input' (looked for: loops, veiled, ifaces, maps, wideKeys, modest, calm, conditions, laid).
  DERIVED. THE GIVEN ROWS OF THIS SEAT. 8 by the template 'for every input the law returns true; each argument reads behind the call as it read before'; 0 by the template 'total and deterministic' (their statements: YtlkhjhlncfdakaaTotals.lean).
  GIVEN WITH THE SEED: the statements are not yours to turn. If you find one false, say at which input.
  Laid BY PROGRAM, IN A SANDBOX (cutbox-rows.mjs): the forced cells as the released guide's own fill.sh prints them over the translation 28ee1f026b2c69c2… (all of the seat's roots in one cut). By AI agents, Wed Nov 11 2026. No macro, syntax, notation, axiom, sorry.
-/
import Derived.Test.YtlkhjhlncfdakaaChecked
import GoSem.Claim
import GoSem.ClaimJoined
import GoSem.ClaimMapViews
import Derived.JoinedTies
import Derived.KernelRfl
namespace Go.Proofs.Ytlkhjhlncfdakaa
/- THE CELL 'sum', in the pinned program and in every row, IS THE sha256 OF THE DUMP (.gsa) THAT YtlkhjhlncfdakaaProg.lean LOADS. Nothing in Lean hashes anything: it is a label: what it is worth is what the hold of that sum in a sandbox is worth. -/
noncomputable def Try.pinned : Pinned := { name := "ytlkhjhlncfdakaa", sum := "28ee1f026b2c69c26cf4539ce5ed27d742829694a8214c21b43ed85f8362e25c", checked := Try.checked }
namespace Rows
def none {H : Type} : Left H := { results := [], args := [] }

/-- 'laws.FnExactSameTwill': WHATEVER THE INPUT: true; the input reads as it did. -/
def fnExactSameTwillSpec : ChangeSpec := { name := "fnExactSameTwill", fn := fun _ => fun
  | [d1, d2] => { results := [.lit (.bool true)], args := [d1, d2] }
  | _ => none }
def fnExactSameTwillRow : OpenClaim := { program := "ytlkhjhlncfdakaa", sum := "28ee1f026b2c69c26cf4539ce5ed27d742829694a8214c21b43ed85f8362e25c", func := "loop.example/g01064/laws.FnExactSameTwill", spec := "fnExactSameTwill", apart := false }
def FnExactSameTwillSaid : Prop := fnExactSameTwillRow.holds Try.pinned (OpenSpec.ofChange fnExactSameTwillSpec)

/-- ITS FALSE NEIGHBOUR: 'it returns false'. Refute it at one input. -/
def fnExactSameTwillWrong : ChangeSpec := { name := "fnExactSameTwill", fn := fun _ => fun
  | [d1, d2] => { results := [.lit (.bool false)], args := [d1, d2] }
  | _ => none }
def FnExactSameTwillWrongFalsely : Prop := fnExactSameTwillRow.holds Try.pinned (OpenSpec.ofChange fnExactSameTwillWrong)

/-- 'laws.FnExactValidTwill': WHATEVER THE INPUT: true; the input reads as it did. -/
def fnExactValidTwillSpec : ChangeSpec := { name := "fnExactValidTwill", fn := fun _ => fun
  | [d] => { results := [.lit (.bool true)], args := [d] }
  | _ => none }
def fnExactValidTwillRow : OpenClaim := { program := "ytlkhjhlncfdakaa", sum := "28ee1f026b2c69c26cf4539ce5ed27d742829694a8214c21b43ed85f8362e25c", func := "loop.example/g01064/laws.FnExactValidTwill", spec := "fnExactValidTwill", apart := false }
def FnExactValidTwillSaid : Prop := fnExactValidTwillRow.holds Try.pinned (OpenSpec.ofChange fnExactValidTwillSpec)

/-- ITS FALSE NEIGHBOUR: 'it returns false'. Refute it at one input. -/
def fnExactValidTwillWrong : ChangeSpec := { name := "fnExactValidTwill", fn := fun _ => fun
  | [d] => { results := [.lit (.bool false)], args := [d] }
  | _ => none }
def FnExactValidTwillWrongFalsely : Prop := fnExactValidTwillRow.holds Try.pinned (OpenSpec.ofChange fnExactValidTwillWrong)

/-- 'laws.FnExactIsPlain': WHATEVER THE INPUT: true; the input reads as it did. -/
def fnExactIsPlainSpec : ChangeSpec := { name := "fnExactIsPlain", fn := fun _ => fun
  | [d] => { results := [.lit (.bool true)], args := [d] }
  | _ => none }
def fnExactIsPlainRow : OpenClaim := { program := "ytlkhjhlncfdakaa", sum := "28ee1f026b2c69c26cf4539ce5ed27d742829694a8214c21b43ed85f8362e25c", func := "loop.example/g01064/laws.FnExactIsPlain", spec := "fnExactIsPlain", inPlace := ["internal/abi.NoEscape", "internal/bytealg.MakeNoZero"], apart := false }
def FnExactIsPlainSaid : Prop := fnExactIsPlainRow.holds Try.pinned (OpenSpec.ofChange fnExactIsPlainSpec)

/-- ITS FALSE NEIGHBOUR: 'it returns false'. Refute it at one input. -/
def fnExactIsPlainWrong : ChangeSpec := { name := "fnExactIsPlain", fn := fun _ => fun
  | [d] => { results := [.lit (.bool false)], args := [d] }
  | _ => none }
def FnExactIsPlainWrongFalsely : Prop := fnExactIsPlainRow.holds Try.pinned (OpenSpec.ofChange fnExactIsPlainWrong)

/-- 'laws.FnExactRepeatOf': WHATEVER THE INPUT: true; the input reads as it did. -/
def fnExactRepeatOfSpec : ChangeSpec := { name := "fnExactRepeatOf", fn := fun _ => fun
  | [d] => { results := [.lit (.bool true)], args := [d] }
  | _ => none }
def fnExactRepeatOfRow : OpenClaim := { program := "ytlkhjhlncfdakaa", sum := "28ee1f026b2c69c26cf4539ce5ed27d742829694a8214c21b43ed85f8362e25c", func := "loop.example/g01064/laws.FnExactRepeatOf", spec := "fnExactRepeatOf", inPlace := ["internal/abi.NoEscape", "internal/bytealg.MakeNoZero"], apart := false }
def FnExactRepeatOfSaid : Prop := fnExactRepeatOfRow.holds Try.pinned (OpenSpec.ofChange fnExactRepeatOfSpec)

/-- ITS FALSE NEIGHBOUR: 'it returns false'. Refute it at one input. -/
def fnExactRepeatOfWrong : ChangeSpec := { name := "fnExactRepeatOf", fn := fun _ => fun
  | [d] => { results := [.lit (.bool false)], args := [d] }
  | _ => none }
def FnExactRepeatOfWrongFalsely : Prop := fnExactRepeatOfRow.holds Try.pinned (OpenSpec.ofChange fnExactRepeatOfWrong)

/-- 'laws.FnExactFloatsOf': WHATEVER THE INPUT: true; the input reads as it did. -/
def fnExactFloatsOfSpec : ChangeSpec := { name := "fnExactFloatsOf", fn := fun _ => fun
  | [d] => { results := [.lit (.bool true)], args := [d] }
  | _ => none }
def fnExactFloatsOfRow : OpenClaim := { program := "ytlkhjhlncfdakaa", sum := "28ee1f026b2c69c26cf4539ce5ed27d742829694a8214c21b43ed85f8362e25c", func := "loop.example/g01064/laws.FnExactFloatsOf", spec := "fnExactFloatsOf", inPlace := ["internal/abi.NoEscape", "internal/bytealg.MakeNoZero"], apart := false }
def FnExactFloatsOfSaid : Prop := fnExactFloatsOfRow.holds Try.pinned (OpenSpec.ofChange fnExactFloatsOfSpec)

/-- ITS FALSE NEIGHBOUR: 'it returns false'. Refute it at one input. -/
def fnExactFloatsOfWrong : ChangeSpec := { name := "fnExactFloatsOf", fn := fun _ => fun
  | [d] => { results := [.lit (.bool false)], args := [d] }
  | _ => none }
def FnExactFloatsOfWrongFalsely : Prop := fnExactFloatsOfRow.holds Try.pinned (OpenSpec.ofChange fnExactFloatsOfWrong)

/-- 'laws.FnExactFaceOf': WHATEVER THE INPUT: true; the input reads as it did. -/
def fnExactFaceOfSpec : ChangeSpec := { name := "fnExactFaceOf", fn := fun _ => fun
  | [d1, d2, d3] => { results := [.lit (.bool true)], args := [d1, d2, d3] }
  | _ => none }
def fnExactFaceOfRow : OpenClaim := { program := "ytlkhjhlncfdakaa", sum := "28ee1f026b2c69c26cf4539ce5ed27d742829694a8214c21b43ed85f8362e25c", func := "loop.example/g01064/laws.FnExactFaceOf", spec := "fnExactFaceOf", inPlace := ["internal/abi.NoEscape", "internal/bytealg.MakeNoZero"], apart := false }
def FnExactFaceOfSaid : Prop := fnExactFaceOfRow.holds Try.pinned (OpenSpec.ofChange fnExactFaceOfSpec)

/-- ITS FALSE NEIGHBOUR: 'it returns false'. Refute it at one input. -/
def fnExactFaceOfWrong : ChangeSpec := { name := "fnExactFaceOf", fn := fun _ => fun
  | [d1, d2, d3] => { results := [.lit (.bool false)], args := [d1, d2, d3] }
  | _ => none }
def FnExactFaceOfWrongFalsely : Prop := fnExactFaceOfRow.holds Try.pinned (OpenSpec.ofChange fnExactFaceOfWrong)

/-- 'laws.FnExactSameFace': WHATEVER THE INPUT: true; the input reads as it did. -/
def fnExactSameFaceSpec : ChangeSpec := { name := "fnExactSameFace", fn := fun _ => fun
  | [d1, d2] => { results := [.lit (.bool true)], args := [d1, d2] }
  | _ => none }
def fnExactSameFaceRow : OpenClaim := { program := "ytlkhjhlncfdakaa", sum := "28ee1f026b2c69c26cf4539ce5ed27d742829694a8214c21b43ed85f8362e25c", func := "loop.example/g01064/laws.FnExactSameFace", spec := "fnExactSameFace", inPlace := ["internal/abi.NoEscape", "internal/bytealg.MakeNoZero", "internal/bytealg.IndexByteString", "internal/bytealg.IndexString"], named := ["internal/bytealg.MaxLen"], apart := false }
def FnExactSameFaceSaid : Prop := fnExactSameFaceRow.holds Try.pinned (OpenSpec.ofChange fnExactSameFaceSpec)

/-- ITS FALSE NEIGHBOUR: 'it returns false'. Refute it at one input. -/
def fnExactSameFaceWrong : ChangeSpec := { name := "fnExactSameFace", fn := fun _ => fun
  | [d1, d2] => { results := [.lit (.bool false)], args := [d1, d2] }
  | _ => none }
def FnExactSameFaceWrongFalsely : Prop := fnExactSameFaceRow.holds Try.pinned (OpenSpec.ofChange fnExactSameFaceWrong)

/-- 'laws.FnExactShareFront': WHATEVER THE INPUT: true; the input reads as it did. -/
def fnExactShareFrontSpec : ChangeSpec := { name := "fnExactShareFront", fn := fun _ => fun
  | [d] => { results := [.lit (.bool true)], args := [d] }
  | _ => none }
def fnExactShareFrontRow : OpenClaim := { program := "ytlkhjhlncfdakaa", sum := "28ee1f026b2c69c26cf4539ce5ed27d742829694a8214c21b43ed85f8362e25c", func := "loop.example/g01064/laws.FnExactShareFront", spec := "fnExactShareFront", inPlace := ["internal/abi.NoEscape", "internal/bytealg.MakeNoZero", "internal/bytealg.CountString", "internal/bytealg.IndexByteString", "internal/bytealg.IndexString"], named := ["internal/bytealg.MaxLen"], apart := false }
def FnExactShareFrontSaid : Prop := fnExactShareFrontRow.holds Try.pinned (OpenSpec.ofChange fnExactShareFrontSpec)

/-- ITS FALSE NEIGHBOUR: 'it returns false'. Refute it at one input. -/
def fnExactShareFrontWrong : ChangeSpec := { name := "fnExactShareFront", fn := fun _ => fun
  | [d] => { results := [.lit (.bool false)], args := [d] }
  | _ => none }
def FnExactShareFrontWrongFalsely : Prop := fnExactShareFrontRow.holds Try.pinned (OpenSpec.ofChange fnExactShareFrontWrong)

/- THE SECOND FORM. 'bulk': how many values and letters a reading holds, each counted each time it is reached (what is shared counts as often as it is met; a slice's spare places count too). A statement '..UptoSaid' is the law's where the arguments, and the package variables that the reading takes, are together of bulk at most 1048576: NARROWER than '..Said'. Prove '..Said' where nothing that the law and all that it calls make is longer than what came in: it says more and counts as full. Else prove '..UptoSaid'. A law counts once. -/
mutual
def uptoBulk {H : Type} : DataW H → Nat
  | .lit (.string bytes) => bytes.length + 1
  | .lit _ => 1
  | .nil => 1
  | .ptr d => uptoBulk d + 1
  | .slice elems spare => uptoBulkAll elems + uptoBulkAll spare + 1
  | .agg parts => uptoBulkAll parts + 1
  | .iface _ d => uptoBulk d + 1
  | .map entries => uptoBulkEntries entries + 1
  | .held _ => 1
def uptoBulkAll {H : Type} : List (DataW H) → Nat
  | [] => 0
  | d :: r => uptoBulk d + uptoBulkAll r
def uptoBulkEntries {H : Type} : List (Lit × DataW H) → Nat
  | [] => 0
  | x :: r => uptoBulkEntry x + uptoBulkEntries r
def uptoBulkEntry {H : Type} : Lit × DataW H → Nat
  | (.string bytes, d) => bytes.length + uptoBulk d + 1
  | (_, d) => uptoBulk d + 1
 end
def uptoSmall : (H : Type) → List (DataW H) → Bool := fun _ ds => decide (uptoBulkAll ds ≤ 1048576)
def OpenSpec.upto (s : _root_.Go.ChangeSpec) : _root_.Go.OpenSpec := { _root_.Go.OpenSpec.ofChange s with cond := some uptoSmall }

/-- 'laws.FnExactSameTwill', WHERE WHAT IT READS IS OF BULK AT MOST 1048576: true; the input reads as it did. -/
def fnExactSameTwillUptoRow : OpenClaim := { program := "ytlkhjhlncfdakaa", sum := "28ee1f026b2c69c26cf4539ce5ed27d742829694a8214c21b43ed85f8362e25c", func := "loop.example/g01064/laws.FnExactSameTwill", spec := "fnExactSameTwill", apart := false, narrowed := true }
def FnExactSameTwillUptoSaid : Prop := fnExactSameTwillUptoRow.holds Try.pinned (OpenSpec.upto fnExactSameTwillSpec)

/-- 'laws.FnExactValidTwill', WHERE WHAT IT READS IS OF BULK AT MOST 1048576: true; the input reads as it did. -/
def fnExactValidTwillUptoRow : OpenClaim := { program := "ytlkhjhlncfdakaa", sum := "28ee1f026b2c69c26cf4539ce5ed27d742829694a8214c21b43ed85f8362e25c", func := "loop.example/g01064/laws.FnExactValidTwill", spec := "fnExactValidTwill", apart := false, narrowed := true }
def FnExactValidTwillUptoSaid : Prop := fnExactValidTwillUptoRow.holds Try.pinned (OpenSpec.upto fnExactValidTwillSpec)

/-- 'laws.FnExactIsPlain', WHERE WHAT IT READS IS OF BULK AT MOST 1048576: true; the input reads as it did. -/
def fnExactIsPlainUptoRow : OpenClaim := { program := "ytlkhjhlncfdakaa", sum := "28ee1f026b2c69c26cf4539ce5ed27d742829694a8214c21b43ed85f8362e25c", func := "loop.example/g01064/laws.FnExactIsPlain", spec := "fnExactIsPlain", inPlace := ["internal/abi.NoEscape", "internal/bytealg.MakeNoZero"], apart := false, narrowed := true }
def FnExactIsPlainUptoSaid : Prop := fnExactIsPlainUptoRow.holds Try.pinned (OpenSpec.upto fnExactIsPlainSpec)

/-- 'laws.FnExactRepeatOf', WHERE WHAT IT READS IS OF BULK AT MOST 1048576: true; the input reads as it did. -/
def fnExactRepeatOfUptoRow : OpenClaim := { program := "ytlkhjhlncfdakaa", sum := "28ee1f026b2c69c26cf4539ce5ed27d742829694a8214c21b43ed85f8362e25c", func := "loop.example/g01064/laws.FnExactRepeatOf", spec := "fnExactRepeatOf", inPlace := ["internal/abi.NoEscape", "internal/bytealg.MakeNoZero"], apart := false, narrowed := true }
def FnExactRepeatOfUptoSaid : Prop := fnExactRepeatOfUptoRow.holds Try.pinned (OpenSpec.upto fnExactRepeatOfSpec)

/-- 'laws.FnExactFloatsOf', WHERE WHAT IT READS IS OF BULK AT MOST 1048576: true; the input reads as it did. -/
def fnExactFloatsOfUptoRow : OpenClaim := { program := "ytlkhjhlncfdakaa", sum := "28ee1f026b2c69c26cf4539ce5ed27d742829694a8214c21b43ed85f8362e25c", func := "loop.example/g01064/laws.FnExactFloatsOf", spec := "fnExactFloatsOf", inPlace := ["internal/abi.NoEscape", "internal/bytealg.MakeNoZero"], apart := false, narrowed := true }
def FnExactFloatsOfUptoSaid : Prop := fnExactFloatsOfUptoRow.holds Try.pinned (OpenSpec.upto fnExactFloatsOfSpec)

/-- 'laws.FnExactFaceOf', WHERE WHAT IT READS IS OF BULK AT MOST 1048576: true; the input reads as it did. -/
def fnExactFaceOfUptoRow : OpenClaim := { program := "ytlkhjhlncfdakaa", sum := "28ee1f026b2c69c26cf4539ce5ed27d742829694a8214c21b43ed85f8362e25c", func := "loop.example/g01064/laws.FnExactFaceOf", spec := "fnExactFaceOf", inPlace := ["internal/abi.NoEscape", "internal/bytealg.MakeNoZero"], apart := false, narrowed := true }
def FnExactFaceOfUptoSaid : Prop := fnExactFaceOfUptoRow.holds Try.pinned (OpenSpec.upto fnExactFaceOfSpec)

/-- 'laws.FnExactSameFace', WHERE WHAT IT READS IS OF BULK AT MOST 1048576: true; the input reads as it did. -/
def fnExactSameFaceUptoRow : OpenClaim := { program := "ytlkhjhlncfdakaa", sum := "28ee1f026b2c69c26cf4539ce5ed27d742829694a8214c21b43ed85f8362e25c", func := "loop.example/g01064/laws.FnExactSameFace", spec := "fnExactSameFace", inPlace := ["internal/abi.NoEscape", "internal/bytealg.MakeNoZero", "internal/bytealg.IndexByteString", "internal/bytealg.IndexString"], named := ["internal/bytealg.MaxLen"], apart := false, narrowed := true }
def FnExactSameFaceUptoSaid : Prop := fnExactSameFaceUptoRow.holds Try.pinned (OpenSpec.upto fnExactSameFaceSpec)

/-- 'laws.FnExactShareFront', WHERE WHAT IT READS IS OF BULK AT MOST 1048576: true; the input reads as it did. -/
def fnExactShareFrontUptoRow : OpenClaim := { program := "ytlkhjhlncfdakaa", sum := "28ee1f026b2c69c26cf4539ce5ed27d742829694a8214c21b43ed85f8362e25c", func := "loop.example/g01064/laws.FnExactShareFront", spec := "fnExactShareFront", inPlace := ["internal/abi.NoEscape", "internal/bytealg.MakeNoZero", "internal/bytealg.CountString", "internal/bytealg.IndexByteString", "internal/bytealg.IndexString"], named := ["internal/bytealg.MaxLen"], apart := false, narrowed := true }
def FnExactShareFrontUptoSaid : Prop := fnExactShareFrontUptoRow.holds Try.pinned (OpenSpec.upto fnExactShareFrontSpec)

end Rows
end Go.Proofs.Ytlkhjhlncfdakaa
