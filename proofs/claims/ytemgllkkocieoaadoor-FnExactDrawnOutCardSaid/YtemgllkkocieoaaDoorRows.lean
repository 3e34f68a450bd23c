/-
  NARROWER THAN 'FOR EVERY INPUT', by the rows' own cells (each row's printed sentence says how): FnExactValidBends: laid · FnExactFirstWord: laid · FnExactSameBorder: laid · FnExactEndOfBend: laid · FnExactCoversOf: laid · FnExactDrawnOut: laid · FnExactIsLocked: laid · FnExactRodForBorder: laid.
  DERIVED. THE GIVEN ROWS OF THIS SEAT. 8 by the template 'for every input the law returns true; each argument reads behind the call as it read before'; 0 by the template 'total and deterministic' (their statements: YtemgllkkocieoaaDoorTotals.lean).
  GIVEN WITH THE SEED: the statements are not yours to turn. If you find one false, say at which input.
  Laid BY PROGRAM, IN A SANDBOX (cutbox-rows.mjs): the forced cells as the released guide's own fill.sh prints them over the translation 419a3a469c1bc2cf… (all of the seat's roots in one cut). By AI agents, Wed Nov 11 2026. No macro, syntax, notation, axiom, sorry.
-/
import Derived.Test.YtemgllkkocieoaaDoorChecked
import GoSem.PinnedTables
import GoSem.Claim
import GoSem.ClaimJoined
import GoSem.ClaimMapViews
import Derived.JoinedTies
import Derived.KernelRfl
namespace Go.Proofs.YtemgllkkocieoaaDoor
/- THE CELL 'sum', in the pinned program and in every row, IS THE sha256 OF THE DUMP (.gsa) THAT YtemgllkkocieoaaDoorProg.lean LOADS. Nothing in Lean hashes anything: it is a label: what it is worth is what the hold of that sum in a sandbox is worth. -/
noncomputable def Tryd.pinned : Pinned := { name := "ytemgllkkocieoaadoor", sum := "419a3a469c1bc2cfa2defe5d92b33afbb2d0df152ace080053585eb7e4807706", checked := Tryd.checked }
namespace Rows
def none {H : Type} : Left H := { results := [], args := [] }

/- WHAT THE LISTED PACKAGE-LEVEL VARIABLES READ AS WHEN THE CALL BEGINS. Each datum BY PROGRAM (the guide's laid-datum.mjs) off the statement by which the dump's own 'gosem.cut.vars' lays the variable. In a bare row this is a premise. The card (YtemgllkkocieoaaDoorCards.lean) ties it to the program's text. -/
def laid_unicode_utf8_acceptRanges {H : Type} : DataW H := .agg [.agg [.lit (.int .u8 128), .lit (.int .u8 191)], .agg [.lit (.int .u8 160), .lit (.int .u8 191)], .agg [.lit (.int .u8 128), .lit (.int .u8 159)], .agg [.lit (.int .u8 144), .lit (.int .u8 191)], .agg [.lit (.int .u8 128), .lit (.int .u8 143)], .agg [.lit (.int .u8 0), .lit (.int .u8 0)], .agg [.lit (.int .u8 0), .lit (.int .u8 0)], .agg [.lit (.int .u8 0), .lit (.int .u8 0)], .agg [.lit (.int .u8 0), .lit (.int .u8 0)], .agg [.lit (.int .u8 0), .lit (.int .u8 0)], .agg [.lit (.int .u8 0), .lit (.int .u8 0)], .agg [.lit (.int .u8 0), .lit (.int .u8 0)], .agg [.lit (.int .u8 0), .lit (.int .u8 0)], .agg [.lit (.int .u8 0), .lit (.int .u8 0)], .agg [.lit (.int .u8 0), .lit (.int .u8 0)], .agg [.lit (.int .u8 0), .lit (.int .u8 0)]]
/-- One of Go's own tables, pinned by name: the form's constant. -/
def laid_unicode_utf8_first : DataW Unit := Go.Pinned.utf8First

/-- 'laws.FnExactValidBends': WHATEVER THE INPUT: true; the input reads as it did. -/
def fnExactValidBendsSpec : ChangeSpec := { name := "fnExactValidBends", fn := fun _ => fun
  | [d] => { results := [.lit (.bool true)], args := [d] }
  | _ => none }
def fnExactValidBendsRow : OpenClaim := { program := "ytemgllkkocieoaadoor", sum := "419a3a469c1bc2cfa2defe5d92b33afbb2d0df152ace080053585eb7e4807706", func := "loop.example/g01064/laws.FnExactValidBends", spec := "fnExactValidBends", inPlace := ["internal/bytealg.IndexByteString", "internal/bytealg.IndexString"], named := ["unicode/utf8.first", "unicode/utf8.acceptRanges", "internal/bytealg.MaxLen"], apart := false, laid := [("unicode/utf8.acceptRanges", laid_unicode_utf8_acceptRanges), ("unicode/utf8.first", laid_unicode_utf8_first)] }
def FnExactValidBendsSaid : Prop := fnExactValidBendsRow.holds Tryd.pinned (OpenSpec.ofChange fnExactValidBendsSpec)

/-- ITS FALSE NEIGHBOUR: 'it returns false'. Refute it at one input. -/
def fnExactValidBendsWrong : ChangeSpec := { name := "fnExactValidBends", fn := fun _ => fun
  | [d] => { results := [.lit (.bool false)], args := [d] }
  | _ => none }
def FnExactValidBendsWrongFalsely : Prop := fnExactValidBendsRow.holds Tryd.pinned (OpenSpec.ofChange fnExactValidBendsWrong)

/-- 'laws.FnExactFirstWord': WHATEVER THE INPUT: true; the input reads as it did. -/
def fnExactFirstWordSpec : ChangeSpec := { name := "fnExactFirstWord", fn := fun _ => fun
  | [d] => { results := [.lit (.bool true)], args := [d] }
  | _ => none }
def fnExactFirstWordRow : OpenClaim := { program := "ytemgllkkocieoaadoor", sum := "419a3a469c1bc2cfa2defe5d92b33afbb2d0df152ace080053585eb7e4807706", func := "loop.example/g01064/laws.FnExactFirstWord", spec := "fnExactFirstWord", inPlace := ["internal/bytealg.IndexByteString", "internal/bytealg.IndexString"], named := ["unicode/utf8.first", "unicode/utf8.acceptRanges", "internal/bytealg.MaxLen"], apart := false, laid := [("unicode/utf8.acceptRanges", laid_unicode_utf8_acceptRanges), ("unicode/utf8.first", laid_unicode_utf8_first)] }
def FnExactFirstWordSaid : Prop := fnExactFirstWordRow.holds Tryd.pinned (OpenSpec.ofChange fnExactFirstWordSpec)

/-- ITS FALSE NEIGHBOUR: 'it returns false'. Refute it at one input. -/
def fnExactFirstWordWrong : ChangeSpec := { name := "fnExactFirstWord", fn := fun _ => fun
  | [d] => { results := [.lit (.bool false)], args := [d] }
  | _ => none }
def FnExactFirstWordWrongFalsely : Prop := fnExactFirstWordRow.holds Tryd.pinned (OpenSpec.ofChange fnExactFirstWordWrong)

/-- 'laws.FnExactSameBorder': WHATEVER THE INPUT: true; the input reads as it did. -/
def fnExactSameBorderSpec : ChangeSpec := { name := "fnExactSameBorder", fn := fun _ => fun
  | [d1, d2] => { results := [.lit (.bool true)], args := [d1, d2] }
  | _ => none }
def fnExactSameBorderRow : OpenClaim := { program := "ytemgllkkocieoaadoor", sum := "419a3a469c1bc2cfa2defe5d92b33afbb2d0df152ace080053585eb7e4807706", func := "loop.example/g01064/laws.FnExactSameBorder", spec := "fnExactSameBorder", inPlace := ["internal/bytealg.IndexByteString", "internal/bytealg.IndexString"], named := ["unicode/utf8.first", "unicode/utf8.acceptRanges", "internal/bytealg.MaxLen"], apart := false, laid := [("unicode/utf8.acceptRanges", laid_unicode_utf8_acceptRanges), ("unicode/utf8.first", laid_unicode_utf8_first)] }
def FnExactSameBorderSaid : Prop := fnExactSameBorderRow.holds Tryd.pinned (OpenSpec.ofChange fnExactSameBorderSpec)

/-- ITS FALSE NEIGHBOUR: 'it returns false'. Refute it at one input. -/
def fnExactSameBorderWrong : ChangeSpec := { name := "fnExactSameBorder", fn := fun _ => fun
  | [d1, d2] => { results := [.lit (.bool false)], args := [d1, d2] }
  | _ => none }
def FnExactSameBorderWrongFalsely : Prop := fnExactSameBorderRow.holds Tryd.pinned (OpenSpec.ofChange fnExactSameBorderWrong)

/-- 'laws.FnExactEndOfBend': WHATEVER THE INPUT: true; the input reads as it did. -/
def fnExactEndOfBendSpec : ChangeSpec := { name := "fnExactEndOfBend", fn := fun _ => fun
  | [d1, d2, d3] => { results := [.lit (.bool true)], args := [d1, d2, d3] }
  | _ => none }
def fnExactEndOfBendRow : OpenClaim := { program := "ytemgllkkocieoaadoor", sum := "419a3a469c1bc2cfa2defe5d92b33afbb2d0df152ace080053585eb7e4807706", func := "loop.example/g01064/laws.FnExactEndOfBend", spec := "fnExactEndOfBend", inPlace := ["internal/bytealg.IndexByteString", "internal/bytealg.IndexString"], named := ["unicode/utf8.first", "unicode/utf8.acceptRanges", "internal/bytealg.MaxLen"], apart := false, laid := [("unicode/utf8.acceptRanges", laid_unicode_utf8_acceptRanges), ("unicode/utf8.first", laid_unicode_utf8_first)] }
def FnExactEndOfBendSaid : Prop := fnExactEndOfBendRow.holds Tryd.pinned (OpenSpec.ofChange fnExactEndOfBendSpec)

/-- ITS FALSE NEIGHBOUR: 'it returns false'. Refute it at one input. -/
def fnExactEndOfBendWrong : ChangeSpec := { name := "fnExactEndOfBend", fn := fun _ => fun
  | [d1, d2, d3] => { results := [.lit (.bool false)], args := [d1, d2, d3] }
  | _ => none }
def FnExactEndOfBendWrongFalsely : Prop := fnExactEndOfBendRow.holds Tryd.pinned (OpenSpec.ofChange fnExactEndOfBendWrong)

/-- 'laws.FnExactCoversOf': WHATEVER THE INPUT: true; the input reads as it did. -/
def fnExactCoversOfSpec : ChangeSpec := { name := "fnExactCoversOf", fn := fun _ => fun
  | [d1, d2, d3] => { results := [.lit (.bool true)], args := [d1, d2, d3] }
  | _ => none }
def fnExactCoversOfRow : OpenClaim := { program := "ytemgllkkocieoaadoor", sum := "419a3a469c1bc2cfa2defe5d92b33afbb2d0df152ace080053585eb7e4807706", func := "loop.example/g01064/laws.FnExactCoversOf", spec := "fnExactCoversOf", inPlace := ["internal/bytealg.IndexByteString", "internal/bytealg.IndexString"], named := ["unicode/utf8.first", "unicode/utf8.acceptRanges", "internal/bytealg.MaxLen"], apart := false, laid := [("unicode/utf8.acceptRanges", laid_unicode_utf8_acceptRanges), ("unicode/utf8.first", laid_unicode_utf8_first)] }
def FnExactCoversOfSaid : Prop := fnExactCoversOfRow.holds Tryd.pinned (OpenSpec.ofChange fnExactCoversOfSpec)

/-- ITS FALSE NEIGHBOUR: 'it returns false'. Refute it at one input. -/
def fnExactCoversOfWrong : ChangeSpec := { name := "fnExactCoversOf", fn := fun _ => fun
  | [d1, d2, d3] => { results := [.lit (.bool false)], args := [d1, d2, d3] }
  | _ => none }
def FnExactCoversOfWrongFalsely : Prop := fnExactCoversOfRow.holds Tryd.pinned (OpenSpec.ofChange fnExactCoversOfWrong)

/-- 'laws.FnExactDrawnOut': WHATEVER THE INPUT: true; the input reads as it did. -/
def fnExactDrawnOutSpec : ChangeSpec := { name := "fnExactDrawnOut", fn := fun _ => fun
  | [d1, d2] => { results := [.lit (.bool true)], args := [d1, d2] }
  | _ => none }
def fnExactDrawnOutRow : OpenClaim := { program := "ytemgllkkocieoaadoor", sum := "419a3a469c1bc2cfa2defe5d92b33afbb2d0df152ace080053585eb7e4807706", func := "loop.example/g01064/laws.FnExactDrawnOut", spec := "fnExactDrawnOut", inPlace := ["internal/bytealg.IndexByteString", "internal/bytealg.IndexString"], named := ["unicode/utf8.first", "unicode/utf8.acceptRanges", "internal/bytealg.MaxLen"], apart := false, laid := [("unicode/utf8.acceptRanges", laid_unicode_utf8_acceptRanges), ("unicode/utf8.first", laid_unicode_utf8_first)] }
def FnExactDrawnOutSaid : Prop := fnExactDrawnOutRow.holds Tryd.pinned (OpenSpec.ofChange fnExactDrawnOutSpec)

/-- ITS FALSE NEIGHBOUR: 'it returns false'. Refute it at one input. -/
def fnExactDrawnOutWrong : ChangeSpec := { name := "fnExactDrawnOut", fn := fun _ => fun
  | [d1, d2] => { results := [.lit (.bool false)], args := [d1, d2] }
  | _ => none }
def FnExactDrawnOutWrongFalsely : Prop := fnExactDrawnOutRow.holds Tryd.pinned (OpenSpec.ofChange fnExactDrawnOutWrong)

/-- 'laws.FnExactIsLocked': WHATEVER THE INPUT: true; the input reads as it did. -/
def fnExactIsLockedSpec : ChangeSpec := { name := "fnExactIsLocked", fn := fun _ => fun
  | [d1, d2] => { results := [.lit (.bool true)], args := [d1, d2] }
  | _ => none }
def fnExactIsLockedRow : OpenClaim := { program := "ytemgllkkocieoaadoor", sum := "419a3a469c1bc2cfa2defe5d92b33afbb2d0df152ace080053585eb7e4807706", func := "loop.example/g01064/laws.FnExactIsLocked", spec := "fnExactIsLocked", inPlace := ["internal/bytealg.IndexByteString", "internal/bytealg.IndexString"], named := ["unicode/utf8.first", "unicode/utf8.acceptRanges", "internal/bytealg.MaxLen"], apart := false, laid := [("unicode/utf8.acceptRanges", laid_unicode_utf8_acceptRanges), ("unicode/utf8.first", laid_unicode_utf8_first)] }
def FnExactIsLockedSaid : Prop := fnExactIsLockedRow.holds Tryd.pinned (OpenSpec.ofChange fnExactIsLockedSpec)

/-- ITS FALSE NEIGHBOUR: 'it returns false'. Refute it at one input. -/
def fnExactIsLockedWrong : ChangeSpec := { name := "fnExactIsLocked", fn := fun _ => fun
  | [d1, d2] => { results := [.lit (.bool false)], args := [d1, d2] }
  | _ => none }
def FnExactIsLockedWrongFalsely : Prop := fnExactIsLockedRow.holds Tryd.pinned (OpenSpec.ofChange fnExactIsLockedWrong)

/-- 'laws.FnExactRodForBorder': WHATEVER THE INPUT: true; the input reads as it did. -/
def fnExactRodForBorderSpec : ChangeSpec := { name := "fnExactRodForBorder", fn := fun _ => fun
  | [d1, d2, d3] => { results := [.lit (.bool true)], args := [d1, d2, d3] }
  | _ => none }
def fnExactRodForBorderRow : OpenClaim := { program := "ytemgllkkocieoaadoor", sum := "419a3a469c1bc2cfa2defe5d92b33afbb2d0df152ace080053585eb7e4807706", func := "loop.example/g01064/laws.FnExactRodForBorder", spec := "fnExactRodForBorder", inPlace := ["internal/bytealg.IndexByteString", "internal/bytealg.IndexString", "internal/bytealg.CountString"], named := ["unicode/utf8.first", "unicode/utf8.acceptRanges", "internal/bytealg.MaxLen"], apart := false, laid := [("unicode/utf8.acceptRanges", laid_unicode_utf8_acceptRanges), ("unicode/utf8.first", laid_unicode_utf8_first)] }
def FnExactRodForBorderSaid : Prop := fnExactRodForBorderRow.holds Tryd.pinned (OpenSpec.ofChange fnExactRodForBorderSpec)

/-- ITS FALSE NEIGHBOUR: 'it returns false'. Refute it at one input. -/
def fnExactRodForBorderWrong : ChangeSpec := { name := "fnExactRodForBorder", fn := fun _ => fun
  | [d1, d2, d3] => { results := [.lit (.bool false)], args := [d1, d2, d3] }
  | _ => none }
def FnExactRodForBorderWrongFalsely : Prop := fnExactRodForBorderRow.holds Tryd.pinned (OpenSpec.ofChange fnExactRodForBorderWrong)

/- THE SECOND FORM. 'bulk': how many values and letters a reading holds, each counted each time it is reached (what is shared counts as often as it is met; a slice's spare places count too). A statement '..UptoSaid' is the law's where the arguments, and the package variables that the reading takes, are together of bulk at most 1048576: NARROWER than '..Said'. Prove '..Said' where nothing that the law and all that it calls make is longer than what came in: it says more and counts as full. Else prove '..UptoSaid'. A law counts once. -/
mutual
def uptoBulk {H : Type} : DataW H → Nat
  | .lit (.string bytes) => bytes.length + 1
  | .lit _ => 1
  | .nil => 1
  | .ptr d => uptoBulk d + 1
  | .slice elems spare => uptoBulkAll elems + uptoBulkAll spare + 1
  | .agg parts => uptoBulkAll parts + 1
  | .iface _ d => uptoBulk d + 1
  | .map entries => uptoBulkEntries entries + 1
  | .held _ => 1
def uptoBulkAll {H : Type} : List (DataW H) → Nat
  | [] => 0
  | d :: r => uptoBulk d + uptoBulkAll r
def uptoBulkEntries {H : Type} : List (Lit × DataW H) → Nat
  | [] => 0
  | x :: r => uptoBulkEntry x + uptoBulkEntries r
def uptoBulkEntry {H : Type} : Lit × DataW H → Nat
  | (.string bytes, d) => bytes.length + uptoBulk d + 1
  | (_, d) => uptoBulk d + 1
 end
def uptoSmall : (H : Type) → List (DataW H) → Bool := fun _ ds => decide (uptoBulkAll ds ≤ 1048576)
def OpenSpec.upto (s : _root_.Go.ChangeSpec) : _root_.Go.OpenSpec := { _root_.Go.OpenSpec.ofChange s with cond := some uptoSmall }

/-- 'laws.FnExactValidBends', WHERE WHAT IT READS IS OF BULK AT MOST 1048576: true; the input reads as it did. -/
def fnExactValidBendsUptoRow : OpenClaim := { program := "ytemgllkkocieoaadoor", sum := "419a3a469c1bc2cfa2defe5d92b33afbb2d0df152ace080053585eb7e4807706", func := "loop.example/g01064/laws.FnExactValidBends", spec := "fnExactValidBends", inPlace := ["internal/bytealg.IndexByteString", "internal/bytealg.IndexString"], named := ["unicode/utf8.first", "unicode/utf8.acceptRanges", "internal/bytealg.MaxLen"], apart := false, laid := [("unicode/utf8.acceptRanges", laid_unicode_utf8_acceptRanges), ("unicode/utf8.first", laid_unicode_utf8_first)], narrowed := true }
def FnExactValidBendsUptoSaid : Prop := fnExactValidBendsUptoRow.holds Tryd.pinned (OpenSpec.upto fnExactValidBendsSpec)

/-- 'laws.FnExactFirstWord', WHERE WHAT IT READS IS OF BULK AT MOST 1048576: true; the input reads as it did. -/
def fnExactFirstWordUptoRow : OpenClaim := { program := "ytemgllkkocieoaadoor", sum := "419a3a469c1bc2cfa2defe5d92b33afbb2d0df152ace080053585eb7e4807706", func := "loop.example/g01064/laws.FnExactFirstWord", spec := "fnExactFirstWord", inPlace := ["internal/bytealg.IndexByteString", "internal/bytealg.IndexString"], named := ["unicode/utf8.first", "unicode/utf8.acceptRanges", "internal/bytealg.MaxLen"], apart := false, laid := [("unicode/utf8.acceptRanges", laid_unicode_utf8_acceptRanges), ("unicode/utf8.first", laid_unicode_utf8_first)], narrowed := true }
def FnExactFirstWordUptoSaid : Prop := fnExactFirstWordUptoRow.holds Tryd.pinned (OpenSpec.upto fnExactFirstWordSpec)

/-- 'laws.FnExactSameBorder', WHERE WHAT IT READS IS OF BULK AT MOST 1048576: true; the input reads as it did. -/
def fnExactSameBorderUptoRow : OpenClaim := { program := "ytemgllkkocieoaadoor", sum := "419a3a469c1bc2cfa2defe5d92b33afbb2d0df152ace080053585eb7e4807706", func := "loop.example/g01064/laws.FnExactSameBorder", spec := "fnExactSameBorder", inPlace := ["internal/bytealg.IndexByteString", "internal/bytealg.IndexString"], named := ["unicode/utf8.first", "unicode/utf8.acceptRanges", "internal/bytealg.MaxLen"], apart := false, laid := [("unicode/utf8.acceptRanges", laid_unicode_utf8_acceptRanges), ("unicode/utf8.first", laid_unicode_utf8_first)], narrowed := true }
def FnExactSameBorderUptoSaid : Prop := fnExactSameBorderUptoRow.holds Tryd.pinned (OpenSpec.upto fnExactSameBorderSpec)

/-- 'laws.FnExactEndOfBend', WHERE WHAT IT READS IS OF BULK AT MOST 1048576: true; the input reads as it did. -/
def fnExactEndOfBendUptoRow : OpenClaim := { program := "ytemgllkkocieoaadoor", sum := "419a3a469c1bc2cfa2defe5d92b33afbb2d0df152ace080053585eb7e4807706", func := "loop.example/g01064/laws.FnExactEndOfBend", spec := "fnExactEndOfBend", inPlace := ["internal/bytealg.IndexByteString", "internal/bytealg.IndexString"], named := ["unicode/utf8.first", "unicode/utf8.acceptRanges", "internal/bytealg.MaxLen"], apart := false, laid := [("unicode/utf8.acceptRanges", laid_unicode_utf8_acceptRanges), ("unicode/utf8.first", laid_unicode_utf8_first)], narrowed := true }
def FnExactEndOfBendUptoSaid : Prop := fnExactEndOfBendUptoRow.holds Tryd.pinned (OpenSpec.upto fnExactEndOfBendSpec)

/-- 'laws.FnExactCoversOf', WHERE WHAT IT READS IS OF BULK AT MOST 1048576: true; the input reads as it did. -/
def fnExactCoversOfUptoRow : OpenClaim := { program := "ytemgllkkocieoaadoor", sum := "419a3a469c1bc2cfa2defe5d92b33afbb2d0df152ace080053585eb7e4807706", func := "loop.example/g01064/laws.FnExactCoversOf", spec := "fnExactCoversOf", inPlace := ["internal/bytealg.IndexByteString", "internal/bytealg.IndexString"], named := ["unicode/utf8.first", "unicode/utf8.acceptRanges", "internal/bytealg.MaxLen"], apart := false, laid := [("unicode/utf8.acceptRanges", laid_unicode_utf8_acceptRanges), ("unicode/utf8.first", laid_unicode_utf8_first)], narrowed := true }
def FnExactCoversOfUptoSaid : Prop := fnExactCoversOfUptoRow.holds Tryd.pinned (OpenSpec.upto fnExactCoversOfSpec)

/-- 'laws.FnExactDrawnOut', WHERE WHAT IT READS IS OF BULK AT MOST 1048576: true; the input reads as it did. -/
def fnExactDrawnOutUptoRow : OpenClaim := { program := "ytemgllkkocieoaadoor", sum := "419a3a469c1bc2cfa2defe5d92b33afbb2d0df152ace080053585eb7e4807706", func := "loop.example/g01064/laws.FnExactDrawnOut", spec := "fnExactDrawnOut", inPlace := ["internal/bytealg.IndexByteString", "internal/bytealg.IndexString"], named := ["unicode/utf8.first", "unicode/utf8.acceptRanges", "internal/bytealg.MaxLen"], apart := false, laid := [("unicode/utf8.acceptRanges", laid_unicode_utf8_acceptRanges), ("unicode/utf8.first", laid_unicode_utf8_first)], narrowed := true }
def FnExactDrawnOutUptoSaid : Prop := fnExactDrawnOutUptoRow.holds Tryd.pinned (OpenSpec.upto fnExactDrawnOutSpec)

/-- 'laws.FnExactIsLocked', WHERE WHAT IT READS IS OF BULK AT MOST 1048576: true; the input reads as it did. -/
def fnExactIsLockedUptoRow : OpenClaim := { program := "ytemgllkkocieoaadoor", sum := "419a3a469c1bc2cfa2defe5d92b33afbb2d0df152ace080053585eb7e4807706", func := "loop.example/g01064/laws.FnExactIsLocked", spec := "fnExactIsLocked", inPlace := ["internal/bytealg.IndexByteString", "internal/bytealg.IndexString"], named := ["unicode/utf8.first", "unicode/utf8.acceptRanges", "internal/bytealg.MaxLen"], apart := false, laid := [("unicode/utf8.acceptRanges", laid_unicode_utf8_acceptRanges), ("unicode/utf8.first", laid_unicode_utf8_first)], narrowed := true }
def FnExactIsLockedUptoSaid : Prop := fnExactIsLockedUptoRow.holds Tryd.pinned (OpenSpec.upto fnExactIsLockedSpec)

/-- 'laws.FnExactRodForBorder', WHERE WHAT IT READS IS OF BULK AT MOST 1048576: true; the input reads as it did. -/
def fnExactRodForBorderUptoRow : OpenClaim := { program := "ytemgllkkocieoaadoor", sum := "419a3a469c1bc2cfa2defe5d92b33afbb2d0df152ace080053585eb7e4807706", func := "loop.example/g01064/laws.FnExactRodForBorder", spec := "fnExactRodForBorder", inPlace := ["internal/bytealg.IndexByteString", "internal/bytealg.IndexString", "internal/bytealg.CountString"], named := ["unicode/utf8.first", "unicode/utf8.acceptRanges", "internal/bytealg.MaxLen"], apart := false, laid := [("unicode/utf8.acceptRanges", laid_unicode_utf8_acceptRanges), ("unicode/utf8.first", laid_unicode_utf8_first)], narrowed := true }
def FnExactRodForBorderUptoSaid : Prop := fnExactRodForBorderUptoRow.holds Tryd.pinned (OpenSpec.upto fnExactRodForBorderSpec)

end Rows
end Go.Proofs.YtemgllkkocieoaaDoor
