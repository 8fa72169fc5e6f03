/-
  NARROWER THAN 'FOR EVERY INPUT', by the rows' own cells (each row's printed sentence says how): FnExactPathOk: laid · FnExactPathLevels: laid · FnExactPathName: laid · FnExactPathUnder: laid · FnExactPathJoin: laid · FnExactPathMove: laid · FnExactOpOk: laid · FnPathOrder: laid · FnExactPathUp: laid · FnPathVia: laid · FnPathMove: laid · FnPathUp: laid · FnPathJoin: laid · FnPathUnder: laid · FnPath: laid.
  DERIVED. THE GIVEN ROWS OF THIS SEAT. 15 by the template 'for every input the law returns true; each argument reads behind the call as it read before'; 0 by the template 'total and deterministic' (their statements: YtacmebjlbghloaaDoorTotals.lean).
  GIVEN WITH THE SEED: the statements are not yours to turn. If you find one false, say at which input.
  Laid BY PROGRAM, IN A SANDBOX (cutbox-rows.mjs): the forced cells as the released guide's own fill.sh prints them over the translation 988cf3ab44e4ebe2… (all of the seat's roots in one cut). By AI agents, Wed Nov 11 2026. No macro, syntax, notation, axiom, sorry.
-/
import Derived.Test.YtacmebjlbghloaaDoorChecked
import GoSem.PinnedTables
import GoSem.Claim
import GoSem.ClaimJoined
import GoSem.ClaimMapViews
import Derived.JoinedTies
import Derived.KernelRfl
namespace Go.Proofs.YtacmebjlbghloaaDoor
/- THE CELL 'sum', in the pinned program and in every row, IS THE sha256 OF THE DUMP (.gsa) THAT YtacmebjlbghloaaDoorProg.lean LOADS. Nothing in Lean hashes anything: it is a label: what it is worth is what the hold of that sum in a sandbox is worth. -/
noncomputable def Tryd.pinned : Pinned := { name := "ytacmebjlbghloaadoor", sum := "988cf3ab44e4ebe20b5365ce7f5b029224af9da6a9ccbb8be595e5e50b32a857", checked := Tryd.checked }
namespace Rows
def none {H : Type} : Left H := { results := [], args := [] }

/- WHAT THE LISTED PACKAGE-LEVEL VARIABLES READ AS WHEN THE CALL BEGINS. Each datum BY PROGRAM (the guide's laid-datum.mjs) off the statement by which the dump's own 'gosem.cut.vars' lays the variable. In a bare row this is a premise. The card (YtacmebjlbghloaaDoorCards.lean) ties it to the program's text. -/
def laid_unicode_utf8_acceptRanges {H : Type} : DataW H := .agg [.agg [.lit (.int .u8 128), .lit (.int .u8 191)], .agg [.lit (.int .u8 160), .lit (.int .u8 191)], .agg [.lit (.int .u8 128), .lit (.int .u8 159)], .agg [.lit (.int .u8 144), .lit (.int .u8 191)], .agg [.lit (.int .u8 128), .lit (.int .u8 143)], .agg [.lit (.int .u8 0), .lit (.int .u8 0)], .agg [.lit (.int .u8 0), .lit (.int .u8 0)], .agg [.lit (.int .u8 0), .lit (.int .u8 0)], .agg [.lit (.int .u8 0), .lit (.int .u8 0)], .agg [.lit (.int .u8 0), .lit (.int .u8 0)], .agg [.lit (.int .u8 0), .lit (.int .u8 0)], .agg [.lit (.int .u8 0), .lit (.int .u8 0)], .agg [.lit (.int .u8 0), .lit (.int .u8 0)], .agg [.lit (.int .u8 0), .lit (.int .u8 0)], .agg [.lit (.int .u8 0), .lit (.int .u8 0)], .agg [.lit (.int .u8 0), .lit (.int .u8 0)]]
/-- One of Go's own tables, pinned by name: the form's constant. -/
def laid_unicode_utf8_first : DataW Unit := Go.Pinned.utf8First

/-- 'laws.FnExactPathOk': WHATEVER THE INPUT: true; the input reads as it did. -/
def fnExactPathOkSpec : ChangeSpec := { name := "fnExactPathOk", fn := fun _ => fun
  | [d] => { results := [.lit (.bool true)], args := [d] }
  | _ => none }
def fnExactPathOkRow : OpenClaim := { program := "ytacmebjlbghloaadoor", sum := "988cf3ab44e4ebe20b5365ce7f5b029224af9da6a9ccbb8be595e5e50b32a857", func := "loop.example/pargeting/laws.FnExactPathOk", spec := "fnExactPathOk", inPlace := ["internal/bytealg.CountString", "internal/bytealg.IndexByteString", "internal/bytealg.IndexString"], named := ["unicode/utf8.first", "unicode/utf8.acceptRanges", "internal/bytealg.MaxLen"], apart := false, laid := [("unicode/utf8.acceptRanges", laid_unicode_utf8_acceptRanges), ("unicode/utf8.first", laid_unicode_utf8_first)] }
def FnExactPathOkSaid : Prop := fnExactPathOkRow.holds Tryd.pinned (OpenSpec.ofChange fnExactPathOkSpec)

/-- ITS FALSE NEIGHBOUR: 'it returns false'. Refute it at one input. -/
def fnExactPathOkWrong : ChangeSpec := { name := "fnExactPathOk", fn := fun _ => fun
  | [d] => { results := [.lit (.bool false)], args := [d] }
  | _ => none }
def FnExactPathOkWrongFalsely : Prop := fnExactPathOkRow.holds Tryd.pinned (OpenSpec.ofChange fnExactPathOkWrong)

/-- 'laws.FnExactPathLevels': WHATEVER THE INPUT: true; the input reads as it did. -/
def fnExactPathLevelsSpec : ChangeSpec := { name := "fnExactPathLevels", fn := fun _ => fun
  | [d] => { results := [.lit (.bool true)], args := [d] }
  | _ => none }
def fnExactPathLevelsRow : OpenClaim := { program := "ytacmebjlbghloaadoor", sum := "988cf3ab44e4ebe20b5365ce7f5b029224af9da6a9ccbb8be595e5e50b32a857", func := "loop.example/pargeting/laws.FnExactPathLevels", spec := "fnExactPathLevels", inPlace := ["internal/bytealg.CountString", "internal/bytealg.IndexByteString", "internal/bytealg.IndexString"], named := ["unicode/utf8.first", "unicode/utf8.acceptRanges", "internal/bytealg.MaxLen"], apart := false, laid := [("unicode/utf8.acceptRanges", laid_unicode_utf8_acceptRanges), ("unicode/utf8.first", laid_unicode_utf8_first)] }
def FnExactPathLevelsSaid : Prop := fnExactPathLevelsRow.holds Tryd.pinned (OpenSpec.ofChange fnExactPathLevelsSpec)

/-- ITS FALSE NEIGHBOUR: 'it returns false'. Refute it at one input. -/
def fnExactPathLevelsWrong : ChangeSpec := { name := "fnExactPathLevels", fn := fun _ => fun
  | [d] => { results := [.lit (.bool false)], args := [d] }
  | _ => none }
def FnExactPathLevelsWrongFalsely : Prop := fnExactPathLevelsRow.holds Tryd.pinned (OpenSpec.ofChange fnExactPathLevelsWrong)

/-- 'laws.FnExactPathName': WHATEVER THE INPUT: true; the input reads as it did. -/
def fnExactPathNameSpec : ChangeSpec := { name := "fnExactPathName", fn := fun _ => fun
  | [d] => { results := [.lit (.bool true)], args := [d] }
  | _ => none }
def fnExactPathNameRow : OpenClaim := { program := "ytacmebjlbghloaadoor", sum := "988cf3ab44e4ebe20b5365ce7f5b029224af9da6a9ccbb8be595e5e50b32a857", func := "loop.example/pargeting/laws.FnExactPathName", spec := "fnExactPathName", inPlace := ["internal/bytealg.CountString", "internal/bytealg.IndexByteString", "internal/bytealg.IndexString"], named := ["unicode/utf8.first", "unicode/utf8.acceptRanges", "internal/bytealg.MaxLen"], apart := false, laid := [("unicode/utf8.acceptRanges", laid_unicode_utf8_acceptRanges), ("unicode/utf8.first", laid_unicode_utf8_first)] }
def FnExactPathNameSaid : Prop := fnExactPathNameRow.holds Tryd.pinned (OpenSpec.ofChange fnExactPathNameSpec)

/-- ITS FALSE NEIGHBOUR: 'it returns false'. Refute it at one input. -/
def fnExactPathNameWrong : ChangeSpec := { name := "fnExactPathName", fn := fun _ => fun
  | [d] => { results := [.lit (.bool false)], args := [d] }
  | _ => none }
def FnExactPathNameWrongFalsely : Prop := fnExactPathNameRow.holds Tryd.pinned (OpenSpec.ofChange fnExactPathNameWrong)

/-- 'laws.FnExactPathUnder': WHATEVER THE INPUT: true; the input reads as it did. -/
def fnExactPathUnderSpec : ChangeSpec := { name := "fnExactPathUnder", fn := fun _ => fun
  | [d1, d2] => { results := [.lit (.bool true)], args := [d1, d2] }
  | _ => none }
def fnExactPathUnderRow : OpenClaim := { program := "ytacmebjlbghloaadoor", sum := "988cf3ab44e4ebe20b5365ce7f5b029224af9da6a9ccbb8be595e5e50b32a857", func := "loop.example/pargeting/laws.FnExactPathUnder", spec := "fnExactPathUnder", inPlace := ["internal/bytealg.CountString", "internal/bytealg.IndexByteString", "internal/bytealg.IndexString"], named := ["unicode/utf8.first", "unicode/utf8.acceptRanges", "internal/bytealg.MaxLen"], apart := false, laid := [("unicode/utf8.acceptRanges", laid_unicode_utf8_acceptRanges), ("unicode/utf8.first", laid_unicode_utf8_first)] }
def FnExactPathUnderSaid : Prop := fnExactPathUnderRow.holds Tryd.pinned (OpenSpec.ofChange fnExactPathUnderSpec)

/-- ITS FALSE NEIGHBOUR: 'it returns false'. Refute it at one input. -/
def fnExactPathUnderWrong : ChangeSpec := { name := "fnExactPathUnder", fn := fun _ => fun
  | [d1, d2] => { results := [.lit (.bool false)], args := [d1, d2] }
  | _ => none }
def FnExactPathUnderWrongFalsely : Prop := fnExactPathUnderRow.holds Tryd.pinned (OpenSpec.ofChange fnExactPathUnderWrong)

/-- 'laws.FnExactPathJoin': WHATEVER THE INPUT: true; the input reads as it did. -/
def fnExactPathJoinSpec : ChangeSpec := { name := "fnExactPathJoin", fn := fun _ => fun
  | [d1, d2] => { results := [.lit (.bool true)], args := [d1, d2] }
  | _ => none }
def fnExactPathJoinRow : OpenClaim := { program := "ytacmebjlbghloaadoor", sum := "988cf3ab44e4ebe20b5365ce7f5b029224af9da6a9ccbb8be595e5e50b32a857", func := "loop.example/pargeting/laws.FnExactPathJoin", spec := "fnExactPathJoin", inPlace := ["internal/bytealg.CountString", "internal/bytealg.IndexByteString", "internal/bytealg.IndexString"], named := ["unicode/utf8.first", "unicode/utf8.acceptRanges", "internal/bytealg.MaxLen"], apart := false, laid := [("unicode/utf8.acceptRanges", laid_unicode_utf8_acceptRanges), ("unicode/utf8.first", laid_unicode_utf8_first)] }
def FnExactPathJoinSaid : Prop := fnExactPathJoinRow.holds Tryd.pinned (OpenSpec.ofChange fnExactPathJoinSpec)

/-- ITS FALSE NEIGHBOUR: 'it returns false'. Refute it at one input. -/
def fnExactPathJoinWrong : ChangeSpec := { name := "fnExactPathJoin", fn := fun _ => fun
  | [d1, d2] => { results := [.lit (.bool false)], args := [d1, d2] }
  | _ => none }
def FnExactPathJoinWrongFalsely : Prop := fnExactPathJoinRow.holds Tryd.pinned (OpenSpec.ofChange fnExactPathJoinWrong)

/-- 'laws.FnExactPathMove': WHATEVER THE INPUT: true; the input reads as it did. -/
def fnExactPathMoveSpec : ChangeSpec := { name := "fnExactPathMove", fn := fun _ => fun
  | [d1, d2, d3] => { results := [.lit (.bool true)], args := [d1, d2, d3] }
  | _ => none }
def fnExactPathMoveRow : OpenClaim := { program := "ytacmebjlbghloaadoor", sum := "988cf3ab44e4ebe20b5365ce7f5b029224af9da6a9ccbb8be595e5e50b32a857", func := "loop.example/pargeting/laws.FnExactPathMove", spec := "fnExactPathMove", inPlace := ["internal/bytealg.CountString", "internal/bytealg.IndexByteString", "internal/bytealg.IndexString"], named := ["unicode/utf8.first", "unicode/utf8.acceptRanges", "internal/bytealg.MaxLen"], apart := false, laid := [("unicode/utf8.acceptRanges", laid_unicode_utf8_acceptRanges), ("unicode/utf8.first", laid_unicode_utf8_first)] }
def FnExactPathMoveSaid : Prop := fnExactPathMoveRow.holds Tryd.pinned (OpenSpec.ofChange fnExactPathMoveSpec)

/-- ITS FALSE NEIGHBOUR: 'it returns false'. Refute it at one input. -/
def fnExactPathMoveWrong : ChangeSpec := { name := "fnExactPathMove", fn := fun _ => fun
  | [d1, d2, d3] => { results := [.lit (.bool false)], args := [d1, d2, d3] }
  | _ => none }
def FnExactPathMoveWrongFalsely : Prop := fnExactPathMoveRow.holds Tryd.pinned (OpenSpec.ofChange fnExactPathMoveWrong)

/-- 'laws.FnExactOpOk': WHATEVER THE INPUT: true; the input reads as it did. -/
def fnExactOpOkSpec : ChangeSpec := { name := "fnExactOpOk", fn := fun _ => fun
  | [d] => { results := [.lit (.bool true)], args := [d] }
  | _ => none }
def fnExactOpOkRow : OpenClaim := { program := "ytacmebjlbghloaadoor", sum := "988cf3ab44e4ebe20b5365ce7f5b029224af9da6a9ccbb8be595e5e50b32a857", func := "loop.example/pargeting/laws.FnExactOpOk", spec := "fnExactOpOk", inPlace := ["internal/bytealg.CountString", "internal/bytealg.IndexByteString", "internal/bytealg.IndexString"], named := ["unicode/utf8.first", "unicode/utf8.acceptRanges", "internal/bytealg.MaxLen"], apart := false, laid := [("unicode/utf8.acceptRanges", laid_unicode_utf8_acceptRanges), ("unicode/utf8.first", laid_unicode_utf8_first)] }
def FnExactOpOkSaid : Prop := fnExactOpOkRow.holds Tryd.pinned (OpenSpec.ofChange fnExactOpOkSpec)

/-- ITS FALSE NEIGHBOUR: 'it returns false'. Refute it at one input. -/
def fnExactOpOkWrong : ChangeSpec := { name := "fnExactOpOk", fn := fun _ => fun
  | [d] => { results := [.lit (.bool false)], args := [d] }
  | _ => none }
def FnExactOpOkWrongFalsely : Prop := fnExactOpOkRow.holds Tryd.pinned (OpenSpec.ofChange fnExactOpOkWrong)

/-- 'laws.FnPathOrder': WHATEVER THE INPUT: true; the input reads as it did. -/
def fnPathOrderSpec : ChangeSpec := { name := "fnPathOrder", fn := fun _ => fun
  | [d1, d2] => { results := [.lit (.bool true)], args := [d1, d2] }
  | _ => none }
def fnPathOrderRow : OpenClaim := { program := "ytacmebjlbghloaadoor", sum := "988cf3ab44e4ebe20b5365ce7f5b029224af9da6a9ccbb8be595e5e50b32a857", func := "loop.example/pargeting/laws.FnPathOrder", spec := "fnPathOrder", inPlace := ["internal/bytealg.CountString", "internal/bytealg.IndexByteString", "internal/bytealg.IndexString"], named := ["unicode/utf8.first", "unicode/utf8.acceptRanges", "internal/bytealg.MaxLen"], apart := false, laid := [("unicode/utf8.acceptRanges", laid_unicode_utf8_acceptRanges), ("unicode/utf8.first", laid_unicode_utf8_first)] }
def FnPathOrderSaid : Prop := fnPathOrderRow.holds Tryd.pinned (OpenSpec.ofChange fnPathOrderSpec)

/-- ITS FALSE NEIGHBOUR: 'it returns false'. Refute it at one input. -/
def fnPathOrderWrong : ChangeSpec := { name := "fnPathOrder", fn := fun _ => fun
  | [d1, d2] => { results := [.lit (.bool false)], args := [d1, d2] }
  | _ => none }
def FnPathOrderWrongFalsely : Prop := fnPathOrderRow.holds Tryd.pinned (OpenSpec.ofChange fnPathOrderWrong)

/-- 'laws.FnExactPathUp': WHATEVER THE INPUT: true; the input reads as it did. -/
def fnExactPathUpSpec : ChangeSpec := { name := "fnExactPathUp", fn := fun _ => fun
  | [d] => { results := [.lit (.bool true)], args := [d] }
  | _ => none }
def fnExactPathUpRow : OpenClaim := { program := "ytacmebjlbghloaadoor", sum := "988cf3ab44e4ebe20b5365ce7f5b029224af9da6a9ccbb8be595e5e50b32a857", func := "loop.example/pargeting/laws.FnExactPathUp", spec := "fnExactPathUp", inPlace := ["internal/bytealg.CountString", "internal/bytealg.IndexByteString", "internal/bytealg.IndexString", "internal/abi.NoEscape", "internal/bytealg.MakeNoZero"], named := ["unicode/utf8.first", "unicode/utf8.acceptRanges", "internal/bytealg.MaxLen"], apart := false, laid := [("unicode/utf8.acceptRanges", laid_unicode_utf8_acceptRanges), ("unicode/utf8.first", laid_unicode_utf8_first)] }
def FnExactPathUpSaid : Prop := fnExactPathUpRow.holds Tryd.pinned (OpenSpec.ofChange fnExactPathUpSpec)

/-- ITS FALSE NEIGHBOUR: 'it returns false'. Refute it at one input. -/
def fnExactPathUpWrong : ChangeSpec := { name := "fnExactPathUp", fn := fun _ => fun
  | [d] => { results := [.lit (.bool false)], args := [d] }
  | _ => none }
def FnExactPathUpWrongFalsely : Prop := fnExactPathUpRow.holds Tryd.pinned (OpenSpec.ofChange fnExactPathUpWrong)

/-- 'laws.FnPathVia': WHATEVER THE INPUT: true; the input reads as it did. -/
def fnPathViaSpec : ChangeSpec := { name := "fnPathVia", fn := fun _ => fun
  | [d1, d2] => { results := [.lit (.bool true)], args := [d1, d2] }
  | _ => none }
def fnPathViaRow : OpenClaim := { program := "ytacmebjlbghloaadoor", sum := "988cf3ab44e4ebe20b5365ce7f5b029224af9da6a9ccbb8be595e5e50b32a857", func := "loop.example/pargeting/laws.FnPathVia", spec := "fnPathVia", inPlace := ["internal/bytealg.CountString", "internal/bytealg.IndexByteString", "internal/bytealg.IndexString"], named := ["unicode/utf8.first", "unicode/utf8.acceptRanges", "internal/bytealg.MaxLen"], apart := false, laid := [("unicode/utf8.acceptRanges", laid_unicode_utf8_acceptRanges), ("unicode/utf8.first", laid_unicode_utf8_first)] }
def FnPathViaSaid : Prop := fnPathViaRow.holds Tryd.pinned (OpenSpec.ofChange fnPathViaSpec)

/-- ITS FALSE NEIGHBOUR: 'it returns false'. Refute it at one input. -/
def fnPathViaWrong : ChangeSpec := { name := "fnPathVia", fn := fun _ => fun
  | [d1, d2] => { results := [.lit (.bool false)], args := [d1, d2] }
  | _ => none }
def FnPathViaWrongFalsely : Prop := fnPathViaRow.holds Tryd.pinned (OpenSpec.ofChange fnPathViaWrong)

/-- 'laws.FnPathMove': WHATEVER THE INPUT: true; the input reads as it did. -/
def fnPathMoveSpec : ChangeSpec := { name := "fnPathMove", fn := fun _ => fun
  | [d] => { results := [.lit (.bool true)], args := [d] }
  | _ => none }
def fnPathMoveRow : OpenClaim := { program := "ytacmebjlbghloaadoor", sum := "988cf3ab44e4ebe20b5365ce7f5b029224af9da6a9ccbb8be595e5e50b32a857", func := "loop.example/pargeting/laws.FnPathMove", spec := "fnPathMove", inPlace := ["internal/bytealg.CountString", "internal/bytealg.IndexByteString", "internal/bytealg.IndexString"], named := ["unicode/utf8.first", "unicode/utf8.acceptRanges", "internal/bytealg.MaxLen"], apart := false, laid := [("unicode/utf8.acceptRanges", laid_unicode_utf8_acceptRanges), ("unicode/utf8.first", laid_unicode_utf8_first)] }
def FnPathMoveSaid : Prop := fnPathMoveRow.holds Tryd.pinned (OpenSpec.ofChange fnPathMoveSpec)

/-- ITS FALSE NEIGHBOUR: 'it returns false'. Refute it at one input. -/
def fnPathMoveWrong : ChangeSpec := { name := "fnPathMove", fn := fun _ => fun
  | [d] => { results := [.lit (.bool false)], args := [d] }
  | _ => none }
def FnPathMoveWrongFalsely : Prop := fnPathMoveRow.holds Tryd.pinned (OpenSpec.ofChange fnPathMoveWrong)

/-- 'laws.FnPathUp': WHATEVER THE INPUT: true; the input reads as it did. -/
def fnPathUpSpec : ChangeSpec := { name := "fnPathUp", fn := fun _ => fun
  | [d] => { results := [.lit (.bool true)], args := [d] }
  | _ => none }
def fnPathUpRow : OpenClaim := { program := "ytacmebjlbghloaadoor", sum := "988cf3ab44e4ebe20b5365ce7f5b029224af9da6a9ccbb8be595e5e50b32a857", func := "loop.example/pargeting/laws.FnPathUp", spec := "fnPathUp", inPlace := ["internal/bytealg.CountString", "internal/bytealg.IndexByteString", "internal/bytealg.IndexString", "internal/abi.NoEscape", "internal/bytealg.MakeNoZero"], named := ["unicode/utf8.first", "unicode/utf8.acceptRanges", "internal/bytealg.MaxLen"], apart := false, laid := [("unicode/utf8.acceptRanges", laid_unicode_utf8_acceptRanges), ("unicode/utf8.first", laid_unicode_utf8_first)] }
def FnPathUpSaid : Prop := fnPathUpRow.holds Tryd.pinned (OpenSpec.ofChange fnPathUpSpec)

/-- ITS FALSE NEIGHBOUR: 'it returns false'. Refute it at one input. -/
def fnPathUpWrong : ChangeSpec := { name := "fnPathUp", fn := fun _ => fun
  | [d] => { results := [.lit (.bool false)], args := [d] }
  | _ => none }
def FnPathUpWrongFalsely : Prop := fnPathUpRow.holds Tryd.pinned (OpenSpec.ofChange fnPathUpWrong)

/-- 'laws.FnPathJoin': WHATEVER THE INPUT: true; the input reads as it did. -/
def fnPathJoinSpec : ChangeSpec := { name := "fnPathJoin", fn := fun _ => fun
  | [d1, d2] => { results := [.lit (.bool true)], args := [d1, d2] }
  | _ => none }
def fnPathJoinRow : OpenClaim := { program := "ytacmebjlbghloaadoor", sum := "988cf3ab44e4ebe20b5365ce7f5b029224af9da6a9ccbb8be595e5e50b32a857", func := "loop.example/pargeting/laws.FnPathJoin", spec := "fnPathJoin", inPlace := ["internal/bytealg.CountString", "internal/bytealg.IndexByteString", "internal/bytealg.IndexString", "internal/abi.NoEscape", "internal/bytealg.MakeNoZero"], named := ["unicode/utf8.first", "unicode/utf8.acceptRanges", "internal/bytealg.MaxLen"], apart := false, laid := [("unicode/utf8.acceptRanges", laid_unicode_utf8_acceptRanges), ("unicode/utf8.first", laid_unicode_utf8_first)] }
def FnPathJoinSaid : Prop := fnPathJoinRow.holds Tryd.pinned (OpenSpec.ofChange fnPathJoinSpec)

/-- ITS FALSE NEIGHBOUR: 'it returns false'. Refute it at one input. -/
def fnPathJoinWrong : ChangeSpec := { name := "fnPathJoin", fn := fun _ => fun
  | [d1, d2] => { results := [.lit (.bool false)], args := [d1, d2] }
  | _ => none }
def FnPathJoinWrongFalsely : Prop := fnPathJoinRow.holds Tryd.pinned (OpenSpec.ofChange fnPathJoinWrong)

/-- 'laws.FnPathUnder': WHATEVER THE INPUT: true; the input reads as it did. -/
def fnPathUnderSpec : ChangeSpec := { name := "fnPathUnder", fn := fun _ => fun
  | [d1, d2] => { results := [.lit (.bool true)], args := [d1, d2] }
  | _ => none }
def fnPathUnderRow : OpenClaim := { program := "ytacmebjlbghloaadoor", sum := "988cf3ab44e4ebe20b5365ce7f5b029224af9da6a9ccbb8be595e5e50b32a857", func := "loop.example/pargeting/laws.FnPathUnder", spec := "fnPathUnder", inPlace := ["internal/bytealg.CountString", "internal/bytealg.IndexByteString", "internal/bytealg.IndexString", "internal/abi.NoEscape", "internal/bytealg.MakeNoZero"], named := ["unicode/utf8.first", "unicode/utf8.acceptRanges", "internal/bytealg.MaxLen"], apart := false, laid := [("unicode/utf8.acceptRanges", laid_unicode_utf8_acceptRanges), ("unicode/utf8.first", laid_unicode_utf8_first)] }
def FnPathUnderSaid : Prop := fnPathUnderRow.holds Tryd.pinned (OpenSpec.ofChange fnPathUnderSpec)

/-- ITS FALSE NEIGHBOUR: 'it returns false'. Refute it at one input. -/
def fnPathUnderWrong : ChangeSpec := { name := "fnPathUnder", fn := fun _ => fun
  | [d1, d2] => { results := [.lit (.bool false)], args := [d1, d2] }
  | _ => none }
def FnPathUnderWrongFalsely : Prop := fnPathUnderRow.holds Tryd.pinned (OpenSpec.ofChange fnPathUnderWrong)

/-- 'laws.FnPath': WHATEVER THE INPUT: true; the input reads as it did. -/
def fnPathSpec : ChangeSpec := { name := "fnPath", fn := fun _ => fun
  | [d] => { results := [.lit (.bool true)], args := [d] }
  | _ => none }
def fnPathRow : OpenClaim := { program := "ytacmebjlbghloaadoor", sum := "988cf3ab44e4ebe20b5365ce7f5b029224af9da6a9ccbb8be595e5e50b32a857", func := "loop.example/pargeting/laws.FnPath", spec := "fnPath", inPlace := ["internal/bytealg.CountString", "internal/bytealg.IndexByteString", "internal/bytealg.IndexString", "internal/abi.NoEscape", "internal/bytealg.MakeNoZero"], named := ["unicode/utf8.first", "unicode/utf8.acceptRanges", "internal/bytealg.MaxLen"], apart := false, laid := [("unicode/utf8.acceptRanges", laid_unicode_utf8_acceptRanges), ("unicode/utf8.first", laid_unicode_utf8_first)] }
def FnPathSaid : Prop := fnPathRow.holds Tryd.pinned (OpenSpec.ofChange fnPathSpec)

/-- ITS FALSE NEIGHBOUR: 'it returns false'. Refute it at one input. -/
def fnPathWrong : ChangeSpec := { name := "fnPath", fn := fun _ => fun
  | [d] => { results := [.lit (.bool false)], args := [d] }
  | _ => none }
def FnPathWrongFalsely : Prop := fnPathRow.holds Tryd.pinned (OpenSpec.ofChange fnPathWrong)

/- THE SECOND FORM. 'bulk': how many values and letters a reading holds, each counted each time it is reached (what is shared counts as often as it is met; a slice's spare places count too). A statement '..UptoSaid' is the law's where the arguments, and the package variables that the reading takes, are together of bulk at most 1048576: NARROWER than '..Said'. Prove '..Said' where nothing that the law and all that it calls make is longer than what came in: it says more and counts as full. Else prove '..UptoSaid'. A law counts once. -/
mutual
def uptoBulk {H : Type} : DataW H → Nat
  | .lit (.string bytes) => bytes.length + 1
  | .lit _ => 1
  | .nil => 1
  | .ptr d => uptoBulk d + 1
  | .slice elems spare => uptoBulkAll elems + uptoBulkAll spare + 1
  | .agg parts => uptoBulkAll parts + 1
  | .iface _ d => uptoBulk d + 1
  | .map entries => uptoBulkEntries entries + 1
  | .held _ => 1
def uptoBulkAll {H : Type} : List (DataW H) → Nat
  | [] => 0
  | d :: r => uptoBulk d + uptoBulkAll r
def uptoBulkEntries {H : Type} : List (Lit × DataW H) → Nat
  | [] => 0
  | x :: r => uptoBulkEntry x + uptoBulkEntries r
def uptoBulkEntry {H : Type} : Lit × DataW H → Nat
  | (.string bytes, d) => bytes.length + uptoBulk d + 1
  | (_, d) => uptoBulk d + 1
 end
def uptoSmall : (H : Type) → List (DataW H) → Bool := fun _ ds => decide (uptoBulkAll ds ≤ 1048576)
def OpenSpec.upto (s : _root_.Go.ChangeSpec) : _root_.Go.OpenSpec := { _root_.Go.OpenSpec.ofChange s with cond := some uptoSmall }

/-- 'laws.FnExactPathOk', WHERE WHAT IT READS IS OF BULK AT MOST 1048576: true; the input reads as it did. -/
def fnExactPathOkUptoRow : OpenClaim := { program := "ytacmebjlbghloaadoor", sum := "988cf3ab44e4ebe20b5365ce7f5b029224af9da6a9ccbb8be595e5e50b32a857", func := "loop.example/pargeting/laws.FnExactPathOk", spec := "fnExactPathOk", inPlace := ["internal/bytealg.CountString", "internal/bytealg.IndexByteString", "internal/bytealg.IndexString"], named := ["unicode/utf8.first", "unicode/utf8.acceptRanges", "internal/bytealg.MaxLen"], apart := false, laid := [("unicode/utf8.acceptRanges", laid_unicode_utf8_acceptRanges), ("unicode/utf8.first", laid_unicode_utf8_first)], narrowed := true }
def FnExactPathOkUptoSaid : Prop := fnExactPathOkUptoRow.holds Tryd.pinned (OpenSpec.upto fnExactPathOkSpec)

/-- 'laws.FnExactPathLevels', WHERE WHAT IT READS IS OF BULK AT MOST 1048576: true; the input reads as it did. -/
def fnExactPathLevelsUptoRow : OpenClaim := { program := "ytacmebjlbghloaadoor", sum := "988cf3ab44e4ebe20b5365ce7f5b029224af9da6a9ccbb8be595e5e50b32a857", func := "loop.example/pargeting/laws.FnExactPathLevels", spec := "fnExactPathLevels", inPlace := ["internal/bytealg.CountString", "internal/bytealg.IndexByteString", "internal/bytealg.IndexString"], named := ["unicode/utf8.first", "unicode/utf8.acceptRanges", "internal/bytealg.MaxLen"], apart := false, laid := [("unicode/utf8.acceptRanges", laid_unicode_utf8_acceptRanges), ("unicode/utf8.first", laid_unicode_utf8_first)], narrowed := true }
def FnExactPathLevelsUptoSaid : Prop := fnExactPathLevelsUptoRow.holds Tryd.pinned (OpenSpec.upto fnExactPathLevelsSpec)

/-- 'laws.FnExactPathName', WHERE WHAT IT READS IS OF BULK AT MOST 1048576: true; the input reads as it did. -/
def fnExactPathNameUptoRow : OpenClaim := { program := "ytacmebjlbghloaadoor", sum := "988cf3ab44e4ebe20b5365ce7f5b029224af9da6a9ccbb8be595e5e50b32a857", func := "loop.example/pargeting/laws.FnExactPathName", spec := "fnExactPathName", inPlace := ["internal/bytealg.CountString", "internal/bytealg.IndexByteString", "internal/bytealg.IndexString"], named := ["unicode/utf8.first", "unicode/utf8.acceptRanges", "internal/bytealg.MaxLen"], apart := false, laid := [("unicode/utf8.acceptRanges", laid_unicode_utf8_acceptRanges), ("unicode/utf8.first", laid_unicode_utf8_first)], narrowed := true }
def FnExactPathNameUptoSaid : Prop := fnExactPathNameUptoRow.holds Tryd.pinned (OpenSpec.upto fnExactPathNameSpec)

/-- 'laws.FnExactPathUnder', WHERE WHAT IT READS IS OF BULK AT MOST 1048576: true; the input reads as it did. -/
def fnExactPathUnderUptoRow : OpenClaim := { program := "ytacmebjlbghloaadoor", sum := "988cf3ab44e4ebe20b5365ce7f5b029224af9da6a9ccbb8be595e5e50b32a857", func := "loop.example/pargeting/laws.FnExactPathUnder", spec := "fnExactPathUnder", inPlace := ["internal/bytealg.CountString", "internal/bytealg.IndexByteString", "internal/bytealg.IndexString"], named := ["unicode/utf8.first", "unicode/utf8.acceptRanges", "internal/bytealg.MaxLen"], apart := false, laid := [("unicode/utf8.acceptRanges", laid_unicode_utf8_acceptRanges), ("unicode/utf8.first", laid_unicode_utf8_first)], narrowed := true }
def FnExactPathUnderUptoSaid : Prop := fnExactPathUnderUptoRow.holds Tryd.pinned (OpenSpec.upto fnExactPathUnderSpec)

/-- 'laws.FnExactPathJoin', WHERE WHAT IT READS IS OF BULK AT MOST 1048576: true; the input reads as it did. -/
def fnExactPathJoinUptoRow : OpenClaim := { program := "ytacmebjlbghloaadoor", sum := "988cf3ab44e4ebe20b5365ce7f5b029224af9da6a9ccbb8be595e5e50b32a857", func := "loop.example/pargeting/laws.FnExactPathJoin", spec := "fnExactPathJoin", inPlace := ["internal/bytealg.CountString", "internal/bytealg.IndexByteString", "internal/bytealg.IndexString"], named := ["unicode/utf8.first", "unicode/utf8.acceptRanges", "internal/bytealg.MaxLen"], apart := false, laid := [("unicode/utf8.acceptRanges", laid_unicode_utf8_acceptRanges), ("unicode/utf8.first", laid_unicode_utf8_first)], narrowed := true }
def FnExactPathJoinUptoSaid : Prop := fnExactPathJoinUptoRow.holds Tryd.pinned (OpenSpec.upto fnExactPathJoinSpec)

/-- 'laws.FnExactPathMove', WHERE WHAT IT READS IS OF BULK AT MOST 1048576: true; the input reads as it did. -/
def fnExactPathMoveUptoRow : OpenClaim := { program := "ytacmebjlbghloaadoor", sum := "988cf3ab44e4ebe20b5365ce7f5b029224af9da6a9ccbb8be595e5e50b32a857", func := "loop.example/pargeting/laws.FnExactPathMove", spec := "fnExactPathMove", inPlace := ["internal/bytealg.CountString", "internal/bytealg.IndexByteString", "internal/bytealg.IndexString"], named := ["unicode/utf8.first", "unicode/utf8.acceptRanges", "internal/bytealg.MaxLen"], apart := false, laid := [("unicode/utf8.acceptRanges", laid_unicode_utf8_acceptRanges), ("unicode/utf8.first", laid_unicode_utf8_first)], narrowed := true }
def FnExactPathMoveUptoSaid : Prop := fnExactPathMoveUptoRow.holds Tryd.pinned (OpenSpec.upto fnExactPathMoveSpec)

/-- 'laws.FnExactOpOk', WHERE WHAT IT READS IS OF BULK AT MOST 1048576: true; the input reads as it did. -/
def fnExactOpOkUptoRow : OpenClaim := { program := "ytacmebjlbghloaadoor", sum := "988cf3ab44e4ebe20b5365ce7f5b029224af9da6a9ccbb8be595e5e50b32a857", func := "loop.example/pargeting/laws.FnExactOpOk", spec := "fnExactOpOk", inPlace := ["internal/bytealg.CountString", "internal/bytealg.IndexByteString", "internal/bytealg.IndexString"], named := ["unicode/utf8.first", "unicode/utf8.acceptRanges", "internal/bytealg.MaxLen"], apart := false, laid := [("unicode/utf8.acceptRanges", laid_unicode_utf8_acceptRanges), ("unicode/utf8.first", laid_unicode_utf8_first)], narrowed := true }
def FnExactOpOkUptoSaid : Prop := fnExactOpOkUptoRow.holds Tryd.pinned (OpenSpec.upto fnExactOpOkSpec)

/-- 'laws.FnPathOrder', WHERE WHAT IT READS IS OF BULK AT MOST 1048576: true; the input reads as it did. -/
def fnPathOrderUptoRow : OpenClaim := { program := "ytacmebjlbghloaadoor", sum := "988cf3ab44e4ebe20b5365ce7f5b029224af9da6a9ccbb8be595e5e50b32a857", func := "loop.example/pargeting/laws.FnPathOrder", spec := "fnPathOrder", inPlace := ["internal/bytealg.CountString", "internal/bytealg.IndexByteString", "internal/bytealg.IndexString"], named := ["unicode/utf8.first", "unicode/utf8.acceptRanges", "internal/bytealg.MaxLen"], apart := false, laid := [("unicode/utf8.acceptRanges", laid_unicode_utf8_acceptRanges), ("unicode/utf8.first", laid_unicode_utf8_first)], narrowed := true }
def FnPathOrderUptoSaid : Prop := fnPathOrderUptoRow.holds Tryd.pinned (OpenSpec.upto fnPathOrderSpec)

/-- 'laws.FnExactPathUp', WHERE WHAT IT READS IS OF BULK AT MOST 1048576: true; the input reads as it did. -/
def fnExactPathUpUptoRow : OpenClaim := { program := "ytacmebjlbghloaadoor", sum := "988cf3ab44e4ebe20b5365ce7f5b029224af9da6a9ccbb8be595e5e50b32a857", func := "loop.example/pargeting/laws.FnExactPathUp", spec := "fnExactPathUp", inPlace := ["internal/bytealg.CountString", "internal/bytealg.IndexByteString", "internal/bytealg.IndexString", "internal/abi.NoEscape", "internal/bytealg.MakeNoZero"], named := ["unicode/utf8.first", "unicode/utf8.acceptRanges", "internal/bytealg.MaxLen"], apart := false, laid := [("unicode/utf8.acceptRanges", laid_unicode_utf8_acceptRanges), ("unicode/utf8.first", laid_unicode_utf8_first)], narrowed := true }
def FnExactPathUpUptoSaid : Prop := fnExactPathUpUptoRow.holds Tryd.pinned (OpenSpec.upto fnExactPathUpSpec)

/-- 'laws.FnPathVia', WHERE WHAT IT READS IS OF BULK AT MOST 1048576: true; the input reads as it did. -/
def fnPathViaUptoRow : OpenClaim := { program := "ytacmebjlbghloaadoor", sum := "988cf3ab44e4ebe20b5365ce7f5b029224af9da6a9ccbb8be595e5e50b32a857", func := "loop.example/pargeting/laws.FnPathVia", spec := "fnPathVia", inPlace := ["internal/bytealg.CountString", "internal/bytealg.IndexByteString", "internal/bytealg.IndexString"], named := ["unicode/utf8.first", "unicode/utf8.acceptRanges", "internal/bytealg.MaxLen"], apart := false, laid := [("unicode/utf8.acceptRanges", laid_unicode_utf8_acceptRanges), ("unicode/utf8.first", laid_unicode_utf8_first)], narrowed := true }
def FnPathViaUptoSaid : Prop := fnPathViaUptoRow.holds Tryd.pinned (OpenSpec.upto fnPathViaSpec)

/-- 'laws.FnPathMove', WHERE WHAT IT READS IS OF BULK AT MOST 1048576: true; the input reads as it did. -/
def fnPathMoveUptoRow : OpenClaim := { program := "ytacmebjlbghloaadoor", sum := "988cf3ab44e4ebe20b5365ce7f5b029224af9da6a9ccbb8be595e5e50b32a857", func := "loop.example/pargeting/laws.FnPathMove", spec := "fnPathMove", inPlace := ["internal/bytealg.CountString", "internal/bytealg.IndexByteString", "internal/bytealg.IndexString"], named := ["unicode/utf8.first", "unicode/utf8.acceptRanges", "internal/bytealg.MaxLen"], apart := false, laid := [("unicode/utf8.acceptRanges", laid_unicode_utf8_acceptRanges), ("unicode/utf8.first", laid_unicode_utf8_first)], narrowed := true }
def FnPathMoveUptoSaid : Prop := fnPathMoveUptoRow.holds Tryd.pinned (OpenSpec.upto fnPathMoveSpec)

/-- 'laws.FnPathUp', WHERE WHAT IT READS IS OF BULK AT MOST 1048576: true; the input reads as it did. -/
def fnPathUpUptoRow : OpenClaim := { program := "ytacmebjlbghloaadoor", sum := "988cf3ab44e4ebe20b5365ce7f5b029224af9da6a9ccbb8be595e5e50b32a857", func := "loop.example/pargeting/laws.FnPathUp", spec := "fnPathUp", inPlace := ["internal/bytealg.CountString", "internal/bytealg.IndexByteString", "internal/bytealg.IndexString", "internal/abi.NoEscape", "internal/bytealg.MakeNoZero"], named := ["unicode/utf8.first", "unicode/utf8.acceptRanges", "internal/bytealg.MaxLen"], apart := false, laid := [("unicode/utf8.acceptRanges", laid_unicode_utf8_acceptRanges), ("unicode/utf8.first", laid_unicode_utf8_first)], narrowed := true }
def FnPathUpUptoSaid : Prop := fnPathUpUptoRow.holds Tryd.pinned (OpenSpec.upto fnPathUpSpec)

/-- 'laws.FnPathJoin', WHERE WHAT IT READS IS OF BULK AT MOST 1048576: true; the input reads as it did. -/
def fnPathJoinUptoRow : OpenClaim := { program := "ytacmebjlbghloaadoor", sum := "988cf3ab44e4ebe20b5365ce7f5b029224af9da6a9ccbb8be595e5e50b32a857", func := "loop.example/pargeting/laws.FnPathJoin", spec := "fnPathJoin", inPlace := ["internal/bytealg.CountString", "internal/bytealg.IndexByteString", "internal/bytealg.IndexString", "internal/abi.NoEscape", "internal/bytealg.MakeNoZero"], named := ["unicode/utf8.first", "unicode/utf8.acceptRanges", "internal/bytealg.MaxLen"], apart := false, laid := [("unicode/utf8.acceptRanges", laid_unicode_utf8_acceptRanges), ("unicode/utf8.first", laid_unicode_utf8_first)], narrowed := true }
def FnPathJoinUptoSaid : Prop := fnPathJoinUptoRow.holds Tryd.pinned (OpenSpec.upto fnPathJoinSpec)

/-- 'laws.FnPathUnder', WHERE WHAT IT READS IS OF BULK AT MOST 1048576: true; the input reads as it did. -/
def fnPathUnderUptoRow : OpenClaim := { program := "ytacmebjlbghloaadoor", sum := "988cf3ab44e4ebe20b5365ce7f5b029224af9da6a9ccbb8be595e5e50b32a857", func := "loop.example/pargeting/laws.FnPathUnder", spec := "fnPathUnder", inPlace := ["internal/bytealg.CountString", "internal/bytealg.IndexByteString", "internal/bytealg.IndexString", "internal/abi.NoEscape", "internal/bytealg.MakeNoZero"], named := ["unicode/utf8.first", "unicode/utf8.acceptRanges", "internal/bytealg.MaxLen"], apart := false, laid := [("unicode/utf8.acceptRanges", laid_unicode_utf8_acceptRanges), ("unicode/utf8.first", laid_unicode_utf8_first)], narrowed := true }
def FnPathUnderUptoSaid : Prop := fnPathUnderUptoRow.holds Tryd.pinned (OpenSpec.upto fnPathUnderSpec)

/-- 'laws.FnPath', WHERE WHAT IT READS IS OF BULK AT MOST 1048576: true; the input reads as it did. -/
def fnPathUptoRow : OpenClaim := { program := "ytacmebjlbghloaadoor", sum := "988cf3ab44e4ebe20b5365ce7f5b029224af9da6a9ccbb8be595e5e50b32a857", func := "loop.example/pargeting/laws.FnPath", spec := "fnPath", inPlace := ["internal/bytealg.CountString", "internal/bytealg.IndexByteString", "internal/bytealg.IndexString", "internal/abi.NoEscape", "internal/bytealg.MakeNoZero"], named := ["unicode/utf8.first", "unicode/utf8.acceptRanges", "internal/bytealg.MaxLen"], apart := false, laid := [("unicode/utf8.acceptRanges", laid_unicode_utf8_acceptRanges), ("unicode/utf8.first", laid_unicode_utf8_first)], narrowed := true }
def FnPathUptoSaid : Prop := fnPathUptoRow.holds Tryd.pinned (OpenSpec.upto fnPathSpec)

end Rows
end Go.Proofs.YtacmebjlbghloaaDoor
