/-
  NARROWER THAN 'FOR EVERY INPUT', by the rows' own cells (each row's printed sentence says how): FnTreeMany: laid · FnTree: laid · FnTreePut: laid · FnTreeVia: laid · FnTreeBack: laid · FnTreeMove: laid · FnTreeTurned: laid · FnTreeCode: laid.
  DERIVED. THE GIVEN ROWS OF THIS SEAT. 8 by the template 'for every input the law returns true; each argument reads behind the call as it read before'; 0 by the template 'total and deterministic' (their statements: YtakbngafhogcbaaGreatDoorTotals.lean).
  GIVEN WITH THE SEED: the statements are not yours to turn. If you find one false, say at which input.
  Laid BY PROGRAM, IN A SANDBOX (cutbox-rows.mjs): the forced cells as the released guide's own fill.sh prints them over the translation 65990fc07c147d41… (all of the seat's roots in one cut). By AI agents, Wed Nov 11 2026. No macro, syntax, notation, axiom, sorry.
-/
import Derived.Test.YtakbngafhogcbaaGreatDoorChecked
import GoSem.PinnedTables
import GoSem.Claim
import GoSem.ClaimJoined
import GoSem.ClaimMapViews
import Derived.JoinedTies
import Derived.KernelRfl
namespace Go.Proofs.YtakbngafhogcbaaGreatDoor
/- THE CELL 'sum', in the pinned program and in every row, IS THE sha256 OF THE DUMP (.gsa) THAT YtakbngafhogcbaaGreatDoorProg.lean LOADS. Nothing in Lean hashes anything: it is a label: what it is worth is what the hold of that sum in a sandbox is worth. -/
noncomputable def Tryz.pinned : Pinned := { name := "ytakbngafhogcbaagreatdoor", sum := "65990fc07c147d412a3abbacbc36f35a922db781347aae5e82b44ed69604fb4a", checked := Tryz.checked }
namespace Rows
def none {H : Type} : Left H := { results := [], args := [] }

/- WHAT THE LISTED PACKAGE-LEVEL VARIABLES READ AS WHEN THE CALL BEGINS. Each datum BY PROGRAM (the guide's laid-datum.mjs) off the statement by which the dump's own 'gosem.cut.vars' lays the variable. In a bare row this is a premise. The card (YtakbngafhogcbaaGreatDoorCards.lean) ties it to the program's text. -/
def laid_unicode_utf8_acceptRanges {H : Type} : DataW H := .agg [.agg [.lit (.int .u8 128), .lit (.int .u8 191)], .agg [.lit (.int .u8 160), .lit (.int .u8 191)], .agg [.lit (.int .u8 128), .lit (.int .u8 159)], .agg [.lit (.int .u8 144), .lit (.int .u8 191)], .agg [.lit (.int .u8 128), .lit (.int .u8 143)], .agg [.lit (.int .u8 0), .lit (.int .u8 0)], .agg [.lit (.int .u8 0), .lit (.int .u8 0)], .agg [.lit (.int .u8 0), .lit (.int .u8 0)], .agg [.lit (.int .u8 0), .lit (.int .u8 0)], .agg [.lit (.int .u8 0), .lit (.int .u8 0)], .agg [.lit (.int .u8 0), .lit (.int .u8 0)], .agg [.lit (.int .u8 0), .lit (.int .u8 0)], .agg [.lit (.int .u8 0), .lit (.int .u8 0)], .agg [.lit (.int .u8 0), .lit (.int .u8 0)], .agg [.lit (.int .u8 0), .lit (.int .u8 0)], .agg [.lit (.int .u8 0), .lit (.int .u8 0)]]
/-- One of Go's own tables, pinned by name: the form's constant. -/
def laid_unicode_utf8_first : DataW Unit := Go.Pinned.utf8First

/-- 'laws.FnTreeMany': WHATEVER THE INPUT: true; the input reads as it did. -/
def fnTreeManySpec : ChangeSpec := { name := "fnTreeMany", fn := fun _ => fun
  | [d] => { results := [.lit (.bool true)], args := [d] }
  | _ => none }
def fnTreeManyRow : OpenClaim := { program := "ytakbngafhogcbaagreatdoor", sum := "65990fc07c147d412a3abbacbc36f35a922db781347aae5e82b44ed69604fb4a", func := "loop.example/pargeting/laws.FnTreeMany", spec := "fnTreeMany", inPlace := ["internal/bytealg.CountString", "internal/bytealg.IndexByteString", "internal/bytealg.IndexString", "internal/abi.NoEscape", "internal/bytealg.MakeNoZero"], unfollowed := true, recurses := true, named := ["unicode/utf8.first", "unicode/utf8.acceptRanges", "internal/bytealg.MaxLen"], apart := false, laid := [("unicode/utf8.acceptRanges", laid_unicode_utf8_acceptRanges), ("unicode/utf8.first", laid_unicode_utf8_first)] }
def FnTreeManySaid : Prop := fnTreeManyRow.holds Tryz.pinned (OpenSpec.ofChange fnTreeManySpec)

/-- ITS FALSE NEIGHBOUR: 'it returns false'. Refute it at one input. -/
def fnTreeManyWrong : ChangeSpec := { name := "fnTreeMany", fn := fun _ => fun
  | [d] => { results := [.lit (.bool false)], args := [d] }
  | _ => none }
def FnTreeManyWrongFalsely : Prop := fnTreeManyRow.holds Tryz.pinned (OpenSpec.ofChange fnTreeManyWrong)

/-- 'laws.FnTree': WHATEVER THE INPUT: true; the input reads as it did. -/
def fnTreeSpec : ChangeSpec := { name := "fnTree", fn := fun _ => fun
  | [d] => { results := [.lit (.bool true)], args := [d] }
  | _ => none }
def fnTreeRow : OpenClaim := { program := "ytakbngafhogcbaagreatdoor", sum := "65990fc07c147d412a3abbacbc36f35a922db781347aae5e82b44ed69604fb4a", func := "loop.example/pargeting/laws.FnTree", spec := "fnTree", inPlace := ["internal/bytealg.CountString", "internal/bytealg.IndexByteString", "internal/bytealg.IndexString", "internal/abi.NoEscape", "internal/bytealg.MakeNoZero"], unfollowed := true, recurses := true, named := ["unicode/utf8.first", "unicode/utf8.acceptRanges", "internal/bytealg.MaxLen"], apart := false, laid := [("unicode/utf8.acceptRanges", laid_unicode_utf8_acceptRanges), ("unicode/utf8.first", laid_unicode_utf8_first)] }
def FnTreeSaid : Prop := fnTreeRow.holds Tryz.pinned (OpenSpec.ofChange fnTreeSpec)

/-- ITS FALSE NEIGHBOUR: 'it returns false'. Refute it at one input. -/
def fnTreeWrong : ChangeSpec := { name := "fnTree", fn := fun _ => fun
  | [d] => { results := [.lit (.bool false)], args := [d] }
  | _ => none }
def FnTreeWrongFalsely : Prop := fnTreeRow.holds Tryz.pinned (OpenSpec.ofChange fnTreeWrong)

/-- 'laws.FnTreePut': WHATEVER THE INPUT: true; the input reads as it did. -/
def fnTreePutSpec : ChangeSpec := { name := "fnTreePut", fn := fun _ => fun
  | [d] => { results := [.lit (.bool true)], args := [d] }
  | _ => none }
def fnTreePutRow : OpenClaim := { program := "ytakbngafhogcbaagreatdoor", sum := "65990fc07c147d412a3abbacbc36f35a922db781347aae5e82b44ed69604fb4a", func := "loop.example/pargeting/laws.FnTreePut", spec := "fnTreePut", inPlace := ["internal/bytealg.CountString", "internal/bytealg.IndexByteString", "internal/bytealg.IndexString", "internal/abi.NoEscape", "internal/bytealg.MakeNoZero"], unfollowed := true, recurses := true, named := ["unicode/utf8.first", "unicode/utf8.acceptRanges", "internal/bytealg.MaxLen"], apart := false, laid := [("unicode/utf8.acceptRanges", laid_unicode_utf8_acceptRanges), ("unicode/utf8.first", laid_unicode_utf8_first)] }
def FnTreePutSaid : Prop := fnTreePutRow.holds Tryz.pinned (OpenSpec.ofChange fnTreePutSpec)

/-- ITS FALSE NEIGHBOUR: 'it returns false'. Refute it at one input. -/
def fnTreePutWrong : ChangeSpec := { name := "fnTreePut", fn := fun _ => fun
  | [d] => { results := [.lit (.bool false)], args := [d] }
  | _ => none }
def FnTreePutWrongFalsely : Prop := fnTreePutRow.holds Tryz.pinned (OpenSpec.ofChange fnTreePutWrong)

/-- 'laws.FnTreeVia': WHATEVER THE INPUT: true; the input reads as it did. -/
def fnTreeViaSpec : ChangeSpec := { name := "fnTreeVia", fn := fun _ => fun
  | [d1, d2] => { results := [.lit (.bool true)], args := [d1, d2] }
  | _ => none }
def fnTreeViaRow : OpenClaim := { program := "ytakbngafhogcbaagreatdoor", sum := "65990fc07c147d412a3abbacbc36f35a922db781347aae5e82b44ed69604fb4a", func := "loop.example/pargeting/laws.FnTreeVia", spec := "fnTreeVia", inPlace := ["internal/bytealg.CountString", "internal/bytealg.IndexByteString", "internal/bytealg.IndexString", "internal/abi.NoEscape", "internal/bytealg.MakeNoZero"], unfollowed := true, recurses := true, named := ["unicode/utf8.first", "unicode/utf8.acceptRanges", "internal/bytealg.MaxLen"], apart := false, laid := [("unicode/utf8.acceptRanges", laid_unicode_utf8_acceptRanges), ("unicode/utf8.first", laid_unicode_utf8_first)] }
def FnTreeViaSaid : Prop := fnTreeViaRow.holds Tryz.pinned (OpenSpec.ofChange fnTreeViaSpec)

/-- ITS FALSE NEIGHBOUR: 'it returns false'. Refute it at one input. -/
def fnTreeViaWrong : ChangeSpec := { name := "fnTreeVia", fn := fun _ => fun
  | [d1, d2] => { results := [.lit (.bool false)], args := [d1, d2] }
  | _ => none }
def FnTreeViaWrongFalsely : Prop := fnTreeViaRow.holds Tryz.pinned (OpenSpec.ofChange fnTreeViaWrong)

/-- 'laws.FnTreeBack': WHATEVER THE INPUT: true; the input reads as it did. -/
def fnTreeBackSpec : ChangeSpec := { name := "fnTreeBack", fn := fun _ => fun
  | [d] => { results := [.lit (.bool true)], args := [d] }
  | _ => none }
def fnTreeBackRow : OpenClaim := { program := "ytakbngafhogcbaagreatdoor", sum := "65990fc07c147d412a3abbacbc36f35a922db781347aae5e82b44ed69604fb4a", func := "loop.example/pargeting/laws.FnTreeBack", spec := "fnTreeBack", inPlace := ["internal/bytealg.CountString", "internal/bytealg.IndexByteString", "internal/bytealg.IndexString", "internal/abi.NoEscape", "internal/bytealg.MakeNoZero"], unfollowed := true, recurses := true, named := ["unicode/utf8.first", "unicode/utf8.acceptRanges", "internal/bytealg.MaxLen"], apart := false, laid := [("unicode/utf8.acceptRanges", laid_unicode_utf8_acceptRanges), ("unicode/utf8.first", laid_unicode_utf8_first)] }
def FnTreeBackSaid : Prop := fnTreeBackRow.holds Tryz.pinned (OpenSpec.ofChange fnTreeBackSpec)

/-- ITS FALSE NEIGHBOUR: 'it returns false'. Refute it at one input. -/
def fnTreeBackWrong : ChangeSpec := { name := "fnTreeBack", fn := fun _ => fun
  | [d] => { results := [.lit (.bool false)], args := [d] }
  | _ => none }
def FnTreeBackWrongFalsely : Prop := fnTreeBackRow.holds Tryz.pinned (OpenSpec.ofChange fnTreeBackWrong)

/-- 'laws.FnTreeMove': WHATEVER THE INPUT: true; the input reads as it did. -/
def fnTreeMoveSpec : ChangeSpec := { name := "fnTreeMove", fn := fun _ => fun
  | [d] => { results := [.lit (.bool true)], args := [d] }
  | _ => none }
def fnTreeMoveRow : OpenClaim := { program := "ytakbngafhogcbaagreatdoor", sum := "65990fc07c147d412a3abbacbc36f35a922db781347aae5e82b44ed69604fb4a", func := "loop.example/pargeting/laws.FnTreeMove", spec := "fnTreeMove", inPlace := ["internal/bytealg.CountString", "internal/bytealg.IndexByteString", "internal/bytealg.IndexString", "internal/abi.NoEscape", "internal/bytealg.MakeNoZero"], unfollowed := true, recurses := true, named := ["unicode/utf8.first", "unicode/utf8.acceptRanges", "internal/bytealg.MaxLen"], apart := false, laid := [("unicode/utf8.acceptRanges", laid_unicode_utf8_acceptRanges), ("unicode/utf8.first", laid_unicode_utf8_first)] }
def FnTreeMoveSaid : Prop := fnTreeMoveRow.holds Tryz.pinned (OpenSpec.ofChange fnTreeMoveSpec)

/-- ITS FALSE NEIGHBOUR: 'it returns false'. Refute it at one input. -/
def fnTreeMoveWrong : ChangeSpec := { name := "fnTreeMove", fn := fun _ => fun
  | [d] => { results := [.lit (.bool false)], args := [d] }
  | _ => none }
def FnTreeMoveWrongFalsely : Prop := fnTreeMoveRow.holds Tryz.pinned (OpenSpec.ofChange fnTreeMoveWrong)

/-- 'laws.FnTreeTurned': WHATEVER THE INPUT: true; the input reads as it did. -/
def fnTreeTurnedSpec : ChangeSpec := { name := "fnTreeTurned", fn := fun _ => fun
  | [d] => { results := [.lit (.bool true)], args := [d] }
  | _ => none }
def fnTreeTurnedRow : OpenClaim := { program := "ytakbngafhogcbaagreatdoor", sum := "65990fc07c147d412a3abbacbc36f35a922db781347aae5e82b44ed69604fb4a", func := "loop.example/pargeting/laws.FnTreeTurned", spec := "fnTreeTurned", inPlace := ["internal/bytealg.CountString", "internal/bytealg.IndexByteString", "internal/bytealg.IndexString", "internal/abi.NoEscape", "internal/bytealg.MakeNoZero"], unfollowed := true, recurses := true, named := ["unicode/utf8.first", "unicode/utf8.acceptRanges", "internal/bytealg.MaxLen"], apart := false, laid := [("unicode/utf8.acceptRanges", laid_unicode_utf8_acceptRanges), ("unicode/utf8.first", laid_unicode_utf8_first)] }
def FnTreeTurnedSaid : Prop := fnTreeTurnedRow.holds Tryz.pinned (OpenSpec.ofChange fnTreeTurnedSpec)

/-- ITS FALSE NEIGHBOUR: 'it returns false'. Refute it at one input. -/
def fnTreeTurnedWrong : ChangeSpec := { name := "fnTreeTurned", fn := fun _ => fun
  | [d] => { results := [.lit (.bool false)], args := [d] }
  | _ => none }
def FnTreeTurnedWrongFalsely : Prop := fnTreeTurnedRow.holds Tryz.pinned (OpenSpec.ofChange fnTreeTurnedWrong)

/-- 'laws.FnTreeCode': WHATEVER THE INPUT: true; the input reads as it did. -/
def fnTreeCodeSpec : ChangeSpec := { name := "fnTreeCode", fn := fun _ => fun
  | [d] => { results := [.lit (.bool true)], args := [d] }
  | _ => none }
def fnTreeCodeRow : OpenClaim := { program := "ytakbngafhogcbaagreatdoor", sum := "65990fc07c147d412a3abbacbc36f35a922db781347aae5e82b44ed69604fb4a", func := "loop.example/pargeting/laws.FnTreeCode", spec := "fnTreeCode", inPlace := ["internal/bytealg.CountString", "internal/bytealg.IndexByteString", "internal/bytealg.IndexString", "internal/abi.NoEscape", "internal/bytealg.MakeNoZero"], unfollowed := true, recurses := true, named := ["unicode/utf8.first", "unicode/utf8.acceptRanges", "internal/bytealg.MaxLen"], apart := false, laid := [("unicode/utf8.acceptRanges", laid_unicode_utf8_acceptRanges), ("unicode/utf8.first", laid_unicode_utf8_first)] }
def FnTreeCodeSaid : Prop := fnTreeCodeRow.holds Tryz.pinned (OpenSpec.ofChange fnTreeCodeSpec)

/-- ITS FALSE NEIGHBOUR: 'it returns false'. Refute it at one input. -/
def fnTreeCodeWrong : ChangeSpec := { name := "fnTreeCode", fn := fun _ => fun
  | [d] => { results := [.lit (.bool false)], args := [d] }
  | _ => none }
def FnTreeCodeWrongFalsely : Prop := fnTreeCodeRow.holds Tryz.pinned (OpenSpec.ofChange fnTreeCodeWrong)

/- THE SECOND FORM. 'bulk': how many values and letters a reading holds, each counted each time it is reached (what is shared counts as often as it is met; a slice's spare places count too). A statement '..UptoSaid' is the law's where the arguments, and the package variables that the reading takes, are together of bulk at most 1048576: NARROWER than '..Said'. Prove '..Said' where nothing that the law and all that it calls make is longer than what came in: it says more and counts as full. Else prove '..UptoSaid'. A law counts once. -/
mutual
def uptoBulk {H : Type} : DataW H → Nat
  | .lit (.string bytes) => bytes.length + 1
  | .lit _ => 1
  | .nil => 1
  | .ptr d => uptoBulk d + 1
  | .slice elems spare => uptoBulkAll elems + uptoBulkAll spare + 1
  | .agg parts => uptoBulkAll parts + 1
  | .iface _ d => uptoBulk d + 1
  | .map entries => uptoBulkEntries entries + 1
  | .held _ => 1
def uptoBulkAll {H : Type} : List (DataW H) → Nat
  | [] => 0
  | d :: r => uptoBulk d + uptoBulkAll r
def uptoBulkEntries {H : Type} : List (Lit × DataW H) → Nat
  | [] => 0
  | x :: r => uptoBulkEntry x + uptoBulkEntries r
def uptoBulkEntry {H : Type} : Lit × DataW H → Nat
  | (.string bytes, d) => bytes.length + uptoBulk d + 1
  | (_, d) => uptoBulk d + 1
 end
def uptoSmall : (H : Type) → List (DataW H) → Bool := fun _ ds => decide (uptoBulkAll ds ≤ 1048576)
def OpenSpec.upto (s : _root_.Go.ChangeSpec) : _root_.Go.OpenSpec := { _root_.Go.OpenSpec.ofChange s with cond := some uptoSmall }

/-- 'laws.FnTreeMany', WHERE WHAT IT READS IS OF BULK AT MOST 1048576: true; the input reads as it did. -/
def fnTreeManyUptoRow : OpenClaim := { program := "ytakbngafhogcbaagreatdoor", sum := "65990fc07c147d412a3abbacbc36f35a922db781347aae5e82b44ed69604fb4a", func := "loop.example/pargeting/laws.FnTreeMany", spec := "fnTreeMany", inPlace := ["internal/bytealg.CountString", "internal/bytealg.IndexByteString", "internal/bytealg.IndexString", "internal/abi.NoEscape", "internal/bytealg.MakeNoZero"], unfollowed := true, recurses := true, named := ["unicode/utf8.first", "unicode/utf8.acceptRanges", "internal/bytealg.MaxLen"], apart := false, laid := [("unicode/utf8.acceptRanges", laid_unicode_utf8_acceptRanges), ("unicode/utf8.first", laid_unicode_utf8_first)], narrowed := true }
def FnTreeManyUptoSaid : Prop := fnTreeManyUptoRow.holds Tryz.pinned (OpenSpec.upto fnTreeManySpec)

/-- 'laws.FnTree', WHERE WHAT IT READS IS OF BULK AT MOST 1048576: true; the input reads as it did. -/
def fnTreeUptoRow : OpenClaim := { program := "ytakbngafhogcbaagreatdoor", sum := "65990fc07c147d412a3abbacbc36f35a922db781347aae5e82b44ed69604fb4a", func := "loop.example/pargeting/laws.FnTree", spec := "fnTree", inPlace := ["internal/bytealg.CountString", "internal/bytealg.IndexByteString", "internal/bytealg.IndexString", "internal/abi.NoEscape", "internal/bytealg.MakeNoZero"], unfollowed := true, recurses := true, named := ["unicode/utf8.first", "unicode/utf8.acceptRanges", "internal/bytealg.MaxLen"], apart := false, laid := [("unicode/utf8.acceptRanges", laid_unicode_utf8_acceptRanges), ("unicode/utf8.first", laid_unicode_utf8_first)], narrowed := true }
def FnTreeUptoSaid : Prop := fnTreeUptoRow.holds Tryz.pinned (OpenSpec.upto fnTreeSpec)

/-- 'laws.FnTreePut', WHERE WHAT IT READS IS OF BULK AT MOST 1048576: true; the input reads as it did. -/
def fnTreePutUptoRow : OpenClaim := { program := "ytakbngafhogcbaagreatdoor", sum := "65990fc07c147d412a3abbacbc36f35a922db781347aae5e82b44ed69604fb4a", func := "loop.example/pargeting/laws.FnTreePut", spec := "fnTreePut", inPlace := ["internal/bytealg.CountString", "internal/bytealg.IndexByteString", "internal/bytealg.IndexString", "internal/abi.NoEscape", "internal/bytealg.MakeNoZero"], unfollowed := true, recurses := true, named := ["unicode/utf8.first", "unicode/utf8.acceptRanges", "internal/bytealg.MaxLen"], apart := false, laid := [("unicode/utf8.acceptRanges", laid_unicode_utf8_acceptRanges), ("unicode/utf8.first", laid_unicode_utf8_first)], narrowed := true }
def FnTreePutUptoSaid : Prop := fnTreePutUptoRow.holds Tryz.pinned (OpenSpec.upto fnTreePutSpec)

/-- 'laws.FnTreeVia', WHERE WHAT IT READS IS OF BULK AT MOST 1048576: true; the input reads as it did. -/
def fnTreeViaUptoRow : OpenClaim := { program := "ytakbngafhogcbaagreatdoor", sum := "65990fc07c147d412a3abbacbc36f35a922db781347aae5e82b44ed69604fb4a", func := "loop.example/pargeting/laws.FnTreeVia", spec := "fnTreeVia", inPlace := ["internal/bytealg.CountString", "internal/bytealg.IndexByteString", "internal/bytealg.IndexString", "internal/abi.NoEscape", "internal/bytealg.MakeNoZero"], unfollowed := true, recurses := true, named := ["unicode/utf8.first", "unicode/utf8.acceptRanges", "internal/bytealg.MaxLen"], apart := false, laid := [("unicode/utf8.acceptRanges", laid_unicode_utf8_acceptRanges), ("unicode/utf8.first", laid_unicode_utf8_first)], narrowed := true }
def FnTreeViaUptoSaid : Prop := fnTreeViaUptoRow.holds Tryz.pinned (OpenSpec.upto fnTreeViaSpec)

/-- 'laws.FnTreeBack', WHERE WHAT IT READS IS OF BULK AT MOST 1048576: true; the input reads as it did. -/
def fnTreeBackUptoRow : OpenClaim := { program := "ytakbngafhogcbaagreatdoor", sum := "65990fc07c147d412a3abbacbc36f35a922db781347aae5e82b44ed69604fb4a", func := "loop.example/pargeting/laws.FnTreeBack", spec := "fnTreeBack", inPlace := ["internal/bytealg.CountString", "internal/bytealg.IndexByteString", "internal/bytealg.IndexString", "internal/abi.NoEscape", "internal/bytealg.MakeNoZero"], unfollowed := true, recurses := true, named := ["unicode/utf8.first", "unicode/utf8.acceptRanges", "internal/bytealg.MaxLen"], apart := false, laid := [("unicode/utf8.acceptRanges", laid_unicode_utf8_acceptRanges), ("unicode/utf8.first", laid_unicode_utf8_first)], narrowed := true }
def FnTreeBackUptoSaid : Prop := fnTreeBackUptoRow.holds Tryz.pinned (OpenSpec.upto fnTreeBackSpec)

/-- 'laws.FnTreeMove', WHERE WHAT IT READS IS OF BULK AT MOST 1048576: true; the input reads as it did. -/
def fnTreeMoveUptoRow : OpenClaim := { program := "ytakbngafhogcbaagreatdoor", sum := "65990fc07c147d412a3abbacbc36f35a922db781347aae5e82b44ed69604fb4a", func := "loop.example/pargeting/laws.FnTreeMove", spec := "fnTreeMove", inPlace := ["internal/bytealg.CountString", "internal/bytealg.IndexByteString", "internal/bytealg.IndexString", "internal/abi.NoEscape", "internal/bytealg.MakeNoZero"], unfollowed := true, recurses := true, named := ["unicode/utf8.first", "unicode/utf8.acceptRanges", "internal/bytealg.MaxLen"], apart := false, laid := [("unicode/utf8.acceptRanges", laid_unicode_utf8_acceptRanges), ("unicode/utf8.first", laid_unicode_utf8_first)], narrowed := true }
def FnTreeMoveUptoSaid : Prop := fnTreeMoveUptoRow.holds Tryz.pinned (OpenSpec.upto fnTreeMoveSpec)

/-- 'laws.FnTreeTurned', WHERE WHAT IT READS IS OF BULK AT MOST 1048576: true; the input reads as it did. -/
def fnTreeTurnedUptoRow : OpenClaim := { program := "ytakbngafhogcbaagreatdoor", sum := "65990fc07c147d412a3abbacbc36f35a922db781347aae5e82b44ed69604fb4a", func := "loop.example/pargeting/laws.FnTreeTurned", spec := "fnTreeTurned", inPlace := ["internal/bytealg.CountString", "internal/bytealg.IndexByteString", "internal/bytealg.IndexString", "internal/abi.NoEscape", "internal/bytealg.MakeNoZero"], unfollowed := true, recurses := true, named := ["unicode/utf8.first", "unicode/utf8.acceptRanges", "internal/bytealg.MaxLen"], apart := false, laid := [("unicode/utf8.acceptRanges", laid_unicode_utf8_acceptRanges), ("unicode/utf8.first", laid_unicode_utf8_first)], narrowed := true }
def FnTreeTurnedUptoSaid : Prop := fnTreeTurnedUptoRow.holds Tryz.pinned (OpenSpec.upto fnTreeTurnedSpec)

/-- 'laws.FnTreeCode', WHERE WHAT IT READS IS OF BULK AT MOST 1048576: true; the input reads as it did. -/
def fnTreeCodeUptoRow : OpenClaim := { program := "ytakbngafhogcbaagreatdoor", sum := "65990fc07c147d412a3abbacbc36f35a922db781347aae5e82b44ed69604fb4a", func := "loop.example/pargeting/laws.FnTreeCode", spec := "fnTreeCode", inPlace := ["internal/bytealg.CountString", "internal/bytealg.IndexByteString", "internal/bytealg.IndexString", "internal/abi.NoEscape", "internal/bytealg.MakeNoZero"], unfollowed := true, recurses := true, named := ["unicode/utf8.first", "unicode/utf8.acceptRanges", "internal/bytealg.MaxLen"], apart := false, laid := [("unicode/utf8.acceptRanges", laid_unicode_utf8_acceptRanges), ("unicode/utf8.first", laid_unicode_utf8_first)], narrowed := true }
def FnTreeCodeUptoSaid : Prop := fnTreeCodeUptoRow.holds Tryz.pinned (OpenSpec.upto fnTreeCodeSpec)

end Rows
end Go.Proofs.YtakbngafhogcbaaGreatDoor
