/-
  NARROWER THAN 'FOR EVERY INPUT', by the rows' own cells (each row's printed sentence says how): FnTreeVia: laid · FnLayerOn: laid · FnLayerTwice: laid · FnLayerDiff: laid · FnLayerLeast: laid · FnLayerFew: laid.
  DERIVED. THE GIVEN ROWS OF THIS SEAT. 6 by the template 'for every input the law returns true; each argument reads behind the call as it read before'; 0 by the template 'total and deterministic' (their statements: YtdhbdcmnbhjjaaaGreatDoorTotals.lean).
  GIVEN WITH THE SEED: the statements are not yours to turn. If you find one false, say at which input.
  Laid BY PROGRAM, IN A SANDBOX (cutbox-rows.mjs): the forced cells as the released guide's own fill.sh prints them over the translation e756e18c727ec22d… (all of the seat's roots in one cut). By AI agents, Wed Nov 11 2026. No macro, syntax, notation, axiom, sorry.
-/
import Derived.Test.YtdhbdcmnbhjjaaaGreatDoorChecked
import GoSem.PinnedTables
import GoSem.Claim
import GoSem.ClaimJoined
import GoSem.ClaimMapViews
import Derived.JoinedTies
import Derived.KernelRfl
namespace Go.Proofs.YtdhbdcmnbhjjaaaGreatDoor
/- THE CELL 'sum', in the pinned program and in every row, IS THE sha256 OF THE DUMP (.gsa) THAT YtdhbdcmnbhjjaaaGreatDoorProg.lean LOADS. Nothing in Lean hashes anything: it is a label: what it is worth is what the hold of that sum in a sandbox is worth. -/
noncomputable def Tryz.pinned : Pinned := { name := "ytdhbdcmnbhjjaaagreatdoor", sum := "e756e18c727ec22d1eb7fc005730f542741ca523b8b40817d4983ea46a99ebd8", checked := Tryz.checked }
namespace Rows
def none {H : Type} : Left H := { results := [], args := [] }

/- WHAT THE LISTED PACKAGE-LEVEL VARIABLES READ AS WHEN THE CALL BEGINS. Each datum BY PROGRAM (the guide's laid-datum.mjs) off the statement by which the dump's own 'gosem.cut.vars' lays the variable. In a bare row this is a premise. The card (YtdhbdcmnbhjjaaaGreatDoorCards.lean) ties it to the program's text. -/
def laid_unicode_utf8_acceptRanges {H : Type} : DataW H := .agg [.agg [.lit (.int .u8 128), .lit (.int .u8 191)], .agg [.lit (.int .u8 160), .lit (.int .u8 191)], .agg [.lit (.int .u8 128), .lit (.int .u8 159)], .agg [.lit (.int .u8 144), .lit (.int .u8 191)], .agg [.lit (.int .u8 128), .lit (.int .u8 143)], .agg [.lit (.int .u8 0), .lit (.int .u8 0)], .agg [.lit (.int .u8 0), .lit (.int .u8 0)], .agg [.lit (.int .u8 0), .lit (.int .u8 0)], .agg [.lit (.int .u8 0), .lit (.int .u8 0)], .agg [.lit (.int .u8 0), .lit (.int .u8 0)], .agg [.lit (.int .u8 0), .lit (.int .u8 0)], .agg [.lit (.int .u8 0), .lit (.int .u8 0)], .agg [.lit (.int .u8 0), .lit (.int .u8 0)], .agg [.lit (.int .u8 0), .lit (.int .u8 0)], .agg [.lit (.int .u8 0), .lit (.int .u8 0)], .agg [.lit (.int .u8 0), .lit (.int .u8 0)]]
/-- One of Go's own tables, pinned by name: the form's constant. -/
def laid_unicode_utf8_first : DataW Unit := Go.Pinned.utf8First

/-- 'laws.FnTreeVia': WHATEVER THE INPUT: true; the input reads as it did. -/
def fnTreeViaSpec : ChangeSpec := { name := "fnTreeVia", fn := fun _ => fun
  | [d1, d2] => { results := [.lit (.bool true)], args := [d1, d2] }
  | _ => none }
def fnTreeViaRow : OpenClaim := { program := "ytdhbdcmnbhjjaaagreatdoor", sum := "e756e18c727ec22d1eb7fc005730f542741ca523b8b40817d4983ea46a99ebd8", func := "loop.example/pargeting/laws.FnTreeVia", spec := "fnTreeVia", inPlace := ["internal/bytealg.CountString", "internal/bytealg.IndexByteString", "internal/bytealg.IndexString", "internal/abi.NoEscape", "internal/bytealg.MakeNoZero"], unfollowed := true, recurses := true, named := ["unicode/utf8.first", "unicode/utf8.acceptRanges", "internal/bytealg.MaxLen"], apart := false, laid := [("unicode/utf8.acceptRanges", laid_unicode_utf8_acceptRanges), ("unicode/utf8.first", laid_unicode_utf8_first)] }
def FnTreeViaSaid : Prop := fnTreeViaRow.holds Tryz.pinned (OpenSpec.ofChange fnTreeViaSpec)

/-- ITS FALSE NEIGHBOUR: 'it returns false'. Refute it at one input. -/
def fnTreeViaWrong : ChangeSpec := { name := "fnTreeVia", fn := fun _ => fun
  | [d1, d2] => { results := [.lit (.bool false)], args := [d1, d2] }
  | _ => none }
def FnTreeViaWrongFalsely : Prop := fnTreeViaRow.holds Tryz.pinned (OpenSpec.ofChange fnTreeViaWrong)

/-- 'laws.FnLayerOn': WHATEVER THE INPUT: true; the input reads as it did. -/
def fnLayerOnSpec : ChangeSpec := { name := "fnLayerOn", fn := fun _ => fun
  | [d] => { results := [.lit (.bool true)], args := [d] }
  | _ => none }
def fnLayerOnRow : OpenClaim := { program := "ytdhbdcmnbhjjaaagreatdoor", sum := "e756e18c727ec22d1eb7fc005730f542741ca523b8b40817d4983ea46a99ebd8", func := "loop.example/pargeting/laws.FnLayerOn", spec := "fnLayerOn", inPlace := ["internal/bytealg.CountString", "internal/bytealg.IndexByteString", "internal/bytealg.IndexString", "internal/abi.NoEscape", "internal/bytealg.MakeNoZero"], unfollowed := true, recurses := true, named := ["unicode/utf8.first", "unicode/utf8.acceptRanges", "internal/bytealg.MaxLen"], apart := false, laid := [("unicode/utf8.acceptRanges", laid_unicode_utf8_acceptRanges), ("unicode/utf8.first", laid_unicode_utf8_first)] }
def FnLayerOnSaid : Prop := fnLayerOnRow.holds Tryz.pinned (OpenSpec.ofChange fnLayerOnSpec)

/-- ITS FALSE NEIGHBOUR: 'it returns false'. Refute it at one input. -/
def fnLayerOnWrong : ChangeSpec := { name := "fnLayerOn", fn := fun _ => fun
  | [d] => { results := [.lit (.bool false)], args := [d] }
  | _ => none }
def FnLayerOnWrongFalsely : Prop := fnLayerOnRow.holds Tryz.pinned (OpenSpec.ofChange fnLayerOnWrong)

/-- 'laws.FnLayerTwice': WHATEVER THE INPUT: true; the input reads as it did. -/
def fnLayerTwiceSpec : ChangeSpec := { name := "fnLayerTwice", fn := fun _ => fun
  | [d] => { results := [.lit (.bool true)], args := [d] }
  | _ => none }
def fnLayerTwiceRow : OpenClaim := { program := "ytdhbdcmnbhjjaaagreatdoor", sum := "e756e18c727ec22d1eb7fc005730f542741ca523b8b40817d4983ea46a99ebd8", func := "loop.example/pargeting/laws.FnLayerTwice", spec := "fnLayerTwice", inPlace := ["internal/bytealg.CountString", "internal/bytealg.IndexByteString", "internal/bytealg.IndexString", "internal/abi.NoEscape", "internal/bytealg.MakeNoZero"], unfollowed := true, recurses := true, named := ["unicode/utf8.first", "unicode/utf8.acceptRanges", "internal/bytealg.MaxLen"], apart := false, laid := [("unicode/utf8.acceptRanges", laid_unicode_utf8_acceptRanges), ("unicode/utf8.first", laid_unicode_utf8_first)] }
def FnLayerTwiceSaid : Prop := fnLayerTwiceRow.holds Tryz.pinned (OpenSpec.ofChange fnLayerTwiceSpec)

/-- ITS FALSE NEIGHBOUR: 'it returns false'. Refute it at one input. -/
def fnLayerTwiceWrong : ChangeSpec := { name := "fnLayerTwice", fn := fun _ => fun
  | [d] => { results := [.lit (.bool false)], args := [d] }
  | _ => none }
def FnLayerTwiceWrongFalsely : Prop := fnLayerTwiceRow.holds Tryz.pinned (OpenSpec.ofChange fnLayerTwiceWrong)

/-- 'laws.FnLayerDiff': WHATEVER THE INPUT: true; the input reads as it did. -/
def fnLayerDiffSpec : ChangeSpec := { name := "fnLayerDiff", fn := fun _ => fun
  | [d] => { results := [.lit (.bool true)], args := [d] }
  | _ => none }
def fnLayerDiffRow : OpenClaim := { program := "ytdhbdcmnbhjjaaagreatdoor", sum := "e756e18c727ec22d1eb7fc005730f542741ca523b8b40817d4983ea46a99ebd8", func := "loop.example/pargeting/laws.FnLayerDiff", spec := "fnLayerDiff", inPlace := ["internal/bytealg.CountString", "internal/bytealg.IndexByteString", "internal/bytealg.IndexString", "internal/abi.NoEscape", "internal/bytealg.MakeNoZero"], unfollowed := true, recurses := true, named := ["unicode/utf8.first", "unicode/utf8.acceptRanges", "internal/bytealg.MaxLen"], apart := false, laid := [("unicode/utf8.acceptRanges", laid_unicode_utf8_acceptRanges), ("unicode/utf8.first", laid_unicode_utf8_first)] }
def FnLayerDiffSaid : Prop := fnLayerDiffRow.holds Tryz.pinned (OpenSpec.ofChange fnLayerDiffSpec)

/-- ITS FALSE NEIGHBOUR: 'it returns false'. Refute it at one input. -/
def fnLayerDiffWrong : ChangeSpec := { name := "fnLayerDiff", fn := fun _ => fun
  | [d] => { results := [.lit (.bool false)], args := [d] }
  | _ => none }
def FnLayerDiffWrongFalsely : Prop := fnLayerDiffRow.holds Tryz.pinned (OpenSpec.ofChange fnLayerDiffWrong)

/-- 'laws.FnLayerLeast': WHATEVER THE INPUT: true; the input reads as it did. -/
def fnLayerLeastSpec : ChangeSpec := { name := "fnLayerLeast", fn := fun _ => fun
  | [d1, d2] => { results := [.lit (.bool true)], args := [d1, d2] }
  | _ => none }
def fnLayerLeastRow : OpenClaim := { program := "ytdhbdcmnbhjjaaagreatdoor", sum := "e756e18c727ec22d1eb7fc005730f542741ca523b8b40817d4983ea46a99ebd8", func := "loop.example/pargeting/laws.FnLayerLeast", spec := "fnLayerLeast", inPlace := ["internal/bytealg.CountString", "internal/bytealg.IndexByteString", "internal/bytealg.IndexString", "internal/abi.NoEscape", "internal/bytealg.MakeNoZero"], unfollowed := true, recurses := true, named := ["unicode/utf8.first", "unicode/utf8.acceptRanges", "internal/bytealg.MaxLen"], apart := false, laid := [("unicode/utf8.acceptRanges", laid_unicode_utf8_acceptRanges), ("unicode/utf8.first", laid_unicode_utf8_first)] }
def FnLayerLeastSaid : Prop := fnLayerLeastRow.holds Tryz.pinned (OpenSpec.ofChange fnLayerLeastSpec)

/-- ITS FALSE NEIGHBOUR: 'it returns false'. Refute it at one input. -/
def fnLayerLeastWrong : ChangeSpec := { name := "fnLayerLeast", fn := fun _ => fun
  | [d1, d2] => { results := [.lit (.bool false)], args := [d1, d2] }
  | _ => none }
def FnLayerLeastWrongFalsely : Prop := fnLayerLeastRow.holds Tryz.pinned (OpenSpec.ofChange fnLayerLeastWrong)

/-- 'laws.FnLayerFew': WHATEVER THE INPUT: true; the input reads as it did. -/
def fnLayerFewSpec : ChangeSpec := { name := "fnLayerFew", fn := fun _ => fun
  | [d] => { results := [.lit (.bool true)], args := [d] }
  | _ => none }
def fnLayerFewRow : OpenClaim := { program := "ytdhbdcmnbhjjaaagreatdoor", sum := "e756e18c727ec22d1eb7fc005730f542741ca523b8b40817d4983ea46a99ebd8", func := "loop.example/pargeting/laws.FnLayerFew", spec := "fnLayerFew", inPlace := ["internal/bytealg.CountString", "internal/bytealg.IndexByteString", "internal/bytealg.IndexString", "internal/abi.NoEscape", "internal/bytealg.MakeNoZero"], unfollowed := true, recurses := true, named := ["unicode/utf8.first", "unicode/utf8.acceptRanges", "internal/bytealg.MaxLen"], apart := false, laid := [("unicode/utf8.acceptRanges", laid_unicode_utf8_acceptRanges), ("unicode/utf8.first", laid_unicode_utf8_first)] }
def FnLayerFewSaid : Prop := fnLayerFewRow.holds Tryz.pinned (OpenSpec.ofChange fnLayerFewSpec)

/-- ITS FALSE NEIGHBOUR: 'it returns false'. Refute it at one input. -/
def fnLayerFewWrong : ChangeSpec := { name := "fnLayerFew", fn := fun _ => fun
  | [d] => { results := [.lit (.bool false)], args := [d] }
  | _ => none }
def FnLayerFewWrongFalsely : Prop := fnLayerFewRow.holds Tryz.pinned (OpenSpec.ofChange fnLayerFewWrong)

/- THE SECOND FORM. 'bulk': how many values and letters a reading holds, each counted each time it is reached (what is shared counts as often as it is met; a slice's spare places count too). A statement '..UptoSaid' is the law's where the arguments, and the package variables that the reading takes, are together of bulk at most 1048576: NARROWER than '..Said'. Prove '..Said' where nothing that the law and all that it calls make is longer than what came in: it says more and counts as full. Else prove '..UptoSaid'. A law counts once. -/
mutual
def uptoBulk {H : Type} : DataW H → Nat
  | .lit (.string bytes) => bytes.length + 1
  | .lit _ => 1
  | .nil => 1
  | .ptr d => uptoBulk d + 1
  | .slice elems spare => uptoBulkAll elems + uptoBulkAll spare + 1
  | .agg parts => uptoBulkAll parts + 1
  | .iface _ d => uptoBulk d + 1
  | .map entries => uptoBulkEntries entries + 1
  | .held _ => 1
def uptoBulkAll {H : Type} : List (DataW H) → Nat
  | [] => 0
  | d :: r => uptoBulk d + uptoBulkAll r
def uptoBulkEntries {H : Type} : List (Lit × DataW H) → Nat
  | [] => 0
  | x :: r => uptoBulkEntry x + uptoBulkEntries r
def uptoBulkEntry {H : Type} : Lit × DataW H → Nat
  | (.string bytes, d) => bytes.length + uptoBulk d + 1
  | (_, d) => uptoBulk d + 1
 end
def uptoSmall : (H : Type) → List (DataW H) → Bool := fun _ ds => decide (uptoBulkAll ds ≤ 1048576)
def OpenSpec.upto (s : _root_.Go.ChangeSpec) : _root_.Go.OpenSpec := { _root_.Go.OpenSpec.ofChange s with cond := some uptoSmall }

/-- 'laws.FnTreeVia', WHERE WHAT IT READS IS OF BULK AT MOST 1048576: true; the input reads as it did. -/
def fnTreeViaUptoRow : OpenClaim := { program := "ytdhbdcmnbhjjaaagreatdoor", sum := "e756e18c727ec22d1eb7fc005730f542741ca523b8b40817d4983ea46a99ebd8", func := "loop.example/pargeting/laws.FnTreeVia", spec := "fnTreeVia", inPlace := ["internal/bytealg.CountString", "internal/bytealg.IndexByteString", "internal/bytealg.IndexString", "internal/abi.NoEscape", "internal/bytealg.MakeNoZero"], unfollowed := true, recurses := true, named := ["unicode/utf8.first", "unicode/utf8.acceptRanges", "internal/bytealg.MaxLen"], apart := false, laid := [("unicode/utf8.acceptRanges", laid_unicode_utf8_acceptRanges), ("unicode/utf8.first", laid_unicode_utf8_first)], narrowed := true }
def FnTreeViaUptoSaid : Prop := fnTreeViaUptoRow.holds Tryz.pinned (OpenSpec.upto fnTreeViaSpec)

/-- 'laws.FnLayerOn', WHERE WHAT IT READS IS OF BULK AT MOST 1048576: true; the input reads as it did. -/
def fnLayerOnUptoRow : OpenClaim := { program := "ytdhbdcmnbhjjaaagreatdoor", sum := "e756e18c727ec22d1eb7fc005730f542741ca523b8b40817d4983ea46a99ebd8", func := "loop.example/pargeting/laws.FnLayerOn", spec := "fnLayerOn", inPlace := ["internal/bytealg.CountString", "internal/bytealg.IndexByteString", "internal/bytealg.IndexString", "internal/abi.NoEscape", "internal/bytealg.MakeNoZero"], unfollowed := true, recurses := true, named := ["unicode/utf8.first", "unicode/utf8.acceptRanges", "internal/bytealg.MaxLen"], apart := false, laid := [("unicode/utf8.acceptRanges", laid_unicode_utf8_acceptRanges), ("unicode/utf8.first", laid_unicode_utf8_first)], narrowed := true }
def FnLayerOnUptoSaid : Prop := fnLayerOnUptoRow.holds Tryz.pinned (OpenSpec.upto fnLayerOnSpec)

/-- 'laws.FnLayerTwice', WHERE WHAT IT READS IS OF BULK AT MOST 1048576: true; the input reads as it did. -/
def fnLayerTwiceUptoRow : OpenClaim := { program := "ytdhbdcmnbhjjaaagreatdoor", sum := "e756e18c727ec22d1eb7fc005730f542741ca523b8b40817d4983ea46a99ebd8", func := "loop.example/pargeting/laws.FnLayerTwice", spec := "fnLayerTwice", inPlace := ["internal/bytealg.CountString", "internal/bytealg.IndexByteString", "internal/bytealg.IndexString", "internal/abi.NoEscape", "internal/bytealg.MakeNoZero"], unfollowed := true, recurses := true, named := ["unicode/utf8.first", "unicode/utf8.acceptRanges", "internal/bytealg.MaxLen"], apart := false, laid := [("unicode/utf8.acceptRanges", laid_unicode_utf8_acceptRanges), ("unicode/utf8.first", laid_unicode_utf8_first)], narrowed := true }
def FnLayerTwiceUptoSaid : Prop := fnLayerTwiceUptoRow.holds Tryz.pinned (OpenSpec.upto fnLayerTwiceSpec)

/-- 'laws.FnLayerDiff', WHERE WHAT IT READS IS OF BULK AT MOST 1048576: true; the input reads as it did. -/
def fnLayerDiffUptoRow : OpenClaim := { program := "ytdhbdcmnbhjjaaagreatdoor", sum := "e756e18c727ec22d1eb7fc005730f542741ca523b8b40817d4983ea46a99ebd8", func := "loop.example/pargeting/laws.FnLayerDiff", spec := "fnLayerDiff", inPlace := ["internal/bytealg.CountString", "internal/bytealg.IndexByteString", "internal/bytealg.IndexString", "internal/abi.NoEscape", "internal/bytealg.MakeNoZero"], unfollowed := true, recurses := true, named := ["unicode/utf8.first", "unicode/utf8.acceptRanges", "internal/bytealg.MaxLen"], apart := false, laid := [("unicode/utf8.acceptRanges", laid_unicode_utf8_acceptRanges), ("unicode/utf8.first", laid_unicode_utf8_first)], narrowed := true }
def FnLayerDiffUptoSaid : Prop := fnLayerDiffUptoRow.holds Tryz.pinned (OpenSpec.upto fnLayerDiffSpec)

/-- 'laws.FnLayerLeast', WHERE WHAT IT READS IS OF BULK AT MOST 1048576: true; the input reads as it did. -/
def fnLayerLeastUptoRow : OpenClaim := { program := "ytdhbdcmnbhjjaaagreatdoor", sum := "e756e18c727ec22d1eb7fc005730f542741ca523b8b40817d4983ea46a99ebd8", func := "loop.example/pargeting/laws.FnLayerLeast", spec := "fnLayerLeast", inPlace := ["internal/bytealg.CountString", "internal/bytealg.IndexByteString", "internal/bytealg.IndexString", "internal/abi.NoEscape", "internal/bytealg.MakeNoZero"], unfollowed := true, recurses := true, named := ["unicode/utf8.first", "unicode/utf8.acceptRanges", "internal/bytealg.MaxLen"], apart := false, laid := [("unicode/utf8.acceptRanges", laid_unicode_utf8_acceptRanges), ("unicode/utf8.first", laid_unicode_utf8_first)], narrowed := true }
def FnLayerLeastUptoSaid : Prop := fnLayerLeastUptoRow.holds Tryz.pinned (OpenSpec.upto fnLayerLeastSpec)

/-- 'laws.FnLayerFew', WHERE WHAT IT READS IS OF BULK AT MOST 1048576: true; the input reads as it did. -/
def fnLayerFewUptoRow : OpenClaim := { program := "ytdhbdcmnbhjjaaagreatdoor", sum := "e756e18c727ec22d1eb7fc005730f542741ca523b8b40817d4983ea46a99ebd8", func := "loop.example/pargeting/laws.FnLayerFew", spec := "fnLayerFew", inPlace := ["internal/bytealg.CountString", "internal/bytealg.IndexByteString", "internal/bytealg.IndexString", "internal/abi.NoEscape", "internal/bytealg.MakeNoZero"], unfollowed := true, recurses := true, named := ["unicode/utf8.first", "unicode/utf8.acceptRanges", "internal/bytealg.MaxLen"], apart := false, laid := [("unicode/utf8.acceptRanges", laid_unicode_utf8_acceptRanges), ("unicode/utf8.first", laid_unicode_utf8_first)], narrowed := true }
def FnLayerFewUptoSaid : Prop := fnLayerFewUptoRow.holds Tryz.pinned (OpenSpec.upto fnLayerFewSpec)

end Rows
end Go.Proofs.YtdhbdcmnbhjjaaaGreatDoor
