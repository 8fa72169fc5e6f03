/-
  NARROWER THAN 'FOR EVERY INPUT', by the rows' own cells (each row's printed sentence says how): FnLayerBent: laid · FnLayerHides: laid · FnTreeGet: laid · FnTreeBent: laid · FnTreeUps: laid · FnTreeList: laid.
  DERIVED. THE GIVEN ROWS OF THIS SEAT. 6 by the template 'for every input the law returns true; each argument reads behind the call as it read before'; 0 by the template 'total and deterministic' (their statements: YtobbodbkdcbflaaDoorTotals.lean).
  GIVEN WITH THE SEED: the statements are not yours to turn. If you find one false, say at which input.
  Laid BY PROGRAM, IN A SANDBOX (cutbox-rows.mjs): the forced cells as the released guide's own fill.sh prints them over the translation 6c3c9459b2b9e0d4… (all of the seat's roots in one cut). By AI agents, Wed Nov 11 2026. No macro, syntax, notation, axiom, sorry.
-/
import Derived.Test.YtobbodbkdcbflaaDoorChecked
import GoSem.PinnedTables
import GoSem.Claim
import GoSem.ClaimJoined
import GoSem.ClaimMapViews
import Derived.JoinedTies
import Derived.KernelRfl
namespace Go.Proofs.YtobbodbkdcbflaaDoor
/- THE CELL 'sum', in the pinned program and in every row, IS THE sha256 OF THE DUMP (.gsa) THAT YtobbodbkdcbflaaDoorProg.lean LOADS. Nothing in Lean hashes anything: it is a label: what it is worth is what the hold of that sum in a sandbox is worth. -/
noncomputable def Tryd.pinned : Pinned := { name := "ytobbodbkdcbflaadoor", sum := "6c3c9459b2b9e0d4716a0178203fd18d517a65ef5df8b80be9d49cd25447cdfa", checked := Tryd.checked }
namespace Rows
def none {H : Type} : Left H := { results := [], args := [] }

/- WHAT THE LISTED PACKAGE-LEVEL VARIABLES READ AS WHEN THE CALL BEGINS. Each datum BY PROGRAM (the guide's laid-datum.mjs) off the statement by which the dump's own 'gosem.cut.vars' lays the variable. In a bare row this is a premise. The card (YtobbodbkdcbflaaDoorCards.lean) ties it to the program's text. -/
def laid_unicode_utf8_acceptRanges {H : Type} : DataW H := .agg [.agg [.lit (.int .u8 128), .lit (.int .u8 191)], .agg [.lit (.int .u8 160), .lit (.int .u8 191)], .agg [.lit (.int .u8 128), .lit (.int .u8 159)], .agg [.lit (.int .u8 144), .lit (.int .u8 191)], .agg [.lit (.int .u8 128), .lit (.int .u8 143)], .agg [.lit (.int .u8 0), .lit (.int .u8 0)], .agg [.lit (.int .u8 0), .lit (.int .u8 0)], .agg [.lit (.int .u8 0), .lit (.int .u8 0)], .agg [.lit (.int .u8 0), .lit (.int .u8 0)], .agg [.lit (.int .u8 0), .lit (.int .u8 0)], .agg [.lit (.int .u8 0), .lit (.int .u8 0)], .agg [.lit (.int .u8 0), .lit (.int .u8 0)], .agg [.lit (.int .u8 0), .lit (.int .u8 0)], .agg [.lit (.int .u8 0), .lit (.int .u8 0)], .agg [.lit (.int .u8 0), .lit (.int .u8 0)], .agg [.lit (.int .u8 0), .lit (.int .u8 0)]]
/-- One of Go's own tables, pinned by name: the form's constant. -/
def laid_unicode_utf8_first : DataW Unit := Go.Pinned.utf8First

/-- 'laws.FnLayerBent': WHATEVER THE INPUT: true; the input reads as it did. -/
def fnLayerBentSpec : ChangeSpec := { name := "fnLayerBent", fn := fun _ => fun
  | [d] => { results := [.lit (.bool true)], args := [d] }
  | _ => none }
def fnLayerBentRow : OpenClaim := { program := "ytobbodbkdcbflaadoor", sum := "6c3c9459b2b9e0d4716a0178203fd18d517a65ef5df8b80be9d49cd25447cdfa", func := "loop.example/pargeting/laws.FnLayerBent", spec := "fnLayerBent", inPlace := ["internal/bytealg.CountString", "internal/bytealg.IndexByteString", "internal/bytealg.IndexString", "internal/abi.NoEscape", "internal/bytealg.MakeNoZero"], recurses := true, named := ["unicode/utf8.first", "unicode/utf8.acceptRanges", "internal/bytealg.MaxLen"], apart := false, laid := [("unicode/utf8.acceptRanges", laid_unicode_utf8_acceptRanges), ("unicode/utf8.first", laid_unicode_utf8_first)] }
def FnLayerBentSaid : Prop := fnLayerBentRow.holds Tryd.pinned (OpenSpec.ofChange fnLayerBentSpec)

/-- ITS FALSE NEIGHBOUR: 'it returns false'. Refute it at one input. -/
def fnLayerBentWrong : ChangeSpec := { name := "fnLayerBent", fn := fun _ => fun
  | [d] => { results := [.lit (.bool false)], args := [d] }
  | _ => none }
def FnLayerBentWrongFalsely : Prop := fnLayerBentRow.holds Tryd.pinned (OpenSpec.ofChange fnLayerBentWrong)

/-- 'laws.FnLayerHides': WHATEVER THE INPUT: true; the input reads as it did. -/
def fnLayerHidesSpec : ChangeSpec := { name := "fnLayerHides", fn := fun _ => fun
  | [d1, d2] => { results := [.lit (.bool true)], args := [d1, d2] }
  | _ => none }
def fnLayerHidesRow : OpenClaim := { program := "ytobbodbkdcbflaadoor", sum := "6c3c9459b2b9e0d4716a0178203fd18d517a65ef5df8b80be9d49cd25447cdfa", func := "loop.example/pargeting/laws.FnLayerHides", spec := "fnLayerHides", inPlace := ["internal/bytealg.CountString", "internal/bytealg.IndexByteString", "internal/bytealg.IndexString", "internal/abi.NoEscape", "internal/bytealg.MakeNoZero"], recurses := true, named := ["unicode/utf8.first", "unicode/utf8.acceptRanges", "internal/bytealg.MaxLen"], apart := false, laid := [("unicode/utf8.acceptRanges", laid_unicode_utf8_acceptRanges), ("unicode/utf8.first", laid_unicode_utf8_first)] }
def FnLayerHidesSaid : Prop := fnLayerHidesRow.holds Tryd.pinned (OpenSpec.ofChange fnLayerHidesSpec)

/-- ITS FALSE NEIGHBOUR: 'it returns false'. Refute it at one input. -/
def fnLayerHidesWrong : ChangeSpec := { name := "fnLayerHides", fn := fun _ => fun
  | [d1, d2] => { results := [.lit (.bool false)], args := [d1, d2] }
  | _ => none }
def FnLayerHidesWrongFalsely : Prop := fnLayerHidesRow.holds Tryd.pinned (OpenSpec.ofChange fnLayerHidesWrong)

/-- 'laws.FnTreeGet': WHATEVER THE INPUT: true; the input reads as it did. -/
def fnTreeGetSpec : ChangeSpec := { name := "fnTreeGet", fn := fun _ => fun
  | [d] => { results := [.lit (.bool true)], args := [d] }
  | _ => none }
def fnTreeGetRow : OpenClaim := { program := "ytobbodbkdcbflaadoor", sum := "6c3c9459b2b9e0d4716a0178203fd18d517a65ef5df8b80be9d49cd25447cdfa", func := "loop.example/pargeting/laws.FnTreeGet", spec := "fnTreeGet", inPlace := ["internal/bytealg.CountString", "internal/bytealg.IndexByteString", "internal/bytealg.IndexString", "internal/abi.NoEscape", "internal/bytealg.MakeNoZero"], named := ["unicode/utf8.first", "unicode/utf8.acceptRanges", "internal/bytealg.MaxLen"], apart := false, laid := [("unicode/utf8.acceptRanges", laid_unicode_utf8_acceptRanges), ("unicode/utf8.first", laid_unicode_utf8_first)] }
def FnTreeGetSaid : Prop := fnTreeGetRow.holds Tryd.pinned (OpenSpec.ofChange fnTreeGetSpec)

/-- ITS FALSE NEIGHBOUR: 'it returns false'. Refute it at one input. -/
def fnTreeGetWrong : ChangeSpec := { name := "fnTreeGet", fn := fun _ => fun
  | [d] => { results := [.lit (.bool false)], args := [d] }
  | _ => none }
def FnTreeGetWrongFalsely : Prop := fnTreeGetRow.holds Tryd.pinned (OpenSpec.ofChange fnTreeGetWrong)

/-- 'laws.FnTreeBent': WHATEVER THE INPUT: true; the input reads as it did. -/
def fnTreeBentSpec : ChangeSpec := { name := "fnTreeBent", fn := fun _ => fun
  | [d] => { results := [.lit (.bool true)], args := [d] }
  | _ => none }
def fnTreeBentRow : OpenClaim := { program := "ytobbodbkdcbflaadoor", sum := "6c3c9459b2b9e0d4716a0178203fd18d517a65ef5df8b80be9d49cd25447cdfa", func := "loop.example/pargeting/laws.FnTreeBent", spec := "fnTreeBent", inPlace := ["internal/bytealg.CountString", "internal/bytealg.IndexByteString", "internal/bytealg.IndexString", "internal/abi.NoEscape", "internal/bytealg.MakeNoZero"], named := ["unicode/utf8.first", "unicode/utf8.acceptRanges", "internal/bytealg.MaxLen"], apart := false, laid := [("unicode/utf8.acceptRanges", laid_unicode_utf8_acceptRanges), ("unicode/utf8.first", laid_unicode_utf8_first)] }
def FnTreeBentSaid : Prop := fnTreeBentRow.holds Tryd.pinned (OpenSpec.ofChange fnTreeBentSpec)

/-- ITS FALSE NEIGHBOUR: 'it returns false'. Refute it at one input. -/
def fnTreeBentWrong : ChangeSpec := { name := "fnTreeBent", fn := fun _ => fun
  | [d] => { results := [.lit (.bool false)], args := [d] }
  | _ => none }
def FnTreeBentWrongFalsely : Prop := fnTreeBentRow.holds Tryd.pinned (OpenSpec.ofChange fnTreeBentWrong)

/-- 'laws.FnTreeUps': WHATEVER THE INPUT: true; the input reads as it did. -/
def fnTreeUpsSpec : ChangeSpec := { name := "fnTreeUps", fn := fun _ => fun
  | [d] => { results := [.lit (.bool true)], args := [d] }
  | _ => none }
def fnTreeUpsRow : OpenClaim := { program := "ytobbodbkdcbflaadoor", sum := "6c3c9459b2b9e0d4716a0178203fd18d517a65ef5df8b80be9d49cd25447cdfa", func := "loop.example/pargeting/laws.FnTreeUps", spec := "fnTreeUps", inPlace := ["internal/bytealg.CountString", "internal/bytealg.IndexByteString", "internal/bytealg.IndexString", "internal/abi.NoEscape", "internal/bytealg.MakeNoZero"], named := ["unicode/utf8.first", "unicode/utf8.acceptRanges", "internal/bytealg.MaxLen"], apart := false, laid := [("unicode/utf8.acceptRanges", laid_unicode_utf8_acceptRanges), ("unicode/utf8.first", laid_unicode_utf8_first)] }
def FnTreeUpsSaid : Prop := fnTreeUpsRow.holds Tryd.pinned (OpenSpec.ofChange fnTreeUpsSpec)

/-- ITS FALSE NEIGHBOUR: 'it returns false'. Refute it at one input. -/
def fnTreeUpsWrong : ChangeSpec := { name := "fnTreeUps", fn := fun _ => fun
  | [d] => { results := [.lit (.bool false)], args := [d] }
  | _ => none }
def FnTreeUpsWrongFalsely : Prop := fnTreeUpsRow.holds Tryd.pinned (OpenSpec.ofChange fnTreeUpsWrong)

/-- 'laws.FnTreeList': WHATEVER THE INPUT: true; the input reads as it did. -/
def fnTreeListSpec : ChangeSpec := { name := "fnTreeList", fn := fun _ => fun
  | [d] => { results := [.lit (.bool true)], args := [d] }
  | _ => none }
def fnTreeListRow : OpenClaim := { program := "ytobbodbkdcbflaadoor", sum := "6c3c9459b2b9e0d4716a0178203fd18d517a65ef5df8b80be9d49cd25447cdfa", func := "loop.example/pargeting/laws.FnTreeList", spec := "fnTreeList", inPlace := ["internal/bytealg.CountString", "internal/bytealg.IndexByteString", "internal/bytealg.IndexString", "internal/abi.NoEscape", "internal/bytealg.MakeNoZero"], named := ["unicode/utf8.first", "unicode/utf8.acceptRanges", "internal/bytealg.MaxLen"], apart := false, laid := [("unicode/utf8.acceptRanges", laid_unicode_utf8_acceptRanges), ("unicode/utf8.first", laid_unicode_utf8_first)] }
def FnTreeListSaid : Prop := fnTreeListRow.holds Tryd.pinned (OpenSpec.ofChange fnTreeListSpec)

/-- ITS FALSE NEIGHBOUR: 'it returns false'. Refute it at one input. -/
def fnTreeListWrong : ChangeSpec := { name := "fnTreeList", fn := fun _ => fun
  | [d] => { results := [.lit (.bool false)], args := [d] }
  | _ => none }
def FnTreeListWrongFalsely : Prop := fnTreeListRow.holds Tryd.pinned (OpenSpec.ofChange fnTreeListWrong)

/- THE SECOND FORM. 'bulk': how many values and letters a reading holds, each counted each time it is reached (what is shared counts as often as it is met; a slice's spare places count too). A statement '..UptoSaid' is the law's where the arguments, and the package variables that the reading takes, are together of bulk at most 1048576: NARROWER than '..Said'. Prove '..Said' where nothing that the law and all that it calls make is longer than what came in: it says more and counts as full. Else prove '..UptoSaid'. A law counts once. -/
mutual
def uptoBulk {H : Type} : DataW H → Nat
  | .lit (.string bytes) => bytes.length + 1
  | .lit _ => 1
  | .nil => 1
  | .ptr d => uptoBulk d + 1
  | .slice elems spare => uptoBulkAll elems + uptoBulkAll spare + 1
  | .agg parts => uptoBulkAll parts + 1
  | .iface _ d => uptoBulk d + 1
  | .map entries => uptoBulkEntries entries + 1
  | .held _ => 1
def uptoBulkAll {H : Type} : List (DataW H) → Nat
  | [] => 0
  | d :: r => uptoBulk d + uptoBulkAll r
def uptoBulkEntries {H : Type} : List (Lit × DataW H) → Nat
  | [] => 0
  | x :: r => uptoBulkEntry x + uptoBulkEntries r
def uptoBulkEntry {H : Type} : Lit × DataW H → Nat
  | (.string bytes, d) => bytes.length + uptoBulk d + 1
  | (_, d) => uptoBulk d + 1
 end
def uptoSmall : (H : Type) → List (DataW H) → Bool := fun _ ds => decide (uptoBulkAll ds ≤ 1048576)
def OpenSpec.upto (s : _root_.Go.ChangeSpec) : _root_.Go.OpenSpec := { _root_.Go.OpenSpec.ofChange s with cond := some uptoSmall }

/-- 'laws.FnLayerBent', WHERE WHAT IT READS IS OF BULK AT MOST 1048576: true; the input reads as it did. -/
def fnLayerBentUptoRow : OpenClaim := { program := "ytobbodbkdcbflaadoor", sum := "6c3c9459b2b9e0d4716a0178203fd18d517a65ef5df8b80be9d49cd25447cdfa", func := "loop.example/pargeting/laws.FnLayerBent", spec := "fnLayerBent", inPlace := ["internal/bytealg.CountString", "internal/bytealg.IndexByteString", "internal/bytealg.IndexString", "internal/abi.NoEscape", "internal/bytealg.MakeNoZero"], recurses := true, named := ["unicode/utf8.first", "unicode/utf8.acceptRanges", "internal/bytealg.MaxLen"], apart := false, laid := [("unicode/utf8.acceptRanges", laid_unicode_utf8_acceptRanges), ("unicode/utf8.first", laid_unicode_utf8_first)], narrowed := true }
def FnLayerBentUptoSaid : Prop := fnLayerBentUptoRow.holds Tryd.pinned (OpenSpec.upto fnLayerBentSpec)

/-- 'laws.FnLayerHides', WHERE WHAT IT READS IS OF BULK AT MOST 1048576: true; the input reads as it did. -/
def fnLayerHidesUptoRow : OpenClaim := { program := "ytobbodbkdcbflaadoor", sum := "6c3c9459b2b9e0d4716a0178203fd18d517a65ef5df8b80be9d49cd25447cdfa", func := "loop.example/pargeting/laws.FnLayerHides", spec := "fnLayerHides", inPlace := ["internal/bytealg.CountString", "internal/bytealg.IndexByteString", "internal/bytealg.IndexString", "internal/abi.NoEscape", "internal/bytealg.MakeNoZero"], recurses := true, named := ["unicode/utf8.first", "unicode/utf8.acceptRanges", "internal/bytealg.MaxLen"], apart := false, laid := [("unicode/utf8.acceptRanges", laid_unicode_utf8_acceptRanges), ("unicode/utf8.first", laid_unicode_utf8_first)], narrowed := true }
def FnLayerHidesUptoSaid : Prop := fnLayerHidesUptoRow.holds Tryd.pinned (OpenSpec.upto fnLayerHidesSpec)

/-- 'laws.FnTreeGet', WHERE WHAT IT READS IS OF BULK AT MOST 1048576: true; the input reads as it did. -/
def fnTreeGetUptoRow : OpenClaim := { program := "ytobbodbkdcbflaadoor", sum := "6c3c9459b2b9e0d4716a0178203fd18d517a65ef5df8b80be9d49cd25447cdfa", func := "loop.example/pargeting/laws.FnTreeGet", spec := "fnTreeGet", inPlace := ["internal/bytealg.CountString", "internal/bytealg.IndexByteString", "internal/bytealg.IndexString", "internal/abi.NoEscape", "internal/bytealg.MakeNoZero"], named := ["unicode/utf8.first", "unicode/utf8.acceptRanges", "internal/bytealg.MaxLen"], apart := false, laid := [("unicode/utf8.acceptRanges", laid_unicode_utf8_acceptRanges), ("unicode/utf8.first", laid_unicode_utf8_first)], narrowed := true }
def FnTreeGetUptoSaid : Prop := fnTreeGetUptoRow.holds Tryd.pinned (OpenSpec.upto fnTreeGetSpec)

/-- 'laws.FnTreeBent', WHERE WHAT IT READS IS OF BULK AT MOST 1048576: true; the input reads as it did. -/
def fnTreeBentUptoRow : OpenClaim := { program := "ytobbodbkdcbflaadoor", sum := "6c3c9459b2b9e0d4716a0178203fd18d517a65ef5df8b80be9d49cd25447cdfa", func := "loop.example/pargeting/laws.FnTreeBent", spec := "fnTreeBent", inPlace := ["internal/bytealg.CountString", "internal/bytealg.IndexByteString", "internal/bytealg.IndexString", "internal/abi.NoEscape", "internal/bytealg.MakeNoZero"], named := ["unicode/utf8.first", "unicode/utf8.acceptRanges", "internal/bytealg.MaxLen"], apart := false, laid := [("unicode/utf8.acceptRanges", laid_unicode_utf8_acceptRanges), ("unicode/utf8.first", laid_unicode_utf8_first)], narrowed := true }
def FnTreeBentUptoSaid : Prop := fnTreeBentUptoRow.holds Tryd.pinned (OpenSpec.upto fnTreeBentSpec)

/-- 'laws.FnTreeUps', WHERE WHAT IT READS IS OF BULK AT MOST 1048576: true; the input reads as it did. -/
def fnTreeUpsUptoRow : OpenClaim := { program := "ytobbodbkdcbflaadoor", sum := "6c3c9459b2b9e0d4716a0178203fd18d517a65ef5df8b80be9d49cd25447cdfa", func := "loop.example/pargeting/laws.FnTreeUps", spec := "fnTreeUps", inPlace := ["internal/bytealg.CountString", "internal/bytealg.IndexByteString", "internal/bytealg.IndexString", "internal/abi.NoEscape", "internal/bytealg.MakeNoZero"], named := ["unicode/utf8.first", "unicode/utf8.acceptRanges", "internal/bytealg.MaxLen"], apart := false, laid := [("unicode/utf8.acceptRanges", laid_unicode_utf8_acceptRanges), ("unicode/utf8.first", laid_unicode_utf8_first)], narrowed := true }
def FnTreeUpsUptoSaid : Prop := fnTreeUpsUptoRow.holds Tryd.pinned (OpenSpec.upto fnTreeUpsSpec)

/-- 'laws.FnTreeList', WHERE WHAT IT READS IS OF BULK AT MOST 1048576: true; the input reads as it did. -/
def fnTreeListUptoRow : OpenClaim := { program := "ytobbodbkdcbflaadoor", sum := "6c3c9459b2b9e0d4716a0178203fd18d517a65ef5df8b80be9d49cd25447cdfa", func := "loop.example/pargeting/laws.FnTreeList", spec := "fnTreeList", inPlace := ["internal/bytealg.CountString", "internal/bytealg.IndexByteString", "internal/bytealg.IndexString", "internal/abi.NoEscape", "internal/bytealg.MakeNoZero"], named := ["unicode/utf8.first", "unicode/utf8.acceptRanges", "internal/bytealg.MaxLen"], apart := false, laid := [("unicode/utf8.acceptRanges", laid_unicode_utf8_acceptRanges), ("unicode/utf8.first", laid_unicode_utf8_first)], narrowed := true }
def FnTreeListUptoSaid : Prop := fnTreeListUptoRow.holds Tryd.pinned (OpenSpec.upto fnTreeListSpec)

end Rows
end Go.Proofs.YtobbodbkdcbflaaDoor
