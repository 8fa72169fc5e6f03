/-
  DERIVED. GIVEN WITH THE SEED: THE CARDS: each row of YtkhbkhibjflgmaaDoorRows.lean that lists a variable, with what it lists TIED to the program's text (the seventh form; the later family's looks); each row that meets fmt, with fmt's text TOLD by the authors' own Lean function (tested against real Go, not proved from fmt's source: count such statements apart). THE CARD IS WHAT COUNTS. Prove the row's statement (the work); the ties are given (YtkhbkhibjflgmaaDoorTie.lean); close each card by the builder's one call (the guide's Derived/Test/ToyasCard.lean, 'card_holds'). Laid BY PROGRAM, IN A SANDBOX (cutbox-door.mjs). By AI agents, Wed Nov 11 2026. No macro, syntax, notation, axiom, sorry.
-/
import Derived.Test.YtkhbkhibjflgmaaDoorRows
import GoSem.ClaimSeven
namespace Go.Proofs.YtkhbkhibjflgmaaDoor
namespace Rows

/-- THE TIED CARD OF 'laws.FnExactTreeOk'. -/
def fnExactTreeOkCard : Claim7 := { stood := { row := fnExactTreeOkRow, standIns := [], harness := (true, "d79b34226162f627d9273a1477289d44e93318b819729b82df5772ef2d762750"), looks := false }, kinds := [], alts := [], laidByText := true, laidKinds := [.data, .pinned], laidTests := true, laidLooks := .later }
def FnExactTreeOkCardSaid : Prop := Claim7.holds Tryd.pinned (.plain (OpenSpec.ofChange fnExactTreeOkSpec)) fnExactTreeOkCard

/-- THE TIED CARD OF 'laws.FnExactTreeGet'. -/
def fnExactTreeGetCard : Claim7 := { stood := { row := fnExactTreeGetRow, standIns := [], harness := (true, "d79b34226162f627d9273a1477289d44e93318b819729b82df5772ef2d762750"), looks := false }, kinds := [], alts := [], laidByText := true, laidKinds := [.data, .pinned], laidTests := true, laidLooks := .later }
def FnExactTreeGetCardSaid : Prop := Claim7.holds Tryd.pinned (.plain (OpenSpec.ofChange fnExactTreeGetSpec)) fnExactTreeGetCard

/-- THE TIED CARD OF 'laws.FnExactLayerOk'. -/
def fnExactLayerOkCard : Claim7 := { stood := { row := fnExactLayerOkRow, standIns := [], harness := (true, "d79b34226162f627d9273a1477289d44e93318b819729b82df5772ef2d762750"), looks := false }, kinds := [], alts := [], laidByText := true, laidKinds := [.data, .pinned], laidTests := true, laidLooks := .later }
def FnExactLayerOkCardSaid : Prop := Claim7.holds Tryd.pinned (.plain (OpenSpec.ofChange fnExactLayerOkSpec)) fnExactLayerOkCard

/-- THE TIED CARD OF 'laws.FnExactLayerHides'. -/
def fnExactLayerHidesCard : Claim7 := { stood := { row := fnExactLayerHidesRow, standIns := [], harness := (true, "d79b34226162f627d9273a1477289d44e93318b819729b82df5772ef2d762750"), looks := false }, kinds := [], alts := [], laidByText := true, laidKinds := [.data, .pinned], laidTests := true, laidLooks := .later }
def FnExactLayerHidesCardSaid : Prop := Claim7.holds Tryd.pinned (.plain (OpenSpec.ofChange fnExactLayerHidesSpec)) fnExactLayerHidesCard

/-- THE TIED CARD OF 'laws.FnLayerBent'. -/
def fnLayerBentCard : Claim7 := { stood := { row := fnLayerBentRow, standIns := [], harness := (true, "d79b34226162f627d9273a1477289d44e93318b819729b82df5772ef2d762750"), looks := false }, kinds := [], alts := [], laidByText := true, laidKinds := [.data, .pinned], laidTests := true, laidLooks := .later }
def FnLayerBentCardSaid : Prop := Claim7.holds Tryd.pinned (.plain (OpenSpec.ofChange fnLayerBentSpec)) fnLayerBentCard

/-- THE TIED CARD OF 'laws.FnLayerHides'. -/
def fnLayerHidesCard : Claim7 := { stood := { row := fnLayerHidesRow, standIns := [], harness := (true, "d79b34226162f627d9273a1477289d44e93318b819729b82df5772ef2d762750"), looks := false }, kinds := [], alts := [], laidByText := true, laidKinds := [.data, .pinned], laidTests := true, laidLooks := .later }
def FnLayerHidesCardSaid : Prop := Claim7.holds Tryd.pinned (.plain (OpenSpec.ofChange fnLayerHidesSpec)) fnLayerHidesCard

/-- THE TIED CARD OF 'laws.FnExactTreeTurned'. -/
def fnExactTreeTurnedCard : Claim7 := { stood := { row := fnExactTreeTurnedRow, standIns := [], harness := (true, "d79b34226162f627d9273a1477289d44e93318b819729b82df5772ef2d762750"), looks := false }, kinds := [], alts := [], laidByText := true, laidKinds := [.data, .pinned], laidTests := true, laidLooks := .later }
def FnExactTreeTurnedCardSaid : Prop := Claim7.holds Tryd.pinned (.plain (OpenSpec.ofChange fnExactTreeTurnedSpec)) fnExactTreeTurnedCard

/-- THE TIED CARD OF 'laws.FnExactTreeList'. -/
def fnExactTreeListCard : Claim7 := { stood := { row := fnExactTreeListRow, standIns := [], harness := (true, "d79b34226162f627d9273a1477289d44e93318b819729b82df5772ef2d762750"), looks := false }, kinds := [], alts := [], laidByText := true, laidKinds := [.data, .pinned], laidTests := true, laidLooks := .later }
def FnExactTreeListCardSaid : Prop := Claim7.holds Tryd.pinned (.plain (OpenSpec.ofChange fnExactTreeListSpec)) fnExactTreeListCard

/-- THE TIED CARD OF 'laws.FnTreeGet'. -/
def fnTreeGetCard : Claim7 := { stood := { row := fnTreeGetRow, standIns := [], harness := (true, "d79b34226162f627d9273a1477289d44e93318b819729b82df5772ef2d762750"), looks := false }, kinds := [], alts := [], laidByText := true, laidKinds := [.data, .pinned], laidTests := true, laidLooks := .later }
def FnTreeGetCardSaid : Prop := Claim7.holds Tryd.pinned (.plain (OpenSpec.ofChange fnTreeGetSpec)) fnTreeGetCard

/-- THE TIED CARD OF 'laws.FnTreeBent'. -/
def fnTreeBentCard : Claim7 := { stood := { row := fnTreeBentRow, standIns := [], harness := (true, "d79b34226162f627d9273a1477289d44e93318b819729b82df5772ef2d762750"), looks := false }, kinds := [], alts := [], laidByText := true, laidKinds := [.data, .pinned], laidTests := true, laidLooks := .later }
def FnTreeBentCardSaid : Prop := Claim7.holds Tryd.pinned (.plain (OpenSpec.ofChange fnTreeBentSpec)) fnTreeBentCard

/-- THE TIED CARD OF 'laws.FnTreeUps'. -/
def fnTreeUpsCard : Claim7 := { stood := { row := fnTreeUpsRow, standIns := [], harness := (true, "d79b34226162f627d9273a1477289d44e93318b819729b82df5772ef2d762750"), looks := false }, kinds := [], alts := [], laidByText := true, laidKinds := [.data, .pinned], laidTests := true, laidLooks := .later }
def FnTreeUpsCardSaid : Prop := Claim7.holds Tryd.pinned (.plain (OpenSpec.ofChange fnTreeUpsSpec)) fnTreeUpsCard

/-- THE TIED CARD OF 'laws.FnTreeList'. -/
def fnTreeListCard : Claim7 := { stood := { row := fnTreeListRow, standIns := [], harness := (true, "d79b34226162f627d9273a1477289d44e93318b819729b82df5772ef2d762750"), looks := false }, kinds := [], alts := [], laidByText := true, laidKinds := [.data, .pinned], laidTests := true, laidLooks := .later }
def FnTreeListCardSaid : Prop := Claim7.holds Tryd.pinned (.plain (OpenSpec.ofChange fnTreeListSpec)) fnTreeListCard

/-- THE TIED CARD OF 'laws.FnTreeDiffer'. -/
def fnTreeDifferCard : Claim7 := { stood := { row := fnTreeDifferRow, standIns := [], harness := (true, "d79b34226162f627d9273a1477289d44e93318b819729b82df5772ef2d762750"), looks := false }, kinds := [], alts := [], laidByText := true, laidKinds := [.data, .pinned], laidTests := true, laidLooks := .later }
def FnTreeDifferCardSaid : Prop := Claim7.holds Tryd.pinned (.plain (OpenSpec.ofChange fnTreeDifferSpec)) fnTreeDifferCard

/-- THE TIED CARD OF 'laws.FnLayerNone'. -/
def fnLayerNoneCard : Claim7 := { stood := { row := fnLayerNoneRow, standIns := [], harness := (true, "d79b34226162f627d9273a1477289d44e93318b819729b82df5772ef2d762750"), looks := false }, kinds := [], alts := [], laidByText := true, laidKinds := [.data, .pinned], laidTests := true, laidLooks := .later }
def FnLayerNoneCardSaid : Prop := Claim7.holds Tryd.pinned (.plain (OpenSpec.ofChange fnLayerNoneSpec)) fnLayerNoneCard

/-- THE TIED CARD OF 'laws.FnExactLayerJoin'. -/
def fnExactLayerJoinCard : Claim7 := { stood := { row := fnExactLayerJoinRow, standIns := [], harness := (true, "d79b34226162f627d9273a1477289d44e93318b819729b82df5772ef2d762750"), looks := false }, kinds := [], alts := [], laidByText := true, laidKinds := [.data, .pinned], laidTests := true, laidLooks := .later }
def FnExactLayerJoinCardSaid : Prop := Claim7.holds Tryd.pinned (.plain (OpenSpec.ofChange fnExactLayerJoinSpec)) fnExactLayerJoinCard

/-- THE TIED CARD OF 'laws.FnExactLayerDiff'. -/
def fnExactLayerDiffCard : Claim7 := { stood := { row := fnExactLayerDiffRow, standIns := [], harness := (true, "d79b34226162f627d9273a1477289d44e93318b819729b82df5772ef2d762750"), looks := false }, kinds := [], alts := [], laidByText := true, laidKinds := [.data, .pinned], laidTests := true, laidLooks := .later }
def FnExactLayerDiffCardSaid : Prop := Claim7.holds Tryd.pinned (.plain (OpenSpec.ofChange fnExactLayerDiffSpec)) fnExactLayerDiffCard

/-- THE SECOND FORM's CARD OF 'laws.FnExactTreeOk'. -/
def fnExactTreeOkUptoCard : Claim7 := { stood := { row := fnExactTreeOkUptoRow, standIns := [], harness := (true, "d79b34226162f627d9273a1477289d44e93318b819729b82df5772ef2d762750"), looks := false }, kinds := [], alts := [], laidByText := true, laidKinds := [.data, .pinned], laidTests := true, laidLooks := .later }
def FnExactTreeOkUptoCardSaid : Prop := Claim7.holds Tryd.pinned (.plain (OpenSpec.upto fnExactTreeOkSpec)) fnExactTreeOkUptoCard

/-- THE SECOND FORM's CARD OF 'laws.FnExactTreeGet'. -/
def fnExactTreeGetUptoCard : Claim7 := { stood := { row := fnExactTreeGetUptoRow, standIns := [], harness := (true, "d79b34226162f627d9273a1477289d44e93318b819729b82df5772ef2d762750"), looks := false }, kinds := [], alts := [], laidByText := true, laidKinds := [.data, .pinned], laidTests := true, laidLooks := .later }
def FnExactTreeGetUptoCardSaid : Prop := Claim7.holds Tryd.pinned (.plain (OpenSpec.upto fnExactTreeGetSpec)) fnExactTreeGetUptoCard

/-- THE SECOND FORM's CARD OF 'laws.FnExactLayerOk'. -/
def fnExactLayerOkUptoCard : Claim7 := { stood := { row := fnExactLayerOkUptoRow, standIns := [], harness := (true, "d79b34226162f627d9273a1477289d44e93318b819729b82df5772ef2d762750"), looks := false }, kinds := [], alts := [], laidByText := true, laidKinds := [.data, .pinned], laidTests := true, laidLooks := .later }
def FnExactLayerOkUptoCardSaid : Prop := Claim7.holds Tryd.pinned (.plain (OpenSpec.upto fnExactLayerOkSpec)) fnExactLayerOkUptoCard

/-- THE SECOND FORM's CARD OF 'laws.FnExactLayerHides'. -/
def fnExactLayerHidesUptoCard : Claim7 := { stood := { row := fnExactLayerHidesUptoRow, standIns := [], harness := (true, "d79b34226162f627d9273a1477289d44e93318b819729b82df5772ef2d762750"), looks := false }, kinds := [], alts := [], laidByText := true, laidKinds := [.data, .pinned], laidTests := true, laidLooks := .later }
def FnExactLayerHidesUptoCardSaid : Prop := Claim7.holds Tryd.pinned (.plain (OpenSpec.upto fnExactLayerHidesSpec)) fnExactLayerHidesUptoCard

/-- THE SECOND FORM's CARD OF 'laws.FnLayerBent'. -/
def fnLayerBentUptoCard : Claim7 := { stood := { row := fnLayerBentUptoRow, standIns := [], harness := (true, "d79b34226162f627d9273a1477289d44e93318b819729b82df5772ef2d762750"), looks := false }, kinds := [], alts := [], laidByText := true, laidKinds := [.data, .pinned], laidTests := true, laidLooks := .later }
def FnLayerBentUptoCardSaid : Prop := Claim7.holds Tryd.pinned (.plain (OpenSpec.upto fnLayerBentSpec)) fnLayerBentUptoCard

/-- THE SECOND FORM's CARD OF 'laws.FnLayerHides'. -/
def fnLayerHidesUptoCard : Claim7 := { stood := { row := fnLayerHidesUptoRow, standIns := [], harness := (true, "d79b34226162f627d9273a1477289d44e93318b819729b82df5772ef2d762750"), looks := false }, kinds := [], alts := [], laidByText := true, laidKinds := [.data, .pinned], laidTests := true, laidLooks := .later }
def FnLayerHidesUptoCardSaid : Prop := Claim7.holds Tryd.pinned (.plain (OpenSpec.upto fnLayerHidesSpec)) fnLayerHidesUptoCard

/-- THE SECOND FORM's CARD OF 'laws.FnExactTreeTurned'. -/
def fnExactTreeTurnedUptoCard : Claim7 := { stood := { row := fnExactTreeTurnedUptoRow, standIns := [], harness := (true, "d79b34226162f627d9273a1477289d44e93318b819729b82df5772ef2d762750"), looks := false }, kinds := [], alts := [], laidByText := true, laidKinds := [.data, .pinned], laidTests := true, laidLooks := .later }
def FnExactTreeTurnedUptoCardSaid : Prop := Claim7.holds Tryd.pinned (.plain (OpenSpec.upto fnExactTreeTurnedSpec)) fnExactTreeTurnedUptoCard

/-- THE SECOND FORM's CARD OF 'laws.FnExactTreeList'. -/
def fnExactTreeListUptoCard : Claim7 := { stood := { row := fnExactTreeListUptoRow, standIns := [], harness := (true, "d79b34226162f627d9273a1477289d44e93318b819729b82df5772ef2d762750"), looks := false }, kinds := [], alts := [], laidByText := true, laidKinds := [.data, .pinned], laidTests := true, laidLooks := .later }
def FnExactTreeListUptoCardSaid : Prop := Claim7.holds Tryd.pinned (.plain (OpenSpec.upto fnExactTreeListSpec)) fnExactTreeListUptoCard

/-- THE SECOND FORM's CARD OF 'laws.FnTreeGet'. -/
def fnTreeGetUptoCard : Claim7 := { stood := { row := fnTreeGetUptoRow, standIns := [], harness := (true, "d79b34226162f627d9273a1477289d44e93318b819729b82df5772ef2d762750"), looks := false }, kinds := [], alts := [], laidByText := true, laidKinds := [.data, .pinned], laidTests := true, laidLooks := .later }
def FnTreeGetUptoCardSaid : Prop := Claim7.holds Tryd.pinned (.plain (OpenSpec.upto fnTreeGetSpec)) fnTreeGetUptoCard

/-- THE SECOND FORM's CARD OF 'laws.FnTreeBent'. -/
def fnTreeBentUptoCard : Claim7 := { stood := { row := fnTreeBentUptoRow, standIns := [], harness := (true, "d79b34226162f627d9273a1477289d44e93318b819729b82df5772ef2d762750"), looks := false }, kinds := [], alts := [], laidByText := true, laidKinds := [.data, .pinned], laidTests := true, laidLooks := .later }
def FnTreeBentUptoCardSaid : Prop := Claim7.holds Tryd.pinned (.plain (OpenSpec.upto fnTreeBentSpec)) fnTreeBentUptoCard

/-- THE SECOND FORM's CARD OF 'laws.FnTreeUps'. -/
def fnTreeUpsUptoCard : Claim7 := { stood := { row := fnTreeUpsUptoRow, standIns := [], harness := (true, "d79b34226162f627d9273a1477289d44e93318b819729b82df5772ef2d762750"), looks := false }, kinds := [], alts := [], laidByText := true, laidKinds := [.data, .pinned], laidTests := true, laidLooks := .later }
def FnTreeUpsUptoCardSaid : Prop := Claim7.holds Tryd.pinned (.plain (OpenSpec.upto fnTreeUpsSpec)) fnTreeUpsUptoCard

/-- THE SECOND FORM's CARD OF 'laws.FnTreeList'. -/
def fnTreeListUptoCard : Claim7 := { stood := { row := fnTreeListUptoRow, standIns := [], harness := (true, "d79b34226162f627d9273a1477289d44e93318b819729b82df5772ef2d762750"), looks := false }, kinds := [], alts := [], laidByText := true, laidKinds := [.data, .pinned], laidTests := true, laidLooks := .later }
def FnTreeListUptoCardSaid : Prop := Claim7.holds Tryd.pinned (.plain (OpenSpec.upto fnTreeListSpec)) fnTreeListUptoCard

/-- THE SECOND FORM's CARD OF 'laws.FnTreeDiffer'. -/
def fnTreeDifferUptoCard : Claim7 := { stood := { row := fnTreeDifferUptoRow, standIns := [], harness := (true, "d79b34226162f627d9273a1477289d44e93318b819729b82df5772ef2d762750"), looks := false }, kinds := [], alts := [], laidByText := true, laidKinds := [.data, .pinned], laidTests := true, laidLooks := .later }
def FnTreeDifferUptoCardSaid : Prop := Claim7.holds Tryd.pinned (.plain (OpenSpec.upto fnTreeDifferSpec)) fnTreeDifferUptoCard

/-- THE SECOND FORM's CARD OF 'laws.FnLayerNone'. -/
def fnLayerNoneUptoCard : Claim7 := { stood := { row := fnLayerNoneUptoRow, standIns := [], harness := (true, "d79b34226162f627d9273a1477289d44e93318b819729b82df5772ef2d762750"), looks := false }, kinds := [], alts := [], laidByText := true, laidKinds := [.data, .pinned], laidTests := true, laidLooks := .later }
def FnLayerNoneUptoCardSaid : Prop := Claim7.holds Tryd.pinned (.plain (OpenSpec.upto fnLayerNoneSpec)) fnLayerNoneUptoCard

/-- THE SECOND FORM's CARD OF 'laws.FnExactLayerJoin'. -/
def fnExactLayerJoinUptoCard : Claim7 := { stood := { row := fnExactLayerJoinUptoRow, standIns := [], harness := (true, "d79b34226162f627d9273a1477289d44e93318b819729b82df5772ef2d762750"), looks := false }, kinds := [], alts := [], laidByText := true, laidKinds := [.data, .pinned], laidTests := true, laidLooks := .later }
def FnExactLayerJoinUptoCardSaid : Prop := Claim7.holds Tryd.pinned (.plain (OpenSpec.upto fnExactLayerJoinSpec)) fnExactLayerJoinUptoCard

/-- THE SECOND FORM's CARD OF 'laws.FnExactLayerDiff'. -/
def fnExactLayerDiffUptoCard : Claim7 := { stood := { row := fnExactLayerDiffUptoRow, standIns := [], harness := (true, "d79b34226162f627d9273a1477289d44e93318b819729b82df5772ef2d762750"), looks := false }, kinds := [], alts := [], laidByText := true, laidKinds := [.data, .pinned], laidTests := true, laidLooks := .later }
def FnExactLayerDiffUptoCardSaid : Prop := Claim7.holds Tryd.pinned (.plain (OpenSpec.upto fnExactLayerDiffSpec)) fnExactLayerDiffUptoCard
end Rows
end Go.Proofs.YtkhbkhibjflgmaaDoor
