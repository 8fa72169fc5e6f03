/-
  DERIVED. GIVEN WITH THE SEED: THE CARDS: each row of YtacmebjlbghloaaDoorRows.lean that lists a variable, with what it lists TIED to the program's text (the seventh form; the later family's looks); each row that meets fmt, with fmt's text TOLD by the authors' own Lean function (tested against real Go, not proved from fmt's source: count such statements apart). THE CARD IS WHAT COUNTS. Prove the row's statement (the work); the ties are given (YtacmebjlbghloaaDoorTie.lean); close each card by the builder's one call (the guide's Derived/Test/ToyasCard.lean, 'card_holds'). Laid BY PROGRAM, IN A SANDBOX (cutbox-door.mjs). By AI agents, Wed Nov 11 2026. No macro, syntax, notation, axiom, sorry.
-/
import Derived.Test.YtacmebjlbghloaaDoorRows
import GoSem.ClaimSeven
namespace Go.Proofs.YtacmebjlbghloaaDoor
namespace Rows

/-- THE TIED CARD OF 'laws.FnExactPathOk'. -/
def fnExactPathOkCard : Claim7 := { stood := { row := fnExactPathOkRow, standIns := [], harness := (true, "a4a8a752cecf5c9e9b22fa73f07c4db124e2c8967dbf6bb529f14b6c700b4982"), looks := false }, kinds := [], alts := [], laidByText := true, laidKinds := [.data, .pinned], laidTests := true, laidLooks := .later }
def FnExactPathOkCardSaid : Prop := Claim7.holds Tryd.pinned (.plain (OpenSpec.ofChange fnExactPathOkSpec)) fnExactPathOkCard

/-- THE TIED CARD OF 'laws.FnExactPathLevels'. -/
def fnExactPathLevelsCard : Claim7 := { stood := { row := fnExactPathLevelsRow, standIns := [], harness := (true, "a4a8a752cecf5c9e9b22fa73f07c4db124e2c8967dbf6bb529f14b6c700b4982"), looks := false }, kinds := [], alts := [], laidByText := true, laidKinds := [.data, .pinned], laidTests := true, laidLooks := .later }
def FnExactPathLevelsCardSaid : Prop := Claim7.holds Tryd.pinned (.plain (OpenSpec.ofChange fnExactPathLevelsSpec)) fnExactPathLevelsCard

/-- THE TIED CARD OF 'laws.FnExactPathName'. -/
def fnExactPathNameCard : Claim7 := { stood := { row := fnExactPathNameRow, standIns := [], harness := (true, "a4a8a752cecf5c9e9b22fa73f07c4db124e2c8967dbf6bb529f14b6c700b4982"), looks := false }, kinds := [], alts := [], laidByText := true, laidKinds := [.data, .pinned], laidTests := true, laidLooks := .later }
def FnExactPathNameCardSaid : Prop := Claim7.holds Tryd.pinned (.plain (OpenSpec.ofChange fnExactPathNameSpec)) fnExactPathNameCard

/-- THE TIED CARD OF 'laws.FnExactPathUnder'. -/
def fnExactPathUnderCard : Claim7 := { stood := { row := fnExactPathUnderRow, standIns := [], harness := (true, "a4a8a752cecf5c9e9b22fa73f07c4db124e2c8967dbf6bb529f14b6c700b4982"), looks := false }, kinds := [], alts := [], laidByText := true, laidKinds := [.data, .pinned], laidTests := true, laidLooks := .later }
def FnExactPathUnderCardSaid : Prop := Claim7.holds Tryd.pinned (.plain (OpenSpec.ofChange fnExactPathUnderSpec)) fnExactPathUnderCard

/-- THE TIED CARD OF 'laws.FnExactPathJoin'. -/
def fnExactPathJoinCard : Claim7 := { stood := { row := fnExactPathJoinRow, standIns := [], harness := (true, "a4a8a752cecf5c9e9b22fa73f07c4db124e2c8967dbf6bb529f14b6c700b4982"), looks := false }, kinds := [], alts := [], laidByText := true, laidKinds := [.data, .pinned], laidTests := true, laidLooks := .later }
def FnExactPathJoinCardSaid : Prop := Claim7.holds Tryd.pinned (.plain (OpenSpec.ofChange fnExactPathJoinSpec)) fnExactPathJoinCard

/-- THE TIED CARD OF 'laws.FnExactPathMove'. -/
def fnExactPathMoveCard : Claim7 := { stood := { row := fnExactPathMoveRow, standIns := [], harness := (true, "a4a8a752cecf5c9e9b22fa73f07c4db124e2c8967dbf6bb529f14b6c700b4982"), looks := false }, kinds := [], alts := [], laidByText := true, laidKinds := [.data, .pinned], laidTests := true, laidLooks := .later }
def FnExactPathMoveCardSaid : Prop := Claim7.holds Tryd.pinned (.plain (OpenSpec.ofChange fnExactPathMoveSpec)) fnExactPathMoveCard

/-- THE TIED CARD OF 'laws.FnExactOpOk'. -/
def fnExactOpOkCard : Claim7 := { stood := { row := fnExactOpOkRow, standIns := [], harness := (true, "a4a8a752cecf5c9e9b22fa73f07c4db124e2c8967dbf6bb529f14b6c700b4982"), looks := false }, kinds := [], alts := [], laidByText := true, laidKinds := [.data, .pinned], laidTests := true, laidLooks := .later }
def FnExactOpOkCardSaid : Prop := Claim7.holds Tryd.pinned (.plain (OpenSpec.ofChange fnExactOpOkSpec)) fnExactOpOkCard

/-- THE TIED CARD OF 'laws.FnPathOrder'. -/
def fnPathOrderCard : Claim7 := { stood := { row := fnPathOrderRow, standIns := [], harness := (true, "a4a8a752cecf5c9e9b22fa73f07c4db124e2c8967dbf6bb529f14b6c700b4982"), looks := false }, kinds := [], alts := [], laidByText := true, laidKinds := [.data, .pinned], laidTests := true, laidLooks := .later }
def FnPathOrderCardSaid : Prop := Claim7.holds Tryd.pinned (.plain (OpenSpec.ofChange fnPathOrderSpec)) fnPathOrderCard

/-- THE TIED CARD OF 'laws.FnExactPathUp'. -/
def fnExactPathUpCard : Claim7 := { stood := { row := fnExactPathUpRow, standIns := [], harness := (true, "a4a8a752cecf5c9e9b22fa73f07c4db124e2c8967dbf6bb529f14b6c700b4982"), looks := false }, kinds := [], alts := [], laidByText := true, laidKinds := [.data, .pinned], laidTests := true, laidLooks := .later }
def FnExactPathUpCardSaid : Prop := Claim7.holds Tryd.pinned (.plain (OpenSpec.ofChange fnExactPathUpSpec)) fnExactPathUpCard

/-- THE TIED CARD OF 'laws.FnPathVia'. -/
def fnPathViaCard : Claim7 := { stood := { row := fnPathViaRow, standIns := [], harness := (true, "a4a8a752cecf5c9e9b22fa73f07c4db124e2c8967dbf6bb529f14b6c700b4982"), looks := false }, kinds := [], alts := [], laidByText := true, laidKinds := [.data, .pinned], laidTests := true, laidLooks := .later }
def FnPathViaCardSaid : Prop := Claim7.holds Tryd.pinned (.plain (OpenSpec.ofChange fnPathViaSpec)) fnPathViaCard

/-- THE TIED CARD OF 'laws.FnPathMove'. -/
def fnPathMoveCard : Claim7 := { stood := { row := fnPathMoveRow, standIns := [], harness := (true, "a4a8a752cecf5c9e9b22fa73f07c4db124e2c8967dbf6bb529f14b6c700b4982"), looks := false }, kinds := [], alts := [], laidByText := true, laidKinds := [.data, .pinned], laidTests := true, laidLooks := .later }
def FnPathMoveCardSaid : Prop := Claim7.holds Tryd.pinned (.plain (OpenSpec.ofChange fnPathMoveSpec)) fnPathMoveCard

/-- THE TIED CARD OF 'laws.FnPathUp'. -/
def fnPathUpCard : Claim7 := { stood := { row := fnPathUpRow, standIns := [], harness := (true, "a4a8a752cecf5c9e9b22fa73f07c4db124e2c8967dbf6bb529f14b6c700b4982"), looks := false }, kinds := [], alts := [], laidByText := true, laidKinds := [.data, .pinned], laidTests := true, laidLooks := .later }
def FnPathUpCardSaid : Prop := Claim7.holds Tryd.pinned (.plain (OpenSpec.ofChange fnPathUpSpec)) fnPathUpCard

/-- THE TIED CARD OF 'laws.FnPathJoin'. -/
def fnPathJoinCard : Claim7 := { stood := { row := fnPathJoinRow, standIns := [], harness := (true, "a4a8a752cecf5c9e9b22fa73f07c4db124e2c8967dbf6bb529f14b6c700b4982"), looks := false }, kinds := [], alts := [], laidByText := true, laidKinds := [.data, .pinned], laidTests := true, laidLooks := .later }
def FnPathJoinCardSaid : Prop := Claim7.holds Tryd.pinned (.plain (OpenSpec.ofChange fnPathJoinSpec)) fnPathJoinCard

/-- THE TIED CARD OF 'laws.FnPathUnder'. -/
def fnPathUnderCard : Claim7 := { stood := { row := fnPathUnderRow, standIns := [], harness := (true, "a4a8a752cecf5c9e9b22fa73f07c4db124e2c8967dbf6bb529f14b6c700b4982"), looks := false }, kinds := [], alts := [], laidByText := true, laidKinds := [.data, .pinned], laidTests := true, laidLooks := .later }
def FnPathUnderCardSaid : Prop := Claim7.holds Tryd.pinned (.plain (OpenSpec.ofChange fnPathUnderSpec)) fnPathUnderCard

/-- THE TIED CARD OF 'laws.FnPath'. -/
def fnPathCard : Claim7 := { stood := { row := fnPathRow, standIns := [], harness := (true, "a4a8a752cecf5c9e9b22fa73f07c4db124e2c8967dbf6bb529f14b6c700b4982"), looks := false }, kinds := [], alts := [], laidByText := true, laidKinds := [.data, .pinned], laidTests := true, laidLooks := .later }
def FnPathCardSaid : Prop := Claim7.holds Tryd.pinned (.plain (OpenSpec.ofChange fnPathSpec)) fnPathCard

/-- THE SECOND FORM's CARD OF 'laws.FnExactPathOk'. -/
def fnExactPathOkUptoCard : Claim7 := { stood := { row := fnExactPathOkUptoRow, standIns := [], harness := (true, "a4a8a752cecf5c9e9b22fa73f07c4db124e2c8967dbf6bb529f14b6c700b4982"), looks := false }, kinds := [], alts := [], laidByText := true, laidKinds := [.data, .pinned], laidTests := true, laidLooks := .later }
def FnExactPathOkUptoCardSaid : Prop := Claim7.holds Tryd.pinned (.plain (OpenSpec.upto fnExactPathOkSpec)) fnExactPathOkUptoCard

/-- THE SECOND FORM's CARD OF 'laws.FnExactPathLevels'. -/
def fnExactPathLevelsUptoCard : Claim7 := { stood := { row := fnExactPathLevelsUptoRow, standIns := [], harness := (true, "a4a8a752cecf5c9e9b22fa73f07c4db124e2c8967dbf6bb529f14b6c700b4982"), looks := false }, kinds := [], alts := [], laidByText := true, laidKinds := [.data, .pinned], laidTests := true, laidLooks := .later }
def FnExactPathLevelsUptoCardSaid : Prop := Claim7.holds Tryd.pinned (.plain (OpenSpec.upto fnExactPathLevelsSpec)) fnExactPathLevelsUptoCard

/-- THE SECOND FORM's CARD OF 'laws.FnExactPathName'. -/
def fnExactPathNameUptoCard : Claim7 := { stood := { row := fnExactPathNameUptoRow, standIns := [], harness := (true, "a4a8a752cecf5c9e9b22fa73f07c4db124e2c8967dbf6bb529f14b6c700b4982"), looks := false }, kinds := [], alts := [], laidByText := true, laidKinds := [.data, .pinned], laidTests := true, laidLooks := .later }
def FnExactPathNameUptoCardSaid : Prop := Claim7.holds Tryd.pinned (.plain (OpenSpec.upto fnExactPathNameSpec)) fnExactPathNameUptoCard

/-- THE SECOND FORM's CARD OF 'laws.FnExactPathUnder'. -/
def fnExactPathUnderUptoCard : Claim7 := { stood := { row := fnExactPathUnderUptoRow, standIns := [], harness := (true, "a4a8a752cecf5c9e9b22fa73f07c4db124e2c8967dbf6bb529f14b6c700b4982"), looks := false }, kinds := [], alts := [], laidByText := true, laidKinds := [.data, .pinned], laidTests := true, laidLooks := .later }
def FnExactPathUnderUptoCardSaid : Prop := Claim7.holds Tryd.pinned (.plain (OpenSpec.upto fnExactPathUnderSpec)) fnExactPathUnderUptoCard

/-- THE SECOND FORM's CARD OF 'laws.FnExactPathJoin'. -/
def fnExactPathJoinUptoCard : Claim7 := { stood := { row := fnExactPathJoinUptoRow, standIns := [], harness := (true, "a4a8a752cecf5c9e9b22fa73f07c4db124e2c8967dbf6bb529f14b6c700b4982"), looks := false }, kinds := [], alts := [], laidByText := true, laidKinds := [.data, .pinned], laidTests := true, laidLooks := .later }
def FnExactPathJoinUptoCardSaid : Prop := Claim7.holds Tryd.pinned (.plain (OpenSpec.upto fnExactPathJoinSpec)) fnExactPathJoinUptoCard

/-- THE SECOND FORM's CARD OF 'laws.FnExactPathMove'. -/
def fnExactPathMoveUptoCard : Claim7 := { stood := { row := fnExactPathMoveUptoRow, standIns := [], harness := (true, "a4a8a752cecf5c9e9b22fa73f07c4db124e2c8967dbf6bb529f14b6c700b4982"), looks := false }, kinds := [], alts := [], laidByText := true, laidKinds := [.data, .pinned], laidTests := true, laidLooks := .later }
def FnExactPathMoveUptoCardSaid : Prop := Claim7.holds Tryd.pinned (.plain (OpenSpec.upto fnExactPathMoveSpec)) fnExactPathMoveUptoCard

/-- THE SECOND FORM's CARD OF 'laws.FnExactOpOk'. -/
def fnExactOpOkUptoCard : Claim7 := { stood := { row := fnExactOpOkUptoRow, standIns := [], harness := (true, "a4a8a752cecf5c9e9b22fa73f07c4db124e2c8967dbf6bb529f14b6c700b4982"), looks := false }, kinds := [], alts := [], laidByText := true, laidKinds := [.data, .pinned], laidTests := true, laidLooks := .later }
def FnExactOpOkUptoCardSaid : Prop := Claim7.holds Tryd.pinned (.plain (OpenSpec.upto fnExactOpOkSpec)) fnExactOpOkUptoCard

/-- THE SECOND FORM's CARD OF 'laws.FnPathOrder'. -/
def fnPathOrderUptoCard : Claim7 := { stood := { row := fnPathOrderUptoRow, standIns := [], harness := (true, "a4a8a752cecf5c9e9b22fa73f07c4db124e2c8967dbf6bb529f14b6c700b4982"), looks := false }, kinds := [], alts := [], laidByText := true, laidKinds := [.data, .pinned], laidTests := true, laidLooks := .later }
def FnPathOrderUptoCardSaid : Prop := Claim7.holds Tryd.pinned (.plain (OpenSpec.upto fnPathOrderSpec)) fnPathOrderUptoCard

/-- THE SECOND FORM's CARD OF 'laws.FnExactPathUp'. -/
def fnExactPathUpUptoCard : Claim7 := { stood := { row := fnExactPathUpUptoRow, standIns := [], harness := (true, "a4a8a752cecf5c9e9b22fa73f07c4db124e2c8967dbf6bb529f14b6c700b4982"), looks := false }, kinds := [], alts := [], laidByText := true, laidKinds := [.data, .pinned], laidTests := true, laidLooks := .later }
def FnExactPathUpUptoCardSaid : Prop := Claim7.holds Tryd.pinned (.plain (OpenSpec.upto fnExactPathUpSpec)) fnExactPathUpUptoCard

/-- THE SECOND FORM's CARD OF 'laws.FnPathVia'. -/
def fnPathViaUptoCard : Claim7 := { stood := { row := fnPathViaUptoRow, standIns := [], harness := (true, "a4a8a752cecf5c9e9b22fa73f07c4db124e2c8967dbf6bb529f14b6c700b4982"), looks := false }, kinds := [], alts := [], laidByText := true, laidKinds := [.data, .pinned], laidTests := true, laidLooks := .later }
def FnPathViaUptoCardSaid : Prop := Claim7.holds Tryd.pinned (.plain (OpenSpec.upto fnPathViaSpec)) fnPathViaUptoCard

/-- THE SECOND FORM's CARD OF 'laws.FnPathMove'. -/
def fnPathMoveUptoCard : Claim7 := { stood := { row := fnPathMoveUptoRow, standIns := [], harness := (true, "a4a8a752cecf5c9e9b22fa73f07c4db124e2c8967dbf6bb529f14b6c700b4982"), looks := false }, kinds := [], alts := [], laidByText := true, laidKinds := [.data, .pinned], laidTests := true, laidLooks := .later }
def FnPathMoveUptoCardSaid : Prop := Claim7.holds Tryd.pinned (.plain (OpenSpec.upto fnPathMoveSpec)) fnPathMoveUptoCard

/-- THE SECOND FORM's CARD OF 'laws.FnPathUp'. -/
def fnPathUpUptoCard : Claim7 := { stood := { row := fnPathUpUptoRow, standIns := [], harness := (true, "a4a8a752cecf5c9e9b22fa73f07c4db124e2c8967dbf6bb529f14b6c700b4982"), looks := false }, kinds := [], alts := [], laidByText := true, laidKinds := [.data, .pinned], laidTests := true, laidLooks := .later }
def FnPathUpUptoCardSaid : Prop := Claim7.holds Tryd.pinned (.plain (OpenSpec.upto fnPathUpSpec)) fnPathUpUptoCard

/-- THE SECOND FORM's CARD OF 'laws.FnPathJoin'. -/
def fnPathJoinUptoCard : Claim7 := { stood := { row := fnPathJoinUptoRow, standIns := [], harness := (true, "a4a8a752cecf5c9e9b22fa73f07c4db124e2c8967dbf6bb529f14b6c700b4982"), looks := false }, kinds := [], alts := [], laidByText := true, laidKinds := [.data, .pinned], laidTests := true, laidLooks := .later }
def FnPathJoinUptoCardSaid : Prop := Claim7.holds Tryd.pinned (.plain (OpenSpec.upto fnPathJoinSpec)) fnPathJoinUptoCard

/-- THE SECOND FORM's CARD OF 'laws.FnPathUnder'. -/
def fnPathUnderUptoCard : Claim7 := { stood := { row := fnPathUnderUptoRow, standIns := [], harness := (true, "a4a8a752cecf5c9e9b22fa73f07c4db124e2c8967dbf6bb529f14b6c700b4982"), looks := false }, kinds := [], alts := [], laidByText := true, laidKinds := [.data, .pinned], laidTests := true, laidLooks := .later }
def FnPathUnderUptoCardSaid : Prop := Claim7.holds Tryd.pinned (.plain (OpenSpec.upto fnPathUnderSpec)) fnPathUnderUptoCard

/-- THE SECOND FORM's CARD OF 'laws.FnPath'. -/
def fnPathUptoCard : Claim7 := { stood := { row := fnPathUptoRow, standIns := [], harness := (true, "a4a8a752cecf5c9e9b22fa73f07c4db124e2c8967dbf6bb529f14b6c700b4982"), looks := false }, kinds := [], alts := [], laidByText := true, laidKinds := [.data, .pinned], laidTests := true, laidLooks := .later }
def FnPathUptoCardSaid : Prop := Claim7.holds Tryd.pinned (.plain (OpenSpec.upto fnPathSpec)) fnPathUptoCard
end Rows
end Go.Proofs.YtacmebjlbghloaaDoor
