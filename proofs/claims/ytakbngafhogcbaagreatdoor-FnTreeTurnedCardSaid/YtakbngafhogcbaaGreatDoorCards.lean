/-
  DERIVED. GIVEN WITH THE SEED: THE CARDS: each row of YtakbngafhogcbaaGreatDoorRows.lean that lists a variable, with what it lists TIED to the program's text (the seventh form; the later family's looks); each row that meets fmt, with fmt's text TOLD by the authors' own Lean function (tested against real Go, not proved from fmt's source: count such statements apart). THE CARD IS WHAT COUNTS. Prove the row's statement (the work); the ties are given (YtakbngafhogcbaaGreatDoorTie.lean); close each card by the builder's one call (the guide's Derived/Test/ToyasCard.lean, 'card_holds'). Laid BY PROGRAM, IN A SANDBOX (cutbox-door.mjs). By AI agents, Wed Nov 11 2026. No macro, syntax, notation, axiom, sorry.
-/
import Derived.Test.YtakbngafhogcbaaGreatDoorRows
import GoSem.ClaimSeven
namespace Go.Proofs.YtakbngafhogcbaaGreatDoor
namespace Rows

/-- THE TIED CARD OF 'laws.FnTreeMany'. -/
def fnTreeManyCard : Claim7 := { stood := { row := fnTreeManyRow, standIns := [], harness := (true, "a5247e5f8c88668819e0f690466315df9f9192bc4d23a7d21ec98944ca0d93b4"), looks := false }, kinds := [], alts := [], laidByText := true, laidKinds := [.data, .pinned], laidTests := true, laidLooks := .later }
def FnTreeManyCardSaid : Prop := Claim7.holds Tryz.pinned (.plain (OpenSpec.ofChange fnTreeManySpec)) fnTreeManyCard

/-- THE TIED CARD OF 'laws.FnTree'. -/
def fnTreeCard : Claim7 := { stood := { row := fnTreeRow, standIns := [], harness := (true, "a5247e5f8c88668819e0f690466315df9f9192bc4d23a7d21ec98944ca0d93b4"), looks := false }, kinds := [], alts := [], laidByText := true, laidKinds := [.data, .pinned], laidTests := true, laidLooks := .later }
def FnTreeCardSaid : Prop := Claim7.holds Tryz.pinned (.plain (OpenSpec.ofChange fnTreeSpec)) fnTreeCard

/-- THE TIED CARD OF 'laws.FnTreePut'. -/
def fnTreePutCard : Claim7 := { stood := { row := fnTreePutRow, standIns := [], harness := (true, "a5247e5f8c88668819e0f690466315df9f9192bc4d23a7d21ec98944ca0d93b4"), looks := false }, kinds := [], alts := [], laidByText := true, laidKinds := [.data, .pinned], laidTests := true, laidLooks := .later }
def FnTreePutCardSaid : Prop := Claim7.holds Tryz.pinned (.plain (OpenSpec.ofChange fnTreePutSpec)) fnTreePutCard

/-- THE TIED CARD OF 'laws.FnTreeVia'. -/
def fnTreeViaCard : Claim7 := { stood := { row := fnTreeViaRow, standIns := [], harness := (true, "a5247e5f8c88668819e0f690466315df9f9192bc4d23a7d21ec98944ca0d93b4"), looks := false }, kinds := [], alts := [], laidByText := true, laidKinds := [.data, .pinned], laidTests := true, laidLooks := .later }
def FnTreeViaCardSaid : Prop := Claim7.holds Tryz.pinned (.plain (OpenSpec.ofChange fnTreeViaSpec)) fnTreeViaCard

/-- THE TIED CARD OF 'laws.FnTreeBack'. -/
def fnTreeBackCard : Claim7 := { stood := { row := fnTreeBackRow, standIns := [], harness := (true, "a5247e5f8c88668819e0f690466315df9f9192bc4d23a7d21ec98944ca0d93b4"), looks := false }, kinds := [], alts := [], laidByText := true, laidKinds := [.data, .pinned], laidTests := true, laidLooks := .later }
def FnTreeBackCardSaid : Prop := Claim7.holds Tryz.pinned (.plain (OpenSpec.ofChange fnTreeBackSpec)) fnTreeBackCard

/-- THE TIED CARD OF 'laws.FnTreeMove'. -/
def fnTreeMoveCard : Claim7 := { stood := { row := fnTreeMoveRow, standIns := [], harness := (true, "a5247e5f8c88668819e0f690466315df9f9192bc4d23a7d21ec98944ca0d93b4"), looks := false }, kinds := [], alts := [], laidByText := true, laidKinds := [.data, .pinned], laidTests := true, laidLooks := .later }
def FnTreeMoveCardSaid : Prop := Claim7.holds Tryz.pinned (.plain (OpenSpec.ofChange fnTreeMoveSpec)) fnTreeMoveCard

/-- THE TIED CARD OF 'laws.FnTreeTurned'. -/
def fnTreeTurnedCard : Claim7 := { stood := { row := fnTreeTurnedRow, standIns := [], harness := (true, "a5247e5f8c88668819e0f690466315df9f9192bc4d23a7d21ec98944ca0d93b4"), looks := false }, kinds := [], alts := [], laidByText := true, laidKinds := [.data, .pinned], laidTests := true, laidLooks := .later }
def FnTreeTurnedCardSaid : Prop := Claim7.holds Tryz.pinned (.plain (OpenSpec.ofChange fnTreeTurnedSpec)) fnTreeTurnedCard

/-- THE TIED CARD OF 'laws.FnTreeCode'. -/
def fnTreeCodeCard : Claim7 := { stood := { row := fnTreeCodeRow, standIns := [], harness := (true, "a5247e5f8c88668819e0f690466315df9f9192bc4d23a7d21ec98944ca0d93b4"), looks := false }, kinds := [], alts := [], laidByText := true, laidKinds := [.data, .pinned], laidTests := true, laidLooks := .later }
def FnTreeCodeCardSaid : Prop := Claim7.holds Tryz.pinned (.plain (OpenSpec.ofChange fnTreeCodeSpec)) fnTreeCodeCard

/-- THE SECOND FORM's CARD OF 'laws.FnTreeMany'. -/
def fnTreeManyUptoCard : Claim7 := { stood := { row := fnTreeManyUptoRow, standIns := [], harness := (true, "a5247e5f8c88668819e0f690466315df9f9192bc4d23a7d21ec98944ca0d93b4"), looks := false }, kinds := [], alts := [], laidByText := true, laidKinds := [.data, .pinned], laidTests := true, laidLooks := .later }
def FnTreeManyUptoCardSaid : Prop := Claim7.holds Tryz.pinned (.plain (OpenSpec.upto fnTreeManySpec)) fnTreeManyUptoCard

/-- THE SECOND FORM's CARD OF 'laws.FnTree'. -/
def fnTreeUptoCard : Claim7 := { stood := { row := fnTreeUptoRow, standIns := [], harness := (true, "a5247e5f8c88668819e0f690466315df9f9192bc4d23a7d21ec98944ca0d93b4"), looks := false }, kinds := [], alts := [], laidByText := true, laidKinds := [.data, .pinned], laidTests := true, laidLooks := .later }
def FnTreeUptoCardSaid : Prop := Claim7.holds Tryz.pinned (.plain (OpenSpec.upto fnTreeSpec)) fnTreeUptoCard

/-- THE SECOND FORM's CARD OF 'laws.FnTreePut'. -/
def fnTreePutUptoCard : Claim7 := { stood := { row := fnTreePutUptoRow, standIns := [], harness := (true, "a5247e5f8c88668819e0f690466315df9f9192bc4d23a7d21ec98944ca0d93b4"), looks := false }, kinds := [], alts := [], laidByText := true, laidKinds := [.data, .pinned], laidTests := true, laidLooks := .later }
def FnTreePutUptoCardSaid : Prop := Claim7.holds Tryz.pinned (.plain (OpenSpec.upto fnTreePutSpec)) fnTreePutUptoCard

/-- THE SECOND FORM's CARD OF 'laws.FnTreeVia'. -/
def fnTreeViaUptoCard : Claim7 := { stood := { row := fnTreeViaUptoRow, standIns := [], harness := (true, "a5247e5f8c88668819e0f690466315df9f9192bc4d23a7d21ec98944ca0d93b4"), looks := false }, kinds := [], alts := [], laidByText := true, laidKinds := [.data, .pinned], laidTests := true, laidLooks := .later }
def FnTreeViaUptoCardSaid : Prop := Claim7.holds Tryz.pinned (.plain (OpenSpec.upto fnTreeViaSpec)) fnTreeViaUptoCard

/-- THE SECOND FORM's CARD OF 'laws.FnTreeBack'. -/
def fnTreeBackUptoCard : Claim7 := { stood := { row := fnTreeBackUptoRow, standIns := [], harness := (true, "a5247e5f8c88668819e0f690466315df9f9192bc4d23a7d21ec98944ca0d93b4"), looks := false }, kinds := [], alts := [], laidByText := true, laidKinds := [.data, .pinned], laidTests := true, laidLooks := .later }
def FnTreeBackUptoCardSaid : Prop := Claim7.holds Tryz.pinned (.plain (OpenSpec.upto fnTreeBackSpec)) fnTreeBackUptoCard

/-- THE SECOND FORM's CARD OF 'laws.FnTreeMove'. -/
def fnTreeMoveUptoCard : Claim7 := { stood := { row := fnTreeMoveUptoRow, standIns := [], harness := (true, "a5247e5f8c88668819e0f690466315df9f9192bc4d23a7d21ec98944ca0d93b4"), looks := false }, kinds := [], alts := [], laidByText := true, laidKinds := [.data, .pinned], laidTests := true, laidLooks := .later }
def FnTreeMoveUptoCardSaid : Prop := Claim7.holds Tryz.pinned (.plain (OpenSpec.upto fnTreeMoveSpec)) fnTreeMoveUptoCard

/-- THE SECOND FORM's CARD OF 'laws.FnTreeTurned'. -/
def fnTreeTurnedUptoCard : Claim7 := { stood := { row := fnTreeTurnedUptoRow, standIns := [], harness := (true, "a5247e5f8c88668819e0f690466315df9f9192bc4d23a7d21ec98944ca0d93b4"), looks := false }, kinds := [], alts := [], laidByText := true, laidKinds := [.data, .pinned], laidTests := true, laidLooks := .later }
def FnTreeTurnedUptoCardSaid : Prop := Claim7.holds Tryz.pinned (.plain (OpenSpec.upto fnTreeTurnedSpec)) fnTreeTurnedUptoCard

/-- THE SECOND FORM's CARD OF 'laws.FnTreeCode'. -/
def fnTreeCodeUptoCard : Claim7 := { stood := { row := fnTreeCodeUptoRow, standIns := [], harness := (true, "a5247e5f8c88668819e0f690466315df9f9192bc4d23a7d21ec98944ca0d93b4"), looks := false }, kinds := [], alts := [], laidByText := true, laidKinds := [.data, .pinned], laidTests := true, laidLooks := .later }
def FnTreeCodeUptoCardSaid : Prop := Claim7.holds Tryz.pinned (.plain (OpenSpec.upto fnTreeCodeSpec)) fnTreeCodeUptoCard
end Rows
end Go.Proofs.YtakbngafhogcbaaGreatDoor
