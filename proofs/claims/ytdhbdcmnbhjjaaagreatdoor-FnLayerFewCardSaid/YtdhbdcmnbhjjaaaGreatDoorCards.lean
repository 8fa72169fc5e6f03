/-
  DERIVED. GIVEN WITH THE SEED: THE CARDS: each row of YtdhbdcmnbhjjaaaGreatDoorRows.lean that lists a variable, with what it lists TIED to the program's text (the seventh form; the later family's looks); each row that meets fmt, with fmt's text TOLD by the authors' own Lean function (tested against real Go, not proved from fmt's source: count such statements apart). THE CARD IS WHAT COUNTS. Prove the row's statement (the work); the ties are given (YtdhbdcmnbhjjaaaGreatDoorTie.lean); close each card by the builder's one call (the guide's Derived/Test/ToyasCard.lean, 'card_holds'). Laid BY PROGRAM, IN A SANDBOX (cutbox-door.mjs). By AI agents, Wed Nov 11 2026. No macro, syntax, notation, axiom, sorry.
-/
import Derived.Test.YtdhbdcmnbhjjaaaGreatDoorRows
import GoSem.ClaimSeven
namespace Go.Proofs.YtdhbdcmnbhjjaaaGreatDoor
namespace Rows

/-- THE TIED CARD OF 'laws.FnTreeVia'. -/
def fnTreeViaCard : Claim7 := { stood := { row := fnTreeViaRow, standIns := [], harness := (true, "0a909bb318e95f7695f7f2fe04ce21eae0cd67eaa89a123bb15246629050a1e5"), looks := false }, kinds := [], alts := [], laidByText := true, laidKinds := [.data, .pinned], laidTests := true, laidLooks := .later }
def FnTreeViaCardSaid : Prop := Claim7.holds Tryz.pinned (.plain (OpenSpec.ofChange fnTreeViaSpec)) fnTreeViaCard

/-- THE TIED CARD OF 'laws.FnLayerOn'. -/
def fnLayerOnCard : Claim7 := { stood := { row := fnLayerOnRow, standIns := [], harness := (true, "0a909bb318e95f7695f7f2fe04ce21eae0cd67eaa89a123bb15246629050a1e5"), looks := false }, kinds := [], alts := [], laidByText := true, laidKinds := [.data, .pinned], laidTests := true, laidLooks := .later }
def FnLayerOnCardSaid : Prop := Claim7.holds Tryz.pinned (.plain (OpenSpec.ofChange fnLayerOnSpec)) fnLayerOnCard

/-- THE TIED CARD OF 'laws.FnLayerTwice'. -/
def fnLayerTwiceCard : Claim7 := { stood := { row := fnLayerTwiceRow, standIns := [], harness := (true, "0a909bb318e95f7695f7f2fe04ce21eae0cd67eaa89a123bb15246629050a1e5"), looks := false }, kinds := [], alts := [], laidByText := true, laidKinds := [.data, .pinned], laidTests := true, laidLooks := .later }
def FnLayerTwiceCardSaid : Prop := Claim7.holds Tryz.pinned (.plain (OpenSpec.ofChange fnLayerTwiceSpec)) fnLayerTwiceCard

/-- THE TIED CARD OF 'laws.FnLayerDiff'. -/
def fnLayerDiffCard : Claim7 := { stood := { row := fnLayerDiffRow, standIns := [], harness := (true, "0a909bb318e95f7695f7f2fe04ce21eae0cd67eaa89a123bb15246629050a1e5"), looks := false }, kinds := [], alts := [], laidByText := true, laidKinds := [.data, .pinned], laidTests := true, laidLooks := .later }
def FnLayerDiffCardSaid : Prop := Claim7.holds Tryz.pinned (.plain (OpenSpec.ofChange fnLayerDiffSpec)) fnLayerDiffCard

/-- THE TIED CARD OF 'laws.FnLayerLeast'. -/
def fnLayerLeastCard : Claim7 := { stood := { row := fnLayerLeastRow, standIns := [], harness := (true, "0a909bb318e95f7695f7f2fe04ce21eae0cd67eaa89a123bb15246629050a1e5"), looks := false }, kinds := [], alts := [], laidByText := true, laidKinds := [.data, .pinned], laidTests := true, laidLooks := .later }
def FnLayerLeastCardSaid : Prop := Claim7.holds Tryz.pinned (.plain (OpenSpec.ofChange fnLayerLeastSpec)) fnLayerLeastCard

/-- THE TIED CARD OF 'laws.FnLayerFew'. -/
def fnLayerFewCard : Claim7 := { stood := { row := fnLayerFewRow, standIns := [], harness := (true, "0a909bb318e95f7695f7f2fe04ce21eae0cd67eaa89a123bb15246629050a1e5"), looks := false }, kinds := [], alts := [], laidByText := true, laidKinds := [.data, .pinned], laidTests := true, laidLooks := .later }
def FnLayerFewCardSaid : Prop := Claim7.holds Tryz.pinned (.plain (OpenSpec.ofChange fnLayerFewSpec)) fnLayerFewCard

/-- THE SECOND FORM's CARD OF 'laws.FnTreeVia'. -/
def fnTreeViaUptoCard : Claim7 := { stood := { row := fnTreeViaUptoRow, standIns := [], harness := (true, "0a909bb318e95f7695f7f2fe04ce21eae0cd67eaa89a123bb15246629050a1e5"), looks := false }, kinds := [], alts := [], laidByText := true, laidKinds := [.data, .pinned], laidTests := true, laidLooks := .later }
def FnTreeViaUptoCardSaid : Prop := Claim7.holds Tryz.pinned (.plain (OpenSpec.upto fnTreeViaSpec)) fnTreeViaUptoCard

/-- THE SECOND FORM's CARD OF 'laws.FnLayerOn'. -/
def fnLayerOnUptoCard : Claim7 := { stood := { row := fnLayerOnUptoRow, standIns := [], harness := (true, "0a909bb318e95f7695f7f2fe04ce21eae0cd67eaa89a123bb15246629050a1e5"), looks := false }, kinds := [], alts := [], laidByText := true, laidKinds := [.data, .pinned], laidTests := true, laidLooks := .later }
def FnLayerOnUptoCardSaid : Prop := Claim7.holds Tryz.pinned (.plain (OpenSpec.upto fnLayerOnSpec)) fnLayerOnUptoCard

/-- THE SECOND FORM's CARD OF 'laws.FnLayerTwice'. -/
def fnLayerTwiceUptoCard : Claim7 := { stood := { row := fnLayerTwiceUptoRow, standIns := [], harness := (true, "0a909bb318e95f7695f7f2fe04ce21eae0cd67eaa89a123bb15246629050a1e5"), looks := false }, kinds := [], alts := [], laidByText := true, laidKinds := [.data, .pinned], laidTests := true, laidLooks := .later }
def FnLayerTwiceUptoCardSaid : Prop := Claim7.holds Tryz.pinned (.plain (OpenSpec.upto fnLayerTwiceSpec)) fnLayerTwiceUptoCard

/-- THE SECOND FORM's CARD OF 'laws.FnLayerDiff'. -/
def fnLayerDiffUptoCard : Claim7 := { stood := { row := fnLayerDiffUptoRow, standIns := [], harness := (true, "0a909bb318e95f7695f7f2fe04ce21eae0cd67eaa89a123bb15246629050a1e5"), looks := false }, kinds := [], alts := [], laidByText := true, laidKinds := [.data, .pinned], laidTests := true, laidLooks := .later }
def FnLayerDiffUptoCardSaid : Prop := Claim7.holds Tryz.pinned (.plain (OpenSpec.upto fnLayerDiffSpec)) fnLayerDiffUptoCard

/-- THE SECOND FORM's CARD OF 'laws.FnLayerLeast'. -/
def fnLayerLeastUptoCard : Claim7 := { stood := { row := fnLayerLeastUptoRow, standIns := [], harness := (true, "0a909bb318e95f7695f7f2fe04ce21eae0cd67eaa89a123bb15246629050a1e5"), looks := false }, kinds := [], alts := [], laidByText := true, laidKinds := [.data, .pinned], laidTests := true, laidLooks := .later }
def FnLayerLeastUptoCardSaid : Prop := Claim7.holds Tryz.pinned (.plain (OpenSpec.upto fnLayerLeastSpec)) fnLayerLeastUptoCard

/-- THE SECOND FORM's CARD OF 'laws.FnLayerFew'. -/
def fnLayerFewUptoCard : Claim7 := { stood := { row := fnLayerFewUptoRow, standIns := [], harness := (true, "0a909bb318e95f7695f7f2fe04ce21eae0cd67eaa89a123bb15246629050a1e5"), looks := false }, kinds := [], alts := [], laidByText := true, laidKinds := [.data, .pinned], laidTests := true, laidLooks := .later }
def FnLayerFewUptoCardSaid : Prop := Claim7.holds Tryz.pinned (.plain (OpenSpec.upto fnLayerFewSpec)) fnLayerFewUptoCard
end Rows
end Go.Proofs.YtdhbdcmnbhjjaaaGreatDoor
