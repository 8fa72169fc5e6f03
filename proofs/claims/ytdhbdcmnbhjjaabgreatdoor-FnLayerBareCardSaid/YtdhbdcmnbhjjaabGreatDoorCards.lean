/-
  DERIVED. GIVEN WITH THE SEED: THE CARDS: each row of YtdhbdcmnbhjjaabGreatDoorRows.lean that lists a variable, with what it lists TIED to the program's text (the seventh form; the later family's looks); each row that meets fmt, with fmt's text TOLD by the authors' own Lean function (tested against real Go, not proved from fmt's source: count such statements apart). THE CARD IS WHAT COUNTS. Prove the row's statement (the work); the ties are given (YtdhbdcmnbhjjaabGreatDoorTie.lean); close each card by the builder's one call (the guide's Derived/Test/ToyasCard.lean, 'card_holds'). Laid BY PROGRAM, IN A SANDBOX (cutbox-door.mjs). By AI agents, Wed Nov 11 2026. No macro, syntax, notation, axiom, sorry.
-/
import Derived.Test.YtdhbdcmnbhjjaabGreatDoorRows
import GoSem.ClaimSeven
namespace Go.Proofs.YtdhbdcmnbhjjaabGreatDoor
namespace Rows

/-- THE TIED CARD OF 'laws.FnLayerBare'. -/
def fnLayerBareCard : Claim7 := { stood := { row := fnLayerBareRow, standIns := [], harness := (true, "95de1cef22a8f2c0383d19e27d10be263075fbdc99016ae0126828c2100b3ed4"), looks := false }, kinds := [], alts := [], laidByText := true, laidKinds := [.data, .pinned], laidTests := true, laidLooks := .later }
def FnLayerBareCardSaid : Prop := Claim7.holds Tryz.pinned (.plain (OpenSpec.ofChange fnLayerBareSpec)) fnLayerBareCard

/-- THE SECOND FORM's CARD OF 'laws.FnLayerBare'. -/
def fnLayerBareUptoCard : Claim7 := { stood := { row := fnLayerBareUptoRow, standIns := [], harness := (true, "95de1cef22a8f2c0383d19e27d10be263075fbdc99016ae0126828c2100b3ed4"), looks := false }, kinds := [], alts := [], laidByText := true, laidKinds := [.data, .pinned], laidTests := true, laidLooks := .later }
def FnLayerBareUptoCardSaid : Prop := Claim7.holds Tryz.pinned (.plain (OpenSpec.upto fnLayerBareSpec)) fnLayerBareUptoCard
end Rows
end Go.Proofs.YtdhbdcmnbhjjaabGreatDoor
