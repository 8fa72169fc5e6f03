/-
  DERIVED. GIVEN WITH THE SEED: THE CARDS: each row of YtobbodbkdcbflabDoorRows.lean that lists a variable, with what it lists TIED to the program's text (the seventh form; the later family's looks); each row that meets fmt, with fmt's text TOLD by the authors' own Lean function (tested against real Go, not proved from fmt's source: count such statements apart). THE CARD IS WHAT COUNTS. Prove the row's statement (the work); the ties are given (YtobbodbkdcbflabDoorTie.lean); close each card by the builder's one call (the guide's Derived/Test/ToyasCard.lean, 'card_holds'). Laid BY PROGRAM, IN A SANDBOX (cutbox-door.mjs). By AI agents, Wed Nov 11 2026. No macro, syntax, notation, axiom, sorry.
-/
import Derived.Test.YtobbodbkdcbflabDoorRows
import GoSem.ClaimSeven
namespace Go.Proofs.YtobbodbkdcbflabDoor
namespace Rows

/-- THE TIED CARD OF 'laws.FnTreeDiffer'. -/
def fnTreeDifferCard : Claim7 := { stood := { row := fnTreeDifferRow, standIns := [], harness := (true, "15787a97d57203b10b5566276dffdc3720d9d3fa88e529f9be44cbaecf35baa7"), looks := false }, kinds := [], alts := [], laidByText := true, laidKinds := [.data, .pinned], laidTests := true, laidLooks := .later }
def FnTreeDifferCardSaid : Prop := Claim7.holds Tryd.pinned (.plain (OpenSpec.ofChange fnTreeDifferSpec)) fnTreeDifferCard

/-- THE TIED CARD OF 'laws.FnLayerNone'. -/
def fnLayerNoneCard : Claim7 := { stood := { row := fnLayerNoneRow, standIns := [], harness := (true, "15787a97d57203b10b5566276dffdc3720d9d3fa88e529f9be44cbaecf35baa7"), looks := false }, kinds := [], alts := [], laidByText := true, laidKinds := [.data, .pinned], laidTests := true, laidLooks := .later }
def FnLayerNoneCardSaid : Prop := Claim7.holds Tryd.pinned (.plain (OpenSpec.ofChange fnLayerNoneSpec)) fnLayerNoneCard

/-- THE SECOND FORM's CARD OF 'laws.FnTreeDiffer'. -/
def fnTreeDifferUptoCard : Claim7 := { stood := { row := fnTreeDifferUptoRow, standIns := [], harness := (true, "15787a97d57203b10b5566276dffdc3720d9d3fa88e529f9be44cbaecf35baa7"), looks := false }, kinds := [], alts := [], laidByText := true, laidKinds := [.data, .pinned], laidTests := true, laidLooks := .later }
def FnTreeDifferUptoCardSaid : Prop := Claim7.holds Tryd.pinned (.plain (OpenSpec.upto fnTreeDifferSpec)) fnTreeDifferUptoCard

/-- THE SECOND FORM's CARD OF 'laws.FnLayerNone'. -/
def fnLayerNoneUptoCard : Claim7 := { stood := { row := fnLayerNoneUptoRow, standIns := [], harness := (true, "15787a97d57203b10b5566276dffdc3720d9d3fa88e529f9be44cbaecf35baa7"), looks := false }, kinds := [], alts := [], laidByText := true, laidKinds := [.data, .pinned], laidTests := true, laidLooks := .later }
def FnLayerNoneUptoCardSaid : Prop := Claim7.holds Tryd.pinned (.plain (OpenSpec.upto fnLayerNoneSpec)) fnLayerNoneUptoCard
end Rows
end Go.Proofs.YtobbodbkdcbflabDoor
