/-
  DERIVED. GIVEN WITH THE SEED: THE CARDS: each row of YtnmjidjhloodbaaGreatDoorRows.lean that lists a variable, with what it lists TIED to the program's text (the seventh form; the later family's looks); each row that meets fmt, with fmt's text TOLD by the authors' own Lean function (tested against real Go, not proved from fmt's source: count such statements apart). THE CARD IS WHAT COUNTS. Prove the row's statement (the work); the ties are given (YtnmjidjhloodbaaGreatDoorTie.lean); close each card by the builder's one call (the guide's Derived/Test/ToyasCard.lean, 'card_holds'). Laid BY PROGRAM, IN A SANDBOX (cutbox-door.mjs). By AI agents, Wed Nov 11 2026. No macro, syntax, notation, axiom, sorry.
-/
import Derived.Test.YtnmjidjhloodbaaGreatDoorRows
import GoSem.ClaimSeven
namespace Go.Proofs.YtnmjidjhloodbaaGreatDoor
namespace Rows

/-- THE TIED CARD OF 'laws.FnExactTreeDo'. -/
def fnExactTreeDoCard : Claim7 := { stood := { row := fnExactTreeDoRow, standIns := [], harness := (true, "e48c6c1724d195dbe3a33a8c1d70fd5e3cceae91dd252e4774f404d7cce2b8a0"), looks := false }, kinds := [], alts := [], laidByText := true, laidKinds := [.data, .pinned], laidTests := true, laidLooks := .later }
def FnExactTreeDoCardSaid : Prop := Claim7.holds Tryz.pinned (.plain (OpenSpec.ofChange fnExactTreeDoSpec)) fnExactTreeDoCard

/-- THE TIED CARD OF 'laws.FnExactLayerOn'. -/
def fnExactLayerOnCard : Claim7 := { stood := { row := fnExactLayerOnRow, standIns := [], harness := (true, "e48c6c1724d195dbe3a33a8c1d70fd5e3cceae91dd252e4774f404d7cce2b8a0"), looks := false }, kinds := [], alts := [], laidByText := true, laidKinds := [.data, .pinned], laidTests := true, laidLooks := .later }
def FnExactLayerOnCardSaid : Prop := Claim7.holds Tryz.pinned (.plain (OpenSpec.ofChange fnExactLayerOnSpec)) fnExactLayerOnCard

/-- THE SECOND FORM's CARD OF 'laws.FnExactTreeDo'. -/
def fnExactTreeDoUptoCard : Claim7 := { stood := { row := fnExactTreeDoUptoRow, standIns := [], harness := (true, "e48c6c1724d195dbe3a33a8c1d70fd5e3cceae91dd252e4774f404d7cce2b8a0"), looks := false }, kinds := [], alts := [], laidByText := true, laidKinds := [.data, .pinned], laidTests := true, laidLooks := .later }
def FnExactTreeDoUptoCardSaid : Prop := Claim7.holds Tryz.pinned (.plain (OpenSpec.upto fnExactTreeDoSpec)) fnExactTreeDoUptoCard

/-- THE SECOND FORM's CARD OF 'laws.FnExactLayerOn'. -/
def fnExactLayerOnUptoCard : Claim7 := { stood := { row := fnExactLayerOnUptoRow, standIns := [], harness := (true, "e48c6c1724d195dbe3a33a8c1d70fd5e3cceae91dd252e4774f404d7cce2b8a0"), looks := false }, kinds := [], alts := [], laidByText := true, laidKinds := [.data, .pinned], laidTests := true, laidLooks := .later }
def FnExactLayerOnUptoCardSaid : Prop := Claim7.holds Tryz.pinned (.plain (OpenSpec.upto fnExactLayerOnSpec)) fnExactLayerOnUptoCard
end Rows
end Go.Proofs.YtnmjidjhloodbaaGreatDoor
