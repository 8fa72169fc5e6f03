/-
  DERIVED. GIVEN WITH THE SEED: THE CARDS: each row of YtnmjidjhloodbaaDoorRows.lean that lists a variable, with what it lists TIED to the program's text (the seventh form; the later family's looks); each row that meets fmt, with fmt's text TOLD by the authors' own Lean function (tested against real Go, not proved from fmt's source: count such statements apart). THE CARD IS WHAT COUNTS. Prove the row's statement (the work); the ties are given (YtnmjidjhloodbaaDoorTie.lean); close each card by the builder's one call (the guide's Derived/Test/ToyasCard.lean, 'card_holds'). Laid BY PROGRAM, IN A SANDBOX (cutbox-door.mjs). By AI agents, Wed Nov 11 2026. No macro, syntax, notation, axiom, sorry.
-/
import Derived.Test.YtnmjidjhloodbaaDoorRows
import GoSem.ClaimSeven
namespace Go.Proofs.YtnmjidjhloodbaaDoor
namespace Rows

/-- THE TIED CARD OF 'laws.FnExactLayerJoin'. -/
def fnExactLayerJoinCard : Claim7 := { stood := { row := fnExactLayerJoinRow, standIns := [], harness := (true, "25f078ba23cd1c2f307c9711310d5ac5f9ae0aea630913259e7b143bde182168"), looks := false }, kinds := [], alts := [], laidByText := true, laidKinds := [.data, .pinned], laidTests := true, laidLooks := .later }
def FnExactLayerJoinCardSaid : Prop := Claim7.holds Tryd.pinned (.plain (OpenSpec.ofChange fnExactLayerJoinSpec)) fnExactLayerJoinCard

/-- THE TIED CARD OF 'laws.FnExactLayerDiff'. -/
def fnExactLayerDiffCard : Claim7 := { stood := { row := fnExactLayerDiffRow, standIns := [], harness := (true, "25f078ba23cd1c2f307c9711310d5ac5f9ae0aea630913259e7b143bde182168"), looks := false }, kinds := [], alts := [], laidByText := true, laidKinds := [.data, .pinned], laidTests := true, laidLooks := .later }
def FnExactLayerDiffCardSaid : Prop := Claim7.holds Tryd.pinned (.plain (OpenSpec.ofChange fnExactLayerDiffSpec)) fnExactLayerDiffCard

/-- THE SECOND FORM's CARD OF 'laws.FnExactLayerJoin'. -/
def fnExactLayerJoinUptoCard : Claim7 := { stood := { row := fnExactLayerJoinUptoRow, standIns := [], harness := (true, "25f078ba23cd1c2f307c9711310d5ac5f9ae0aea630913259e7b143bde182168"), looks := false }, kinds := [], alts := [], laidByText := true, laidKinds := [.data, .pinned], laidTests := true, laidLooks := .later }
def FnExactLayerJoinUptoCardSaid : Prop := Claim7.holds Tryd.pinned (.plain (OpenSpec.upto fnExactLayerJoinSpec)) fnExactLayerJoinUptoCard

/-- THE SECOND FORM's CARD OF 'laws.FnExactLayerDiff'. -/
def fnExactLayerDiffUptoCard : Claim7 := { stood := { row := fnExactLayerDiffUptoRow, standIns := [], harness := (true, "25f078ba23cd1c2f307c9711310d5ac5f9ae0aea630913259e7b143bde182168"), looks := false }, kinds := [], alts := [], laidByText := true, laidKinds := [.data, .pinned], laidTests := true, laidLooks := .later }
def FnExactLayerDiffUptoCardSaid : Prop := Claim7.holds Tryd.pinned (.plain (OpenSpec.upto fnExactLayerDiffSpec)) fnExactLayerDiffUptoCard
end Rows
end Go.Proofs.YtnmjidjhloodbaaDoor
