/-
  DERIVED. GIVEN WITH THE SEED: THE CARDS: each row of YtobbodbkdcbflaaDoorRows.lean that lists a variable, with what it lists TIED to the program's text (the seventh form; the later family's looks); each row that meets fmt, with fmt's text TOLD by the authors' own Lean function (tested against real Go, not proved from fmt's source: count such statements apart). THE CARD IS WHAT COUNTS. Prove the row's statement (the work); the ties are given (YtobbodbkdcbflaaDoorTie.lean); close each card by the builder's one call (the guide's Derived/Test/ToyasCard.lean, 'card_holds'). Laid BY PROGRAM, IN A SANDBOX (cutbox-door.mjs). By AI agents, Wed Nov 11 2026. No macro, syntax, notation, axiom, sorry.
-/
import Derived.Test.YtobbodbkdcbflaaDoorRows
import GoSem.ClaimSeven
namespace Go.Proofs.YtobbodbkdcbflaaDoor
namespace Rows

/-- THE TIED CARD OF 'laws.FnLayerBent'. -/
def fnLayerBentCard : Claim7 := { stood := { row := fnLayerBentRow, standIns := [], harness := (true, "bc15bcb0c67d738a41b79257505a47d478e03b4f490ab999a8aa050166dbc93d"), looks := false }, kinds := [], alts := [], laidByText := true, laidKinds := [.data, .pinned], laidTests := true, laidLooks := .later }
def FnLayerBentCardSaid : Prop := Claim7.holds Tryd.pinned (.plain (OpenSpec.ofChange fnLayerBentSpec)) fnLayerBentCard

/-- THE TIED CARD OF 'laws.FnLayerHides'. -/
def fnLayerHidesCard : Claim7 := { stood := { row := fnLayerHidesRow, standIns := [], harness := (true, "bc15bcb0c67d738a41b79257505a47d478e03b4f490ab999a8aa050166dbc93d"), looks := false }, kinds := [], alts := [], laidByText := true, laidKinds := [.data, .pinned], laidTests := true, laidLooks := .later }
def FnLayerHidesCardSaid : Prop := Claim7.holds Tryd.pinned (.plain (OpenSpec.ofChange fnLayerHidesSpec)) fnLayerHidesCard

/-- THE TIED CARD OF 'laws.FnTreeGet'. -/
def fnTreeGetCard : Claim7 := { stood := { row := fnTreeGetRow, standIns := [], harness := (true, "bc15bcb0c67d738a41b79257505a47d478e03b4f490ab999a8aa050166dbc93d"), looks := false }, kinds := [], alts := [], laidByText := true, laidKinds := [.data, .pinned], laidTests := true, laidLooks := .later }
def FnTreeGetCardSaid : Prop := Claim7.holds Tryd.pinned (.plain (OpenSpec.ofChange fnTreeGetSpec)) fnTreeGetCard

/-- THE TIED CARD OF 'laws.FnTreeBent'. -/
def fnTreeBentCard : Claim7 := { stood := { row := fnTreeBentRow, standIns := [], harness := (true, "bc15bcb0c67d738a41b79257505a47d478e03b4f490ab999a8aa050166dbc93d"), looks := false }, kinds := [], alts := [], laidByText := true, laidKinds := [.data, .pinned], laidTests := true, laidLooks := .later }
def FnTreeBentCardSaid : Prop := Claim7.holds Tryd.pinned (.plain (OpenSpec.ofChange fnTreeBentSpec)) fnTreeBentCard

/-- THE TIED CARD OF 'laws.FnTreeUps'. -/
def fnTreeUpsCard : Claim7 := { stood := { row := fnTreeUpsRow, standIns := [], harness := (true, "bc15bcb0c67d738a41b79257505a47d478e03b4f490ab999a8aa050166dbc93d"), looks := false }, kinds := [], alts := [], laidByText := true, laidKinds := [.data, .pinned], laidTests := true, laidLooks := .later }
def FnTreeUpsCardSaid : Prop := Claim7.holds Tryd.pinned (.plain (OpenSpec.ofChange fnTreeUpsSpec)) fnTreeUpsCard

/-- THE TIED CARD OF 'laws.FnTreeList'. -/
def fnTreeListCard : Claim7 := { stood := { row := fnTreeListRow, standIns := [], harness := (true, "bc15bcb0c67d738a41b79257505a47d478e03b4f490ab999a8aa050166dbc93d"), looks := false }, kinds := [], alts := [], laidByText := true, laidKinds := [.data, .pinned], laidTests := true, laidLooks := .later }
def FnTreeListCardSaid : Prop := Claim7.holds Tryd.pinned (.plain (OpenSpec.ofChange fnTreeListSpec)) fnTreeListCard

/-- THE SECOND FORM's CARD OF 'laws.FnLayerBent'. -/
def fnLayerBentUptoCard : Claim7 := { stood := { row := fnLayerBentUptoRow, standIns := [], harness := (true, "bc15bcb0c67d738a41b79257505a47d478e03b4f490ab999a8aa050166dbc93d"), looks := false }, kinds := [], alts := [], laidByText := true, laidKinds := [.data, .pinned], laidTests := true, laidLooks := .later }
def FnLayerBentUptoCardSaid : Prop := Claim7.holds Tryd.pinned (.plain (OpenSpec.upto fnLayerBentSpec)) fnLayerBentUptoCard

/-- THE SECOND FORM's CARD OF 'laws.FnLayerHides'. -/
def fnLayerHidesUptoCard : Claim7 := { stood := { row := fnLayerHidesUptoRow, standIns := [], harness := (true, "bc15bcb0c67d738a41b79257505a47d478e03b4f490ab999a8aa050166dbc93d"), looks := false }, kinds := [], alts := [], laidByText := true, laidKinds := [.data, .pinned], laidTests := true, laidLooks := .later }
def FnLayerHidesUptoCardSaid : Prop := Claim7.holds Tryd.pinned (.plain (OpenSpec.upto fnLayerHidesSpec)) fnLayerHidesUptoCard

/-- THE SECOND FORM's CARD OF 'laws.FnTreeGet'. -/
def fnTreeGetUptoCard : Claim7 := { stood := { row := fnTreeGetUptoRow, standIns := [], harness := (true, "bc15bcb0c67d738a41b79257505a47d478e03b4f490ab999a8aa050166dbc93d"), looks := false }, kinds := [], alts := [], laidByText := true, laidKinds := [.data, .pinned], laidTests := true, laidLooks := .later }
def FnTreeGetUptoCardSaid : Prop := Claim7.holds Tryd.pinned (.plain (OpenSpec.upto fnTreeGetSpec)) fnTreeGetUptoCard

/-- THE SECOND FORM's CARD OF 'laws.FnTreeBent'. -/
def fnTreeBentUptoCard : Claim7 := { stood := { row := fnTreeBentUptoRow, standIns := [], harness := (true, "bc15bcb0c67d738a41b79257505a47d478e03b4f490ab999a8aa050166dbc93d"), looks := false }, kinds := [], alts := [], laidByText := true, laidKinds := [.data, .pinned], laidTests := true, laidLooks := .later }
def FnTreeBentUptoCardSaid : Prop := Claim7.holds Tryd.pinned (.plain (OpenSpec.upto fnTreeBentSpec)) fnTreeBentUptoCard

/-- THE SECOND FORM's CARD OF 'laws.FnTreeUps'. -/
def fnTreeUpsUptoCard : Claim7 := { stood := { row := fnTreeUpsUptoRow, standIns := [], harness := (true, "bc15bcb0c67d738a41b79257505a47d478e03b4f490ab999a8aa050166dbc93d"), looks := false }, kinds := [], alts := [], laidByText := true, laidKinds := [.data, .pinned], laidTests := true, laidLooks := .later }
def FnTreeUpsUptoCardSaid : Prop := Claim7.holds Tryd.pinned (.plain (OpenSpec.upto fnTreeUpsSpec)) fnTreeUpsUptoCard

/-- THE SECOND FORM's CARD OF 'laws.FnTreeList'. -/
def fnTreeListUptoCard : Claim7 := { stood := { row := fnTreeListUptoRow, standIns := [], harness := (true, "bc15bcb0c67d738a41b79257505a47d478e03b4f490ab999a8aa050166dbc93d"), looks := false }, kinds := [], alts := [], laidByText := true, laidKinds := [.data, .pinned], laidTests := true, laidLooks := .later }
def FnTreeListUptoCardSaid : Prop := Claim7.holds Tryd.pinned (.plain (OpenSpec.upto fnTreeListSpec)) fnTreeListUptoCard
end Rows
end Go.Proofs.YtobbodbkdcbflaaDoor
