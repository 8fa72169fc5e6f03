/- A closed fact that the rows of this seat share. Conditions: none. -/
import Derived.Test.YtdhbdcmnbhjjaaaGreatDoorFrame
namespace Go.Proofs.YtdhbdcmnbhjjaaaGreatDoor
open Go.ChangeShapes Go.WideShapes Go.ChangeAt Go.RowKit
set_option maxRecDepth 100000 in
theorem j_d : Tryz.prog.mainIs = some (Rows.fnTreeViaCard.stood.harness.1, Rows.fnTreeViaCard.stood.harness.2.toList) := by kernel_rfl
end Go.Proofs.YtdhbdcmnbhjjaaaGreatDoor
