/- A closed fact that the rows of this seat share. Conditions: none. -/
import Derived.Test.YtobbodbkdcbflabDoorFrame
namespace Go.Proofs.YtobbodbkdcbflabDoor
open Go.ChangeShapes Go.WideShapes Go.ChangeAt Go.RowKit
set_option maxRecDepth 100000 in
theorem j_d : Tryd.prog.mainIs = some (Rows.fnTreeDifferCard.stood.harness.1, Rows.fnTreeDifferCard.stood.harness.2.toList) := by kernel_rfl
end Go.Proofs.YtobbodbkdcbflabDoor
