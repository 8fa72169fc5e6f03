/- A closed fact that the rows of this seat share. Conditions: none. -/
import Derived.Test.YtobbodbkdcbflabDoorFrame
namespace Go.Proofs.YtobbodbkdcbflabDoor
open Go.ChangeShapes Go.WideShapes Go.ChangeAt Go.RowKit
set_option maxRecDepth 100000 in
theorem j_b : Tryd.prog.mayEnter = true := by kernel_rfl
end Go.Proofs.YtobbodbkdcbflabDoor
