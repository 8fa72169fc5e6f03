/- What the rows over lists share: a closed fact. Conditions: none. -/
import Derived.Test.YtdhbdcmnbhjjaaaGreatDoorFrame
namespace Go.Proofs.YtdhbdcmnbhjjaaaGreatDoor
open Go.ChangeShapes Go.WideShapes Go.ChangeAt Go.RowKit
theorem laidOut : laidOutB Tryz.prog = true := by kernel_rfl
end Go.Proofs.YtdhbdcmnbhjjaaaGreatDoor
