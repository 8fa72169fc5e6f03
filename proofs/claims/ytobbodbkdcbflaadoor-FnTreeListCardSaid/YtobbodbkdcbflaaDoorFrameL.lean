/- What the rows over lists share: a closed fact. Conditions: none. -/
import Derived.Test.YtobbodbkdcbflaaDoorFrame
namespace Go.Proofs.YtobbodbkdcbflaaDoor
open Go.ChangeShapes Go.WideShapes Go.ChangeAt Go.RowKit
theorem laidOut : laidOutB Tryd.prog = true := by kernel_rfl
end Go.Proofs.YtobbodbkdcbflaaDoor
