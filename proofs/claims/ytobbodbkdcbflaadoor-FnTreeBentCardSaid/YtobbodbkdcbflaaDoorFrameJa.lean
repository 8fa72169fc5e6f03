/- A closed fact that the rows of this seat share. Conditions: none. -/
import Derived.Test.YtobbodbkdcbflaaDoorFrame
namespace Go.Proofs.YtobbodbkdcbflaaDoor
open Go.ChangeShapes Go.WideShapes Go.ChangeAt Go.RowKit
set_option maxRecDepth 100000 in
theorem j_a : (Rows.fnLayerBentRow.lifted == Tryd.prog.liftsFinal) = true := by kernel_rfl
end Go.Proofs.YtobbodbkdcbflaaDoor
