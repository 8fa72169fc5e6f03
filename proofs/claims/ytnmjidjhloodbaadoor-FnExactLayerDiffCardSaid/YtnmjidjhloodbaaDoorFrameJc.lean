/- A closed fact that the rows of this seat share. Conditions: none. -/
import Derived.Test.YtnmjidjhloodbaaDoorFrame
namespace Go.Proofs.YtnmjidjhloodbaaDoor
open Go.ChangeShapes Go.WideShapes Go.ChangeAt Go.RowKit
set_option maxRecDepth 100000 in
theorem j_c : (Tryd.prog.make == some Rows.fnExactLayerJoinRow.make) = true := by kernel_rfl
end Go.Proofs.YtnmjidjhloodbaaDoor
