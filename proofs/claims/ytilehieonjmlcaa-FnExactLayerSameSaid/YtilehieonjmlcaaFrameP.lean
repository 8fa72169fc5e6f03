/- What the rows of a plain seat share. Conditions: none. -/
import Derived.Test.YtilehieonjmlcaaRows
import Derived.ProofKit
import Derived.OpenShut
namespace Go.Proofs.Ytilehieonjmlcaa
open Go.ChangeShapes Go.WideShapes Go.ChangeAt Go.RowKit
theorem own : ownKnob Try.prog.godebug = none := by kernel_rfl
theorem laidOut : laidOutB Try.prog = true := by kernel_rfl
end Go.Proofs.Ytilehieonjmlcaa
