/- The walk of the exact law of the constants. Conditions: none. -/
import Derived.Test.YtilehieonjmlcaaBase
namespace Go.Proofs.Ytilehieonjmlcaa
open Go.RowKit
set_option maxRecDepth 100000 in
set_option maxHeartbeats 1000000 in
theorem exactConstants_w (w : World) : Calls Try.prog 3 #[] w fun e w' => e = .returned (.bool true) ∧ Below w.heap.size w w' := by
  go_enter Try.func3, Try.ntmps3
  go_wp2
  go_ret
  exact ⟨rfl, Below.refl _ _⟩
end Go.Proofs.Ytilehieonjmlcaa
