/- What the rows of this seat share: the start at which the library's tables lie as listed. Conditions: none. -/
import Derived.Test.YtobbodbkdcbflabDoorTie
import Derived.Test.YtobbodbkdcbflabDoorCards
import Derived.ProofKit
import Derived.OpenShut
import Derived.LaidMore
import Derived.Lay
import Derived.SevenTiedAt
import Derived.Stop.Joined
namespace Go.Proofs.YtobbodbkdcbflabDoor
open Go.ChangeShapes Go.WideShapes Go.ChangeAt Go.RowKit
theorem own : ownKnob Tryd.prog.godebug = none := by kernel_rfl
def LD : List (String × DataW Unit) := Rows.fnTreeDifferRow.laid
theorem ld_1 (os : Os) (args : Array Value) : ((World.laidAll Tryd.prog os LD).forCall (fun _ _ => 0) ⟨#[], args, []⟩).variablesZipB Tryd.prog = true := by kernel_rfl
theorem ld_2 (os : Os) (args : Array Value) : ((((World.laidAll Tryd.prog os LD).forCall (fun _ _ => 0) ⟨#[], args, []⟩).heap.toList.drop Tryd.prog.globals.size).take ((begin Tryd.prog (fun _ _ => 0) default).world.heap.size - Tryd.prog.globals.size)) =
      (begin Tryd.prog (fun _ _ => 0) default).world.heap.toList.drop Tryd.prog.globals.size := by kernel_rfl
theorem ld_3 (os : Os) : (World.holding Tryd.prog os ⟨#[], #[], []⟩).layFits Tryd.prog LD [] = true := by kernel_rfl
theorem ld_4 (os : Os) : (World.holding Tryd.prog os ⟨#[], #[], []⟩).layIfaces Tryd.prog LD (World.laidAll Tryd.prog os LD) = true := by kernel_rfl
theorem ld_m : (LD.all fun x => x.2.handleName?.isNone) = true := by kernel_rfl
end Go.Proofs.YtobbodbkdcbflabDoor
