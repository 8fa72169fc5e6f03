/- What the rows of this seat share: the start at which the library's tables lie as listed. Conditions: none. -/
import Derived.Test.YtdhbdcmnbhjjaaaGreatDoorTie
import Derived.Test.YtdhbdcmnbhjjaaaGreatDoorCards
import Derived.ProofKit
import Derived.OpenShut
import Derived.LaidMore
import Derived.Lay
import Derived.SevenTiedAt
import Derived.Stop.Joined
namespace Go.Proofs.YtdhbdcmnbhjjaaaGreatDoor
open Go.ChangeShapes Go.WideShapes Go.ChangeAt Go.RowKit
theorem own : ownKnob Tryz.prog.godebug = none := by kernel_rfl
def LD : List (String × DataW Unit) := Rows.fnTreeViaRow.laid
theorem ld_1 (os : Os) (args : Array Value) : ((World.laidAll Tryz.prog os LD).forCall (fun _ _ => 0) ⟨#[], args, []⟩).variablesZipB Tryz.prog = true := by kernel_rfl
theorem ld_2 (os : Os) (args : Array Value) : ((((World.laidAll Tryz.prog os LD).forCall (fun _ _ => 0) ⟨#[], args, []⟩).heap.toList.drop Tryz.prog.globals.size).take ((begin Tryz.prog (fun _ _ => 0) default).world.heap.size - Tryz.prog.globals.size)) =
      (begin Tryz.prog (fun _ _ => 0) default).world.heap.toList.drop Tryz.prog.globals.size := by kernel_rfl
theorem ld_3 (os : Os) : (World.holding Tryz.prog os ⟨#[], #[], []⟩).layFits Tryz.prog LD [] = true := by kernel_rfl
theorem ld_4 (os : Os) : (World.holding Tryz.prog os ⟨#[], #[], []⟩).layIfaces Tryz.prog LD (World.laidAll Tryz.prog os LD) = true := by kernel_rfl
theorem ld_m : (LD.all fun x => x.2.handleName?.isNone) = true := by kernel_rfl
end Go.Proofs.YtdhbdcmnbhjjaaaGreatDoor
