import Derived.Test.YtagdejckmpipbaaGreatDoorRows
import Derived.WalkKit
import Derived.ProofKit
import Derived.OpenShut
import Derived.ShutString
import Derived.ChangeOld
import Derived.Below
set_option linter.unusedVariables false
set_option linter.unusedSimpArgs false
set_option maxRecDepth 100000
namespace Go.Proofs.YtagdejckmpipbaaGreatDoor
open Go.RowKit
theorem seatOwn : ownKnob Tryz.prog.godebug = none := by kernel_rfl
theorem seatLaidOut : laidOutB Tryz.prog = true := by kernel_rfl
theorem seatMayEnter : Tryz.prog.mayEnter = true := by kernel_rfl
end Go.Proofs.YtagdejckmpipbaaGreatDoor
