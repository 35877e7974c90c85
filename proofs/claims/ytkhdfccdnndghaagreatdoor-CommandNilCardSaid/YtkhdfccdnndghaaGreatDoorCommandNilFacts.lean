/- CommandNil: closed facts of the program that the evaluator asks for. -/
import Derived.Test.YtkhdfccdnndghaaGreatDoorAmCmd
import Derived.Test.YtkhdfccdnndghaaGreatDoorProg
import Derived.KernelRfl
namespace Go.Proofs.YtkhdfccdnndghaaGreatDoor
open Go.AM
set_option maxRecDepth 100000
theorem noCount : NoCount Tryz.prog := noCount_of (by kernel_rfl)
theorem mixed : Tryz.prog.follows .mixedOrders = true := by kernel_rfl
end Go.Proofs.YtkhdfccdnndghaaGreatDoor
