/- ScriptNil: closed facts of the program that the evaluator asks for. -/
import Derived.Test.YtfakpidgkbkhfaaGreatDoorAmCmd
import Derived.Test.YtfakpidgkbkhfaaGreatDoorProg
import Derived.KernelRfl
namespace Go.Proofs.YtfakpidgkbkhfaaGreatDoor
open Go.AM
set_option maxRecDepth 100000
theorem noCount : NoCount Tryz.prog := noCount_of (by kernel_rfl)
theorem mixed : Tryz.prog.follows .mixedOrders = true := by kernel_rfl
end Go.Proofs.YtfakpidgkbkhfaaGreatDoor
