/- ScriptNil: one of the cases, evaluated by the kernel. -/
import Derived.Test.YtfakpidgkbkhfaaGreatDoorScriptNilFacts
namespace Go.Proofs.YtfakpidgkbkhfaaGreatDoor
open Go.AM
set_option maxRecDepth 100000
theorem case2 : (callN Tryz.prog (evalDraw Tryz.prog) 10000 100 3 [cmd2, .slR 0 none] TH.empty).map (fun x => beqV x.1 (.bool true)) = some true := by kernel_rfl
end Go.Proofs.YtfakpidgkbkhfaaGreatDoor
