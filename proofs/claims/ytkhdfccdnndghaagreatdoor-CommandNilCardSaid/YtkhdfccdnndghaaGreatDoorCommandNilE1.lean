/- CommandNil: one of the cases, evaluated by the kernel. -/
import Derived.Test.YtkhdfccdnndghaaGreatDoorCommandNilFacts
namespace Go.Proofs.YtkhdfccdnndghaaGreatDoor
open Go.AM
set_option maxRecDepth 100000
theorem case1 : (callN Tryz.prog (evalDraw Tryz.prog) 10000 100 3 [cmd1] TH.empty).map (fun x => beqV x.1 (.bool true)) = some true := by kernel_rfl
end Go.Proofs.YtkhdfccdnndghaaGreatDoor
