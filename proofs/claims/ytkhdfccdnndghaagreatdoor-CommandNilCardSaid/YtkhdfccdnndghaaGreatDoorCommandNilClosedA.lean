/- CommandNil: the row's closed facts, each by itself: the first. -/
import Derived.Test.YtkhdfccdnndghaaGreatDoorCards
import Derived.Test.YtkhdfccdnndghaaGreatDoorAmShut
import Derived.KernelRfl
namespace Go.Proofs.YtkhdfccdnndghaaGreatDoor
set_option maxRecDepth 100000
theorem wf : Rows.commandNilRow.wf (OpenSpec.ofChange Rows.commandNilSpec) = true := by kernel_rfl
theorem laidOut : laidOutB Tryz.prog = true := by kernel_rfl
theorem rowed : mapsRowed Tryz.prog = true := by kernel_rfl
theorem readable : Tryz.f3.params.all (Tryz.prog.readableRec ·) = true := by kernel_rfl
theorem namedIs : namedTie Tryz.prog Rows.commandNilRow.named Rows.commandNilSpec.vars = true := by kernel_rfl
theorem noStops : ((Rows.commandNilRow.stops == []) && (Tryz.prog.stops == []) && (Rows.commandNilRow.knobs == []) && (Tryz.prog.stopKnobs == [])) = true := by kernel_rfl
theorem inPlaceIs : (Rows.commandNilRow.inPlace == Tryz.prog.inPlace 3) = true := by kernel_rfl
theorem unfollowedIs : (Rows.commandNilRow.unfollowed == Tryz.prog.unfollowed 3) = true := by kernel_rfl
end Go.Proofs.YtkhdfccdnndghaaGreatDoor
