/- ScriptNil: the row's closed facts, each by itself: the first. -/
import Derived.Test.YtfakpidgkbkhfaaGreatDoorCards
import Derived.Test.YtfakpidgkbkhfaaGreatDoorAmShut
import Derived.KernelRfl
namespace Go.Proofs.YtfakpidgkbkhfaaGreatDoor
set_option maxRecDepth 100000
theorem wf : Rows.scriptNilRow.wf (OpenSpec.ofChange Rows.scriptNilSpec) = true := by kernel_rfl
theorem laidOut : laidOutB Tryz.prog = true := by kernel_rfl
theorem rowed : mapsRowed Tryz.prog = true := by kernel_rfl
theorem readable : Tryz.f3.params.all (Tryz.prog.readableRec ·) = true := by kernel_rfl
theorem namedIs : namedTie Tryz.prog Rows.scriptNilRow.named Rows.scriptNilSpec.vars = true := by kernel_rfl
theorem noStops : ((Rows.scriptNilRow.stops == []) && (Tryz.prog.stops == []) && (Rows.scriptNilRow.knobs == []) && (Tryz.prog.stopKnobs == [])) = true := by kernel_rfl
theorem inPlaceIs : (Rows.scriptNilRow.inPlace == Tryz.prog.inPlace 3) = true := by kernel_rfl
theorem unfollowedIs : (Rows.scriptNilRow.unfollowed == Tryz.prog.unfollowed 3) = true := by kernel_rfl
end Go.Proofs.YtfakpidgkbkhfaaGreatDoor
