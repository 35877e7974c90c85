/- CommandNil: the row's closed facts, each by itself: the others. -/
import Derived.Test.YtkhdfccdnndghaaGreatDoorCards
import Derived.Test.YtkhdfccdnndghaaGreatDoorAmShut
import Derived.KernelRfl
namespace Go.Proofs.YtkhdfccdnndghaaGreatDoor
set_option maxRecDepth 100000
theorem recursesIs : (Rows.commandNilRow.recurses == Tryz.prog.recurses 3) = true := by kernel_rfl
theorem varsIs : (Rows.commandNilRow.named == Tryz.prog.varsNamed 3) = true := by kernel_rfl
theorem plainIs : (Rows.commandNilRow.plainKeys == Tryz.prog.plainKeys) = true := by kernel_rfl
theorem heard : Tryz.prog.stopsHeard = true := by kernel_rfl
theorem enters : Tryz.prog.mayEnter = true := by kernel_rfl
theorem liftsIs : (Rows.commandNilRow.lifted == Tryz.prog.liftsFinal) = true := by kernel_rfl
theorem makeIs : (Tryz.prog.make == some Rows.commandNilRow.make) = true := by kernel_rfl
theorem named : Tryz.prog.funcNamed "ogham/oghamlaw24.CommandNil" = some 3 := by kernel_rfl
theorem whole : Tryz.f3.isInstance Tryz.prog Rows.commandNilRow.origin Rows.commandNilRow.targs := of_decide_eq_true (by kernel_rfl)
theorem looksOn : Rows.commandNilCard.stood.looks = Tryz.prog.looks [] := by kernel_rfl
theorem mainIs : Tryz.prog.mainIs = some (Rows.commandNilCard.stood.harness.1, Rows.commandNilCard.stood.harness.2.toList) := by kernel_rfl
theorem noGoes : false = Rows.commandNilRow.goesBy Tryz.prog := AM.noGoes_of (by kernel_rfl) rfl
theorem wfText : Rows.commandNilRow.wfByText (OpenSpec.ofChange Rows.commandNilSpec) = true := by kernel_rfl
end Go.Proofs.YtkhdfccdnndghaaGreatDoor
