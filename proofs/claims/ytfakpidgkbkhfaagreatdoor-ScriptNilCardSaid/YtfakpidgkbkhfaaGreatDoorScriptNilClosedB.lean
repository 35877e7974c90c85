/- ScriptNil: the row's closed facts, each by itself: the others. -/
import Derived.Test.YtfakpidgkbkhfaaGreatDoorCards
import Derived.Test.YtfakpidgkbkhfaaGreatDoorAmShut
import Derived.KernelRfl
namespace Go.Proofs.YtfakpidgkbkhfaaGreatDoor
set_option maxRecDepth 100000
theorem recursesIs : (Rows.scriptNilRow.recurses == Tryz.prog.recurses 3) = true := by kernel_rfl
theorem varsIs : (Rows.scriptNilRow.named == Tryz.prog.varsNamed 3) = true := by kernel_rfl
theorem plainIs : (Rows.scriptNilRow.plainKeys == Tryz.prog.plainKeys) = true := by kernel_rfl
theorem heard : Tryz.prog.stopsHeard = true := by kernel_rfl
theorem enters : Tryz.prog.mayEnter = true := by kernel_rfl
theorem liftsIs : (Rows.scriptNilRow.lifted == Tryz.prog.liftsFinal) = true := by kernel_rfl
theorem makeIs : (Tryz.prog.make == some Rows.scriptNilRow.make) = true := by kernel_rfl
theorem named : Tryz.prog.funcNamed "ogham/oghamlaw26.ScriptNil" = some 3 := by kernel_rfl
theorem whole : Tryz.f3.isInstance Tryz.prog Rows.scriptNilRow.origin Rows.scriptNilRow.targs := of_decide_eq_true (by kernel_rfl)
theorem looksOn : Rows.scriptNilCard.stood.looks = Tryz.prog.looks [] := by kernel_rfl
theorem mainIs : Tryz.prog.mainIs = some (Rows.scriptNilCard.stood.harness.1, Rows.scriptNilCard.stood.harness.2.toList) := by kernel_rfl
theorem noGoes : false = Rows.scriptNilRow.goesBy Tryz.prog := AM.noGoes_of (by kernel_rfl) rfl
theorem wfText : Rows.scriptNilRow.wfByText (OpenSpec.ofChange Rows.scriptNilSpec) = true := by kernel_rfl
end Go.Proofs.YtfakpidgkbkhfaaGreatDoor
