/- ScriptNil: the contract: whatever the arguments, true; and a world that holds what the row lists. -/
import Derived.Test.YtfakpidgkbkhfaaGreatDoorRows
import Derived.ProofKit
import Derived.Deep.DeepHandedRow
import Derived.Deep.DeepWitnessRowRef
import Derived.Test.YtfakpidgkbkhfaaGreatDoorAmShut
import Derived.Test.YtfakpidgkbkhfaaGreatDoorScriptNilE0
import Derived.Test.YtfakpidgkbkhfaaGreatDoorScriptNilE1
import Derived.Test.YtfakpidgkbkhfaaGreatDoorScriptNilE2
import Derived.Test.YtfakpidgkbkhfaaGreatDoorScriptNilE3
import Derived.Test.YtfakpidgkbkhfaaGreatDoorScriptNilE4
import Derived.Test.YtfakpidgkbkhfaaGreatDoorScriptNilE5
namespace Go.Proofs.YtfakpidgkbkhfaaGreatDoor
open Go.AM Go.ChangeShapes Go.WideShapes Go.ChangeAt Go.RowKit
set_option maxRecDepth 100000
theorem calls : ∀ a ∈ cmdCases, ∀ (c : Cx) (w : World) (v : Value), (RepV c nothing w (.slR 0 (some 4000)) v ∨ RepV c nothing w (.slR 4001 none) v) → ∃ b H', RepV c nothing w b v ∧ CallOK Tryz.prog 3 [a, b] nothing (.bool true) H' := by
  intro a ha c w v hv
  have hany : RepV c nothing w (.slR 0 none) v := by
    rcases hv with hv | hv <;> exact hv.weak
  simp only [cmdCases, List.mem_cons, List.mem_nil_iff, or_false] at ha
  rcases ha with rfl | rfl | rfl | rfl | rfl
  · obtain ⟨H', h⟩ := callOK_of_eval noCount mixed case0
    exact ⟨_, H', hany, h⟩
  · obtain ⟨H', h⟩ := callOK_of_eval noCount mixed case1
    exact ⟨_, H', hany, h⟩
  · obtain ⟨H', h⟩ := callOK_of_eval noCount mixed case2
    exact ⟨_, H', hany, h⟩
  · obtain ⟨H', h⟩ := callOK_of_eval noCount mixed case3
    exact ⟨_, H', hany, h⟩
  · rcases hv with hv | hv
    · obtain ⟨H', h⟩ := callOK_of_eval noCount mixed case4
      exact ⟨_, H', hv, h⟩
    · obtain ⟨H', h⟩ := callOK_of_eval noCount mixed case5
      exact ⟨_, H', hv, h⟩

theorem cmdType : Tryz.prog.cellTypes Tryz.prog.depth 24 = some [3, 9, 9, 3, 3, 9, 22, 3, 3] := by kernel_rfl
theorem cmdCells : Tryz.prog.cellsOf 24 = 9 := by kernel_rfl
theorem fits : typesFit Tryz.prog Tryz.f3.params.toList = true := by kernel_rfl

theorem contract (H : Type) (enc : TypeId × Value → H) (W : World) (base : Nat) (args : Array Value) (ds gs : List (DataW H)) (before : List MemPlace)
    (hval : ∀ (j : Nat) t v, Tryz.f3.params[j]? = some t → args[j]? = some v → Value.okWide Tryz.prog W .any base t v)
    (hW : DataW.Whole enc Tryz.prog Tryz.f3.params.toList Rows.scriptNilSpec.vars false W args.toList ds gs before) :
    Calls Tryz.prog 3 args W fun e W' => ∃ v, e = .returned v ∧ Rows.scriptNilSpec.post enc Tryz.prog Tryz.f3 false true false false W args v W' := by
  have hW' := hW
  obtain ⟨p, q, hA0, hV, rfl, hfz, hnd⟩ := hW
  have hA : DataW.TrodAll enc Tryz.prog W 0 (fun _ => true) true Tryz.f3.params.toList args.toList ds p := hA0
  rw [Tryz.params3] at hA hval
  obtain ⟨v0, vs0, d0, ds0, p0, q0, hargs, rfl, rfl, h0, r0⟩ := trodAll_cons hA
  obtain ⟨v1, vs1, d1, ds1, p1, q1, rfl, rfl, rfl, h1, r1⟩ := trodAll_cons r0
  obtain ⟨rfl, rfl, rfl⟩ := trodAll_nil r1
  obtain rfl : args = #[v0, v1] := by cases args; simp_all
  obtain ⟨rfl, rfl⟩ := trodVars_none hV
  obtain ⟨a, ha, hr⟩ := cmd_cases (hval 0 24 v0 rfl rfl) Tryz.underlying24 cmdType cmdCells Tryz.underlying3 Tryz.underlying9 Tryz.underlying22 (startCx W) nothing
  obtain ⟨b, H', hb, hc⟩ := calls a ha (startCx W) W v1 (slice_cases (hval 1 22 v1 rfl rfl) Tryz.underlying22 4000 (startCx W) nothing)
  exact contract_true hc ⟨v0, [v1], rfl, hr, v1, [], rfl, hb, rfl⟩ fits rfl (by kernel_rfl) Tryz.underlying4 hW' rfl

/-- A world in which the listed variables lie as they are said to. -/
noncomputable def low : Nat := (World.holding Tryz.prog default ⟨#[], #[], []⟩).heap.size
noncomputable def laidWorld (os : Os) : World :=
  setVar 1 (cellsD Rows.laid_unicode_utf8_first) (setVar 3 [.iface 519 (.pointer (some ⟨low + 1, 0, none⟩))] (setVar 4 [.iface 519 (.pointer (some ⟨low, 0, none⟩))] (setVar 2 (cellsD Rows.laid_unicode_utf8_acceptRanges) (setVar 0 (cellsD Rows.laid_internal_strconv_uint64pow10) (setVar 6 (cellsD Rows.laid_math_bits_deBruijn64tab) (setVar 5 (cellsD Rows.laid_math_bits_deBruijn32tab) (World.holding Tryz.prog os ⟨#[.cells #[.string ⟨#[118, 97, 108, 117, 101, 32, 111, 117, 116, 32, 111, 102, 32, 114, 97, 110, 103, 101]⟩] 521, .cells #[.string ⟨#[105, 110, 118, 97, 108, 105, 100, 32, 115, 121, 110, 116, 97, 120]⟩] 521], #[], []⟩)))))))
def someArgs : Array Value := #[.agg #[.int .i64 0, .string ⟨#[]⟩, .string ⟨#[]⟩, .int .i64 0, .int .i64 0, .string ⟨#[]⟩, .slice none 0 0, .int .i64 0, .int .i64 0], .slice none 0 0]
theorem laid_met (os : Os) : laidMet Tryz.prog Rows.scriptNilRow.laid ((laidWorld os).forCall (fun _ _ => 0) ⟨#[], someArgs, []⟩).memory :=
  laidMet_of_run' 8 (by kernel_rfl) (by kernel_rfl)
theorem reads (os : Os) (H : Type) (enc : TypeId × Value → H) : ∃ places, DataW.whole enc Tryz.prog ((laidWorld os).forCall (fun _ _ => 0) ⟨#[], someArgs, []⟩).memory Tryz.f3.params.toList Rows.scriptNilSpec.vars false someArgs.toList 8 = some ([.agg [.lit (.int .i64 0), .lit (.string []), .lit (.string []), .lit (.int .i64 0), .lit (.int .i64 0), .lit (.string []), .nil, .lit (.int .i64 0), .lit (.int .i64 0)], .nil], [], places) :=
  ⟨[], by kernel_rfl⟩
end Go.Proofs.YtfakpidgkbkhfaaGreatDoor
