/- A row's closed facts, one by one; a world in which tables lie as they are said to. -/
import GoSem.ClaimGoes
import Derived.JoinedOf
namespace Go.AM

/-! ### No goroutine is started -/

theorem noGoes_of {P : Program} {c : OpenClaim} (h : P.funcs.any Func.goes = false) (hs : c.start = .entering) : false = c.goesBy P := by
  have all : ∀ (g : FuncId) (fn : Func), P.funcs[g]? = some fn → fn.goes = false := by
    intro g fn hg
    have := Array.any_eq_false.1 h g (Array.getElem?_eq_some_iff.1 hg).1
    rw [(Array.getElem?_eq_some_iff.1 hg).2] at this
    simpa using this
  have none : ∀ f, P.goes f = false := by
    intro f
    unfold Program.goes
    rw [h, Bool.and_false, Bool.or_false, List.any_eq_false]
    intro g _
    cases hg : P.funcs[g]? with
    | none => simp
    | some fn => simp [all g fn hg]
  unfold OpenClaim.goesBy Program.goesAt Program.goesFrom
  rw [hs]
  cases P.funcNamed c.func with
  | none => rfl
  | some f => simp [none f]

/-! ### A row's closed facts, one by one -/

theorem joined_of {P : Program} {f : FuncId} {fn : Func} {s : ChangeSpec} {c : OpenClaim}
    (k1 : c.wf (OpenSpec.ofChange s) = true) (k2 : laidOutB P = true) (k3 : mapsRowed P = true) (k4 : fn.params.all (P.readableRec ·) = true) (k5 : namedTie P c.named s.vars = true)
    (k6 : ((c.stops == []) && (P.stops == []) && (c.knobs == []) && (P.stopKnobs == [])) = true)
    (k10 : (c.inPlace == P.inPlace f) = true) (k11 : (c.unfollowed == P.unfollowed f) = true) (k12 : (c.recurses == P.recurses f) = true) (k13 : (c.named == P.varsNamed f) = true)
    (k14 : ((c.maps == (fn.params.toList ++ s.plain.varTypes P).any (P.mapsRec ·)) && (c.ifaces == (fn.params.toList ++ s.plain.varTypes P).any (P.ifacesRec ·)) && (c.mapsOut == P.mapsAmong fn.resultTypes.toList)) = true)
    (k15 : ((c.loops == (fn.params.toList ++ s.plain.varTypes P).any (P.loopsFrom ·)) && (c.wideKeys == (fn.params.toList ++ s.plain.varTypes P ++ fn.resultTypes.toList).any (P.wideKeysFrom ·))) = true)
    (k16 : (s.vars.all (P.varReadable ·) && fn.resultTypes.all (fun t => P.readableRec t && decide (t < P.types.size)) && (c.ifacesOut == fn.resultTypes.toList.any (P.ifacesRec ·)) && (c.loopsOut == fn.resultTypes.toList.any (P.loopsFrom ·))) = true)
    (k17 : (c.plainKeys == P.plainKeys) = true) (k18 : c.shortTexts.isNone = true) (k19 : P.stopsHeard = true) (k20 : P.mayEnter = true) (k21 : (c.lifted == P.liftsFinal) = true) (k22 : (P.make == some c.make) = true)
    (k23 : (c.kinds == (if c.domain.isEmpty then [] else fn.params.toList.map fun t => match P.underlying t with | some (.int k) => some k | _ => none)) = true) (k24 : (c.pinned == c.pinnedBy) = true)
    (k25 : (c.veiled == (fn.params.toList ++ s.plain.varTypes P ++ fn.resultTypes.toList).any (P.veiledRec ·)) = true) (k26 : c.veiledFits P fn.params.toList (fn.params.toList ++ s.plain.varTypes P ++ fn.resultTypes.toList) = true) :
    joinedFacts P f fn s c = true := by
  rw [Bool.and_eq_true, Bool.and_eq_true, Bool.and_eq_true] at k6
  rw [Bool.and_eq_true, Bool.and_eq_true] at k14
  rw [Bool.and_eq_true] at k15
  rw [Bool.and_eq_true, Bool.and_eq_true, Bool.and_eq_true] at k16
  unfold joinedFacts
  simp only [k1, k2, k3, k4, k5, k6.1.1.1, k6.1.1.2, k6.1.2, k6.2, k10, k11, k12, k13, k14.1.1, k14.1.2, k14.2, k15.1, k15.2, k16.1.1.1, k16.1.1.2, k16.1.2, k16.2, k17, k18, k19, k20, k21, k22, k24, k25, k26, Bool.true_and, Bool.and_true]
  exact k23

/-! ### A world to begin in -/

mutual
/-- A table's cells. -/
def cellsD : DataW Unit → List Value
  | .lit (.bool b) => [.bool b]
  | .lit (.int k n) => [.int k n]
  | .lit (.string s) => [.string ⟨s.toArray⟩]
  | .agg ds => cellsDs ds
  | _ => []
def cellsDs : List (DataW Unit) → List Value
  | [] => []
  | d :: ds => cellsD d ++ cellsDs ds
end

def setVar (g : Nat) (cs : List Value) (w : World) : World :=
  { w with heap := w.heap.modify g fun
      | .cells _ t fz => .cells cs.toArray t fz
      | o => o }

end Go.AM
