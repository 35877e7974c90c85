/- The abstract machine: operations that only compute or read. -/
import Derived.Test.YtfakpidgkbkhfaaGreatDoorAmMem
import Derived.Laws.Entries
import Derived.Laws.Slices
namespace Go.AM

/-- A constant's value. -/
def ofConst1 : Value → AV
  | .bool b => .bool b
  | .int k n => .int k n
  | .string s => .str s.data.toList
  | .pointer none => .nilptr
  | .slice none 0 0 => .nilsl
  | .nilFunc => .nilfn
  | .nilIface => .nilif
  | _ => .undef

def ofConst : Value → AV
  | .agg cs => .agg (cs.toList.map ofConst1)
  | .tuple vs => .tup (vs.toList.map ofConst1)
  | v => ofConst1 v

theorem ofConst1_rep (c : Cx) (H : Heap) (w : World) (v : Value) : RepV c H w (ofConst1 v) v := by
  unfold ofConst1; split <;> simp [RepV]

theorem ofConst_list (c : Cx) (H : Heap) (w : World) (vs : List Value) : RepL c H w (vs.map ofConst1) vs := by
  induction vs with
  | nil => simp [RepL]
  | cons v vs ih => exact ⟨v, vs, rfl, ofConst1_rep c H w v, ih⟩

theorem ofConst_rep (c : Cx) (H : Heap) (w : World) (v : Value) : RepV c H w (ofConst v) v := by
  unfold ofConst
  split
  · rename_i cs; exact ⟨cs.toList, by simp, ofConst_list c H w _⟩
  · rename_i vs; exact ⟨vs.toList, by simp, ofConst_list c H w _⟩
  · exact ofConst1_rep c H w v

def evalA (T : List AV) : Operand → AV
  | .tmp t => T.getD t .undef
  | .const v => ofConst v
  | .global _ => .undef
  | .func f => .fn f []

theorem evalA_rep {c : Cx} {H : Heap} {w : World} {T : List AV} {a : Act} (h : RepT c H w T a.tmps) (x : Operand) : RepV c H w (evalA T x) (a.eval x) := by
  cases x with
  | tmp t => exact h.at' t
  | const v => exact ofConst_rep c H w v
  | global g => trivial
  | func f => exact ⟨[], rfl, rfl⟩

/-- An operation that changes nothing. -/
theorem OpOK.pure {P : Program} {o : Oper} {T : List AV} {H : Heap} {r : AV}
    (h : ∀ (c : Cx) (w : World) (a : Act), RepH c H w → RepT c H w T a.tmps → ∃ v, (execOp a.eval o).run P w = .ok (.value v) w ∧ RepV c H w r v) :
    OpOK P o T H r H := by
  intro c w a hH hT next Q hn _ _
  obtain ⟨v, hr, hv⟩ := h c w a hH hT
  refine .inl ?_
  rw [Oper.wp, hr]
  exact hn v c w hH hv (Grow.refl c H w)

def isAggT (P : Program) (t : TypeId) : Option Bool :=
  match P.underlying t with
  | some (.struct _) | some (.array _ _) => some true
  | some _ => some false
  | none => none

def sizeT (P : Program) (t : TypeId) : Option Nat := (P.info? t).map (·.size)

theorem run_isAggT {P : Program} {t : TypeId} {b : Bool} (h : isAggT P t = some b) (w : World) : (isAgg t).run P w = .ok b w := by
  unfold isAggT at h
  unfold isAgg
  split at h
  · rename_i hu; cases h; simp [run_underlying hu]
  · rename_i hu; cases h; simp [run_underlying hu]
  · rename_i d h1 h2 hu
    cases h
    simp only [Sem.run_bind, run_underlying hu, Result.andThen_ok]
    rfl
  · cases h

theorem run_sizeT {P : Program} {t : TypeId} {n : Nat} (h : sizeT P t = some n) (w : World) : (sizeOf t).run P w = .ok n w := by
  unfold sizeT at h
  cases hi : P.info? t with
  | none => rw [hi] at h; cases h
  | some i => rw [hi] at h; cases h; simp [sizeOf, typeInfo, hi]

/-- A value out of cells. -/
def loadC (P : Program) (t : TypeId) (cs : List AV) : Option AV :=
  match isAggT P t with
  | some true => match sizeT P t with
    | some n => if n ≤ cs.length then some (.agg (cs.take n)) else none
    | none => none
  | some false => cs.head?
  | none => none

theorem loadC_run {P : Program} {t : TypeId} {cs : List AV} {r : AV} (h : loadC P t cs = some r) {c : Cx} {H : Heap} {w : World} {b off : Nat}
    (hc : RepAt c H w b off cs) : ∃ v, (loadVar t ⟨b, off, none⟩).run P w = .ok v w ∧ RepV c H w r v := by
  unfold loadC at h
  split at h
  · rename_i ha
    split at h
    · rename_i n hs
      split at h
      · rename_i hn
        cases h
        obtain ⟨vs, hl, hv⟩ := (hc.take n).vals
        have hlen : vs.length = n := by rw [hl.length, List.length_take]; omega
        have := run_loadCells_list (P := P) w ⟨b, off, none⟩ vs (fun j v hj => by rw [add_eq]; exact hv j v hj)
        refine ⟨.agg vs.toArray, ?_, vs, rfl, hl⟩
        rw [hlen] at this
        simp [loadVar, run_isAggT ha, run_sizeT hs, this]
      · cases h
    · cases h
  · rename_i ha
    cases cs with
    | nil => cases h
    | cons x xs =>
      simp at h; subst h
      obtain ⟨⟨y, hy, hv⟩, _⟩ := hc
      refine ⟨y, ?_, hv⟩
      simp only [cellAt] at hy
      simp [loadVar, run_isAggT ha, hy]
  · cases h

/-- The cells behind an address. -/
def cellsOf (H : Heap) : AV → Option (List AV)
  | .ptr o i off g => match H o with
    | some x => if x.gen = g then match x.es[i]? with
        | some e => some (e.cells.drop off)
        | none => none
      else none
    | none => none
  | .cptr cs => some cs
  | _ => none

theorem cellsOf_rep {H : Heap} {v : AV} {cs : List AV} (h : cellsOf H v = some cs) {c : Cx} {w : World} {y : Value} (hH : RepH c H w) (hv : RepV c H w v y) :
    ∃ b off, y = .pointer (some ⟨b, off, none⟩) ∧ RepAt c H w b off cs := by
  unfold cellsOf at h
  split at h
  · rename_i o i off g
    split at h
    · rename_i x hx
      split at h
      · rename_i hg
        split at h
        · rename_i e he
          cases h
          simp only [RepV] at hv
          obtain ⟨x', hx', _, hv⟩ := hv
          rw [hx] at hx'; cases hx'
          obtain ⟨b, hb, rfl⟩ := hv hg
          have ho := hH.obj o x hx
          simp only [RepO, hb] at ho
          obtain ⟨_, _, _, _, _, _, _, hes⟩ := ho
          have := (RepEs_iff.1 hes i e he).2
          refine ⟨b, _, rfl, ?_⟩
          have := this.drop off
          rwa [Nat.zero_add] at this
        · cases h
      · cases h
    · cases h
  · cases h
    simp only [RepV] at hv
    obtain ⟨b, off, _, hy, hc⟩ := hv
    exact ⟨b, off, hy, hc⟩
  · cases h

def fieldT (P : Program) (s : TypeId) (f : Nat) : Option (Nat × TypeId) :=
  match P.underlying s with
  | some (.struct fs) => (fs[f]?).map fun fd => (fd.offset, fd.type)
  | _ => none

/-- part: a field out of a struct's cells. -/
def partC (P : Program) (t : TypeId) (off : Nat) (cs : List AV) : Option AV :=
  match isAggT P t with
  | some true => match sizeT P t with
    | some n => if off + n ≤ cs.length then some (.agg ((cs.drop off).take n)) else none
    | none => none
  | some false => cs[off]?
  | none => none

theorem partC_run {P : Program} {t : TypeId} {off : Nat} {cs : List AV} {r : AV} (h : partC P t off cs = some r) {c : Cx} {H : Heap} {w : World} {vs : List Value}
    (hl : RepL c H w cs vs) : ∃ v, (part t vs.toArray off).run P w = .ok v w ∧ RepV c H w r v := by
  have hl' := RepL_iff.1 hl
  unfold partC at h
  split at h
  · rename_i ha
    split at h
    · rename_i n hs
      split at h
      · rename_i hn
        cases h
        refine ⟨.agg (vs.toArray.extract off (off + n)), by simp [part, run_isAggT ha, run_sizeT hs], (vs.drop off).take n, ?_, RepL_iff.2 ⟨?_, ?_⟩⟩
        · simp
        · simp [hl'.1]
        · intro i x y hx hy
          rw [List.getElem?_take] at hx hy
          split at hx
          · rename_i hi
            rw [if_pos hi] at hy
            rw [List.getElem?_drop] at hx hy
            exact hl'.2 _ x y hx hy
          · cases hx
      · cases h
    · cases h
  · rename_i ha
    have hlt : off < cs.length := (List.getElem?_eq_some_iff.1 h).1
    have hlt' : off < vs.length := by omega
    refine ⟨vs[off], ?_, hl'.2 off r _ h (List.getElem?_eq_getElem hlt')⟩
    simp [part, run_isAggT ha, hlt']
  · cases h

end Go.AM
