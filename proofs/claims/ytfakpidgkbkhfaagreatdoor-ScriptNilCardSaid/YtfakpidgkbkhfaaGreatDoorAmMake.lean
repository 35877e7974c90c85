/- The abstract machine: make, and the bytes of a string. -/
import Derived.Test.YtfakpidgkbkhfaaGreatDoorAmCall
import Derived.Laws.MakeOwn
namespace Go.AM

def evalMake (P : Program) (T : List AV) (t : TypeId) (l c : Operand) : Option (Nat × Nat × Nat × List AV) :=
  match P.underlying t, evalA T l, evalA T c with
  | some (.slice e), .int _ n, .int _ m => match P.info? e with
    | some i => match i.zero with
      | some z => if 0 ≤ n ∧ n ≤ m ∧ (i.bytes : Int) * m ≤ 281474976710656 ∧ m ≤ 9223372036854775807 ∧ known (ofConst z) = true ∧ (ofConst z).cells.length = i.size ∧ 0 < i.size then
          some (i.size, n.toNat, m.toNat, List.replicate m.toNat (ofConst z)) else none
      | none => none
    | none => none
  | _, _, _ => none

theorem flat_replicate (n : Nat) (v : AV) : flat (List.replicate n v) = (List.replicate n v.cells).flatten := by
  induction n with
  | zero => rfl
  | succ n ih => simp only [flat, List.replicate_succ, List.flatMap_cons, List.flatten_cons] at ih ⊢; rw [ih]

theorem make_ok {P : Program} {H : Heap} {T : List AV} {o : Oper} {t : TypeId} {l c : Operand} {sz n m nx : Nat} {es : List AV} (ho : o.op = .makeSlice t l c)
    (h : evalMake P T t l c = some (sz, n, m, es)) (hn : H nx = none) : OpOK P o T H (.own nx 0 n 0 (n == m)) (newArr nx H sz false es) := by
  intro cx w a hH hT next Q hnx _ _
  have hl := evalA_rep hT l
  have hc := evalA_rep hT c
  unfold evalMake at h
  split at h
  · rename_i e k1 n' k2 m' hu h1 h2
    rw [h1] at hl
    rw [h2] at hc
    simp only [RepV] at hl hc
    split at h
    · rename_i i hi
      split at h
      · rename_i z hz
        split at h
        · rename_i hcond
          obtain ⟨g0, g1, g2, g3, hk, hzl, hpos⟩ := hcond
          cases h
          obtain ⟨zs, hzs, hlz⟩ := cells_rep (ofConst_rep cx H w z) hk
          have hzsl : zs.length = i.size := by rw [hlz.length]; exact hzl
          have hrun := run_make (P := P) w t e i z hu hi hz k1 k2 n' m' g0 g1 g2 g3
          have hcells : (madeCells z.cells (m'.toNat * i.size)).toList = (List.replicate m'.toNat zs).flatten := by
            unfold madeCells
            rw [hzs]
            have := zero_cells zs.toArray m'.toNat (.inl (by simp; omega))
            rw [show zs.toArray.size = i.size by simp [hzsl]] at this
            simp only [show zs.toArray.size = i.size by simp [hzsl]]
            rw [this]
          obtain ⟨q1, q2, q3⟩ := newArr_rep (n := nx) (st := false) (sz := i.size) (full := (n'.toNat == m'.toNat)) (len := n'.toNat) (cap := m'.toNat) (es := List.replicate m'.toNat (ofConst z))
            (w' := w.alloc (.cells (madeCells z.cells (m'.toNat * i.size)) e)) (vs := (List.replicate m'.toNat zs).flatten) (fz := (0, 0)) hH hn rfl rfl rfl rfl
            (fun j _ => nofz j) (fun _ j => nofz j) (fun e he => by rw [(List.mem_replicate.1 he).2]; exact hzl) (fun j v hj => by rw [← hcells] at hj; simpa using hj)
            (by rw [flat_replicate]; exact hlz.flatten_replicate _) (by omega) (fun q => by simp at q; exact q.symm) (by simp [size_madeCells])
          refine .inl ?_
          have : (execOp a.eval o).run P w = .ok (.value (.slice (some ⟨w.heap.size, 0, none⟩) n'.toNat m'.toNat)) (w.alloc (.cells (madeCells z.cells (m'.toNat * i.size)) e)) := by
            simp [execOp, ho, hl, hc, hrun]
          rw [Oper.wp, this]
          exact hnx _ _ _ q1 q3 q2
        · cases h
      · cases h
    · cases h
  · cases h

/-- []byte(s). -/
def evalStrBytes (P : Program) (T : List AV) (s d : TypeId) (x : Operand) : Option (List UInt8) :=
  match P.underlying s, P.underlying d, evalA T x with
  | some _, some (.slice e), .str l => match P.underlying e with
    | some (.int .u8) => some l
    | _ => none
  | _, _, _ => none

theorem RepL_ints (c : Cx) (H : Heap) (w : World) : ∀ l : List UInt8, RepL c H w (l.map fun b => AV.int .u8 b.toNat) (l.map fun b => Value.int .u8 b.toNat)
  | [] => rfl
  | _ :: l => ⟨_, _, rfl, rfl, RepL_ints c H w l⟩

theorem strBytes_ok {P : Program} {H : Heap} {T : List AV} {o : Oper} {s d : TypeId} {x : Operand} {l : List UInt8} {nx : Nat} (ho : o.op = .convert s d x)
    (h : evalStrBytes P T s d x = some l) (hn : H nx = none) : OpOK P o T H (.own nx 0 l.length 0 false) (newArr nx H 1 true (l.map fun b => .int .u8 b.toNat)) := by
  intro cx w a hH hT next Q hnx _ _
  have hx := evalA_rep hT x
  unfold evalStrBytes at h
  split at h
  · rename_i d1 e l' hs hd hl
    split at h
    · rename_i he
      cases h
      rw [hl] at hx
      simp only [RepV] at hx
      have hge := grownCap_ge w l.length 0 e
      have hsz : (⟨l.toArray⟩ : ByteArray).size = l.length := size_mk l
      let cs : Array Value := (l.toArray.map fun b => Value.int .u8 b.toNat) ++ Array.replicate (grownCap w l.length 0 e - l.length) (.int .u8 0)
      have hcs : cs.size = grownCap w l.length 0 e := by simp [cs]; omega
      let w' : World := { w.drew with heap := w.heap.push (.cells cs e (cs.size, cs.size + 1)) }
      have hrun : (execOp a.eval o).run P w = .ok (.value (.slice (some ⟨w.heap.size, 0, none⟩) l.length (grownCap w l.length 0 e))) w' := by
        have hfr : ({ w.drew with heap := w.heap.push (.cells cs e) } : World).freeze ⟨w.heap.size, cs.size, none⟩ 1 = w' := by
          simp only [World.freeze, w']
          simp only [show ¬ (1 = 0) by omega, if_false]
          congr 1
          apply Array.ext
          · simp
          · intro i h1 h2
            simp only [Array.getElem_modify, Array.getElem_push]
            by_cases hi : i < w.heap.size
            · simp [hi, Nat.ne_of_gt hi]
            · have : i = w.heap.size := by simp at h2; omega
              subst this
              simp
        have hq : (Question.appendCap l.length 0 e).cut (w.tape w.drawn (.appendCap l.length 0 e)) = grownCap w l.length 0 e := rfl
        simp only [execOp, ho, convert, Sem.run_bind, run_underlying hs, run_underlying hd, Result.andThen_ok, hx, run_underlying he, Conv.stringToBytes, hsz, run_choose, Question.forced,
          Bool.false_eq_true, if_false, hq, newRow, run_newObj, Sem.run_pure, markStringish, run_shape]
        have hshape : ({ w.drew with heap := w.heap.push (.cells cs e) } : World).shape? w.heap.size = some (e, cs.size) := by simp [World.shape?]
        have hw1 : ({ heap := w.heap.push (Obj.cells cs e), tape := w.tape, drawn := w.drawn + 1, os := w.os, output := w.output } : World).shape? w.heap.size = some (e, cs.size) := hshape
        simp only [cs] at hw1 hfr ⊢
        simp only [hw1, run_freeze, Result.andThen_ok]
        exact congrArg (Result.ok _) hfr
      obtain ⟨q1, q2, q3⟩ := newArr_rep (n := nx) (st := true) (sz := 1) (full := false) (len := l.length) (cap := grownCap w l.length 0 e) (es := l.map fun b => .int .u8 b.toNat)
        (w' := w') (vs := l.map fun b => Value.int .u8 b.toNat) (cs := cs) (e := e) (fz := (cs.size, cs.size + 1)) hH hn rfl rfl rfl rfl
        (fun j hj => by simp; omega) (fun q => by cases q) (fun e he => by simp only [List.mem_map] at he; obtain ⟨b, _, rfl⟩ := he; rfl)
        (fun j v hj => by
          have hlt := (List.getElem?_eq_some_iff.1 hj).1
          simp at hlt
          simp only [cs]
          rw [Array.getElem?_append_left (by simpa using hlt)]
          simpa using hj)
        (by rw [flat_ints]; exact RepL_ints cx H w l) hge (fun q => by cases q) (by rw [hcs]; omega)
      refine .inl ?_
      rw [Oper.wp, hrun]
      exact hnx _ _ _ q1 q3 q2
    · cases h
  · cases h

end Go.AM
