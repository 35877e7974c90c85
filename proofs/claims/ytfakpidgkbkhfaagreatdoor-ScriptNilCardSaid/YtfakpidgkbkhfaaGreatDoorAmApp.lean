/- The abstract machine: append. -/
import Derived.Test.YtfakpidgkbkhfaaGreatDoorAmStore
namespace Go.AM

theorem run_append_room' {P : Program} (w : World) (t u ty e : TypeId) (sz : Nat) (ht : P.underlying t = some (.slice e)) (hu : P.underlying u = some .string ∨ ∃ e', P.underlying u = some (.slice e'))
    (hsz : sizeT P e = some sz) (y : Value) (base : Option Addr) (sLen sCap n : Nat) (news : List Value) (hlen : (Builtin.lenOf y).run P w = .ok n w)
    (hfc : (Builtin.firstCells sz n y).run P w = .ok news.toArray w) (hroom : sLen + n ≤ sCap) (w' : World)
    (hst : ∀ a, base = some a → (storeCells (a.add (sLen * sz)) news).run P w = .ok () w') (hno : base = none → w' = w) :
    (Builtin.append_ #[t, u] ty #[.slice base sLen sCap, y]).run P w = .ok (.slice base (sLen + n) sCap) w' := by
  rcases hu with hu | ⟨e', hu⟩ <;>
  · cases base with
    | none => simp [Builtin.append_, run_underlying ht, run_underlying hu, run_sizeT hsz, hlen, hroom, hfc, hno rfl]
    | some a => simp [Builtin.append_, run_underlying ht, run_underlying hu, run_sizeT hsz, hlen, hroom, hfc, hst a rfl]

theorem run_append_grow' {P : Program} (w : World) (t u ty e : TypeId) (i : TypeInfo) (z : Value) (ht : P.underlying t = some (.slice e)) (hu : P.underlying u = some .string ∨ ∃ e', P.underlying u = some (.slice e'))
    (hi : P.info? e = some i) (hz : i.zero = some z) (y : Value) (base : Option Addr) (sLen sCap n : Nat) (olds news : List Value) (hlen : (Builtin.lenOf y).run P w = .ok n w)
    (hfc : (Builtin.firstCells i.size n y).run P w.drew = .ok news.toArray w.drew) (hold : (Builtin.firstCells i.size sLen (.slice base sLen sCap)).run P w.drew = .ok olds.toArray w.drew)
    (hg : sCap < sLen + n) (h63 : sLen + n ≤ 9223372036854775807) (h47 : (sLen + n) * i.bytes ≤ 140737488355328) :
    (Builtin.append_ #[t, u] ty #[.slice base sLen sCap, y]).run P w =
      .ok (.slice (some ⟨w.heap.size, 0, none⟩) (sLen + n) (grownCap w (sLen + n) sCap e))
        (w.drew.alloc (.cells (olds.toArray ++ news.toArray ++ Builtin.zeroCells z.cells (grownCap w (sLen + n) sCap e - (sLen + n))) e)) := by
  have hn : ¬ (sLen + n ≤ sCap) := by omega
  have h63' : ¬ (9223372036854775807 < ((sLen : Int) + (n : Int))) := by omega
  have hfit := growslice_fits (need := sLen + n) (old := sCap) (bytes := i.bytes) hg h47
  have h48' : ¬ (281474976710656 < Builtin.nextslicecap (sLen + n) sCap * i.bytes) := by omega
  rcases hu with hu | ⟨e', hu⟩ <;>
  · simp [Builtin.append_, run_underlying ht, run_underlying hu, sizeOf, typeInfo, zeroValue, hi, hz, hlen, hn, h63', h48', Question.forced, hfc, hold, newRow, grownCap]
    congr 2
    apply Array.ext'
    simp [List.append_assoc]

/-- What is appended: its elements. -/
def appArg (P : Program) (H : Heap) (u : TypeId) (sz : Nat) (v : AV) : Option (List AV) :=
  match P.underlying u, v with
  | some .string, .str s => if sz = 1 then some (s.map fun b => .int .u8 b.toNat) else none
  | some (.slice _), v => match elems H v with
    | some es => if es.all (·.cells.length == sz) = true then some es else none
    | none => none
  | _, _ => none

theorem flat_ints (s : List UInt8) : flat (s.map fun b => AV.int .u8 b.toNat) = s.map fun b => AV.int .u8 b.toNat := by
  induction s with
  | nil => rfl
  | cons b s ih => simp only [flat, List.map_cons, List.flatMap_cons, AV.cells] at ih ⊢; rw [ih]; rfl

theorem appArg_rep {P : Program} {c : Cx} {H : Heap} {w : World} {u : TypeId} {sz : Nat} {v : AV} {y : Value} {es : List AV} (hH : RepH c H w) (hv : RepV c H w v y) (h : appArg P H u sz v = some es) :
    (P.underlying u = some .string ∨ ∃ e', P.underlying u = some (.slice e')) ∧ (∀ e ∈ es, e.cells.length = sz) ∧ ∃ news : List Value, RepL c H w (flat es) news ∧ (Builtin.lenOf y).run P w = .ok es.length w ∧
      ∀ w1 : World, w1.heap = w.heap → (Builtin.firstCells sz es.length y).run P w1 = .ok news.toArray w1 := by
  unfold appArg at h
  split at h
  · rename_i s hu
    split at h
    · rename_i h1
      cases h
      simp only [RepV] at hv; subst hv
      refine ⟨.inl hu, ?_, s.map fun b => Value.int .u8 b.toNat, ?_, ?_, ?_⟩
      · intro e he
        simp only [List.mem_map] at he
        obtain ⟨b, _, rfl⟩ := he
        simp [AV.cells, h1]
      · rw [flat_ints]
        clear h1 hu
        induction s with
        | nil => rfl
        | cons b s ih => exact ⟨_, _, rfl, rfl, ih⟩
      · simp [Builtin.lenOf, size_mk]
      · intro w1 _
        simp only [Builtin.firstCells, List.length_map, Sem.run_pure]
        congr 1
        apply Array.ext'
        simp
    · cases h
  · rename_i e' hu
    split at h
    · rename_i es' he
      split at h
      · rename_i hall
        cases h
        have hall' : ∀ e ∈ es, e.cells.length = sz := fun e he => by simpa using List.all_eq_true.1 hall e he
        refine ⟨.inr ⟨_, hu⟩, hall', ?_⟩
        rcases elems_rep hH hv he with ⟨rfl, a, cap, rfl⟩ | ⟨b, off, sz0, cap, e, n, rfl, hcc, hsh, hn, hes⟩
        · refine ⟨[], rfl, by simp [Builtin.lenOf], fun w1 _ => ?_⟩
          cases a with
          | none => simp [Builtin.firstCells]
          | some a => simpa [Builtin.firstCells] using run_loadCells_list (P := P) w1 a [] (by simp)
        · obtain ⟨g1, g2⟩ := hes.flat
          obtain ⟨vs, hl, hc⟩ := g1.vals
          refine ⟨vs, hl, by simp [Builtin.lenOf], fun w1 hw1 => ?_⟩
          have hvl : vs.length = es.length * sz := by
            rw [hl.length]
            clear hl hc g1 g2 hes hcc hv hall he
            induction es with
            | nil => simp [flat]
            | cons e es ih =>
              have := ih (fun e he => hall' e (by simp [he]))
              simp only [flat, List.flatMap_cons, List.length_append, List.length_cons] at this ⊢
              rw [this, hall' e (by simp), Nat.add_mul]; omega
          refine run_firstCells_some w1 sz es.length ⟨b, off, none⟩ es.length cap vs hvl (fun j v hj => ?_)
          have := hc j v hj
          rw [add_eq]
          simp only [cellAt, World.cell?, hw1] at this ⊢
          exact this
      · cases h
    · cases h
  · cases h

/-- append(s, x...): the value, and the object. -/
def evalAppend (P : Program) (H : Heap) (nx : Nat) (t u : TypeId) (s x : AV) : Option (AV × Option (Nat × AObj)) :=
  match P.underlying t with
  | some (.slice e) => match P.info? e with
    | none => none
    | some i => match i.zero, appArg P H u i.size x with
      | some z, some es =>
        if z.cells.size ≠ i.size then none else
        if es.length = 0 then (if validS H s = true ∧ (lenA s).isSome = true then some (s, none) else none) else
        match s with
        | .nilsl => if es.length ≤ 9223372036854775807 ∧ es.length * i.bytes ≤ 140737488355328 then some (.own nx 0 es.length 0 false, some (nx, ⟨i.size, 0, false, es⟩)) else none
        | .own o lo len g full => match H o with
          | none => none
          | some ob =>
            if ob.gen = g ∧ ob.sz = i.size ∧ lo + len ≤ ob.es.length ∧ len + es.length ≤ 9223372036854775807 ∧ (len + es.length) * i.bytes ≤ 140737488355328 then
              if full = true then some (.own nx 0 (len + es.length) 0 false, some (nx, ⟨i.size, 0, false, (ob.es.drop lo).take len ++ es⟩))
              else if lo = 0 ∧ (flat es).all oneC = true then some (.own o 0 (len + es.length) (g + 1) false, some (o, { ob with gen := g + 1, es := ob.es.take len ++ es }))
              else none
            else none
        | .vec true es0 =>
          if es0.length + es.length ≤ 9223372036854775807 ∧ (es0.length + es.length) * i.bytes ≤ 140737488355328 ∧ es0.all (·.cells.length == i.size) = true then
            some (.own nx 0 (es0.length + es.length) 0 false, some (nx, ⟨i.size, 0, false, es0 ++ es⟩)) else none
        | _ => none
      | _, _ => none
  | _ => none

end Go.AM
