/- The abstract machine: operations that make an object. -/
import Derived.Test.YtfakpidgkbkhfaaGreatDoorAmFill
namespace Go.AM

theorem flat_get {sz : Nat} : ∀ {es : List AV} {i j : Nat} {e x : AV}, (∀ e ∈ es, e.cells.length = sz) → es[i]? = some e → e.cells[j]? = some x → (flat es)[i * sz + j]? = some x
  | [], i, j, e, x, _, hi, _ => by simp at hi
  | y :: es, 0, j, e, x, hs, hi, hj => by
    simp at hi; subst hi
    have hlt := (List.getElem?_eq_some_iff.1 hj).1
    simp only [flat, List.flatMap_cons, Nat.zero_mul, Nat.zero_add]
    rw [List.getElem?_append_left hlt]; exact hj
  | y :: es, i + 1, j, e, x, hs, hi, hj => by
    simp at hi
    have hy := hs y (by simp)
    have ih := flat_get (fun e he => hs e (by simp [he])) hi hj
    simp only [flat, List.flatMap_cons] at ih ⊢
    rw [List.getElem?_append_right (by rw [hy, Nat.add_mul]; omega), hy, ← ih]
    congr 1
    rw [Nat.add_mul]; omega

theorem RepEs.of_flat {c : Cx} {H : Heap} {w : World} {sz b off : Nat} {es : List AV} {vs : List Value} (hs : ∀ e ∈ es, e.cells.length = sz)
    (hc : ∀ (j : Nat) (v : Value), vs[j]? = some v → cellAt w b (off + j) = some v) (hl : RepL c H w (AM.flat es) vs) : RepEs c H w sz b off es := by
  have hl := RepL_iff.1 hl
  rw [RepEs_iff]
  intro i e hi
  refine ⟨hs e (List.mem_of_getElem? hi), ?_⟩
  rw [RepAt_iff]
  intro j x hj
  have hf := flat_get hs hi hj
  have hlt := (List.getElem?_eq_some_iff.1 hf).1
  have hv : vs[i * sz + j]? = some vs[i * sz + j] := List.getElem?_eq_getElem (by omega)
  refine ⟨_, ?_, hl.2 _ x _ hf hv⟩
  have := hc _ _ hv
  rwa [← Nat.add_assoc] at this

theorem cellAt_push {w w' : World} {cs : Array Value} {e : TypeId} {fz : Nat × Nat} (h : w'.heap = w.heap.push (.cells cs e fz)) (j : Nat) : cellAt w' w.heap.size j = cs[j]? := by
  simp [cellAt, World.cell?, h]

theorem shape_push {w w' : World} {cs : Array Value} {e : TypeId} {fz : Nat × Nat} (h : w'.heap = w.heap.push (.cells cs e fz)) : w'.shape? w.heap.size = some (e, cs.size) := by
  simp [World.shape?, h]

/-- A new object: its block holds the elements, and perhaps more. -/
theorem fresh_at {c : Cx} {H : Heap} {w w' : World} {n : Nat} {x' : AObj} {cs : Array Value} {e : TypeId} {fz : Nat × Nat} {vs : List Value}
    (h : RepH c H w) (hx : ∀ x, H n = some x → x'.sz = x.sz ∧ x.gen < x'.gen) (hw' : w'.heap = w.heap.push (.cells cs e fz))
    (ht : w'.tape = w.tape) (hos : w'.os = w.os) (hout : w'.output = w.output)
    (hf : ∀ j, j < cs.size → ¬ (fz.1 ≤ j ∧ j < fz.2)) (hst : x'.st = false → ∀ j, ¬ (fz.1 ≤ j ∧ j < fz.2))
    (hs : ∀ e ∈ x'.es, e.cells.length = x'.sz) (hc : ∀ (j : Nat) (v : Value), vs[j]? = some v → cs[j]? = some v) (hl : RepL c H w (flat x'.es) vs) :
    RepH (c.at' n w.heap.size) (H.set n x') w' ∧ Grow c H w (c.at' n w.heap.size) (H.set n x') w' :=
  h.fresh hx hw' ht hos hout hf hst fun m =>
    RepEs.of_flat hs (fun j v hj => by rw [Nat.zero_add, cellAt_push hw']; exact hc j v hj) (RepL.mono m _ _ hl)

theorem nofz (j : Nat) : ¬ (((0, 0) : Nat × Nat).1 ≤ j ∧ j < ((0, 0) : Nat × Nat).2) := by simp

/-- A variable of one element. -/
def newVar (n : Nat) (H : Heap) (v : AV) : Heap := H.set n ⟨v.cells.length, 0, false, [v]⟩

theorem newVar_rep {P : Program} {c : Cx} {H : Heap} {w : World} {n : Nat} {v : AV} {y : Value} (t : TypeId) (hH : RepH c H w) (hn : H n = none) (hv : RepV c H w v y) (hk : known v = true) :
    ∃ w' c', (Go.newVar t y).run P w = .ok ⟨w.heap.size, 0, none⟩ w' ∧ RepH c' (newVar n H v) w' ∧ Grow c H w c' (newVar n H v) w' ∧
      RepV c' (newVar n H v) w' (.ptr n 0 0 0) (.pointer (some ⟨w.heap.size, 0, none⟩)) := by
  obtain ⟨vs, hvs, hl⟩ := cells_rep hv hk
  have hrun : (Go.newVar t y).run P w = .ok ⟨w.heap.size, 0, none⟩ { w with heap := w.heap.push (.cells vs.toArray t) } := by
    simp [Go.newVar, newRow, hvs]
  obtain ⟨h1, h2⟩ := fresh_at (n := n) (x' := ⟨v.cells.length, 0, false, [v]⟩) (w' := { w with heap := w.heap.push (.cells vs.toArray t) }) (vs := vs) (fz := (0, 0)) hH
    (fun x hx => by rw [hn] at hx; cases hx) rfl rfl rfl rfl (fun j _ => nofz j) (fun _ j => nofz j) (by simp) (fun j v hj => by simpa using hj) (by simpa [flat] using hl)
  refine ⟨_, _, hrun, h1, h2, ?_⟩
  simp only [RepV]
  exact ⟨_, Heap.set_same .., ⟨Nat.le_refl _, _, rfl⟩, fun _ => ⟨w.heap.size, by simp [Cx.at'], by simp⟩⟩

theorem alloc_ok {P : Program} {H : Heap} {T : List AV} {o : Oper} {t : TypeId} {z : Value} {n : Nat} (ho : o.op = .alloc t) (hz : zeroT P t = some z) (hk : known (ofConst z) = true) (hn : H n = none) :
    OpOK P o T H (.ptr n 0 0 0) (newVar n H (ofConst z)) := by
  intro c w a hH hT next Q hnx _ _
  obtain ⟨w', c', hrun, h1, h2, h3⟩ := newVar_rep (P := P) t hH hn (ofConst_rep c H w z) hk
  refine .inl ?_
  have : (execOp a.eval o).run P w = .ok (.value (.pointer (some ⟨w.heap.size, 0, none⟩))) w' := by
    simp only [execOp, ho, Instr.alloc, Sem.run_bind, run_zeroT hz, Result.andThen_ok, hrun, Sem.run_pure]
  rw [Oper.wp, this]
  exact hnx _ c' w' h1 h3 h2

theorem box_ok {P : Program} {H : Heap} {T : List AV} {o : Oper} {t : TypeId} {x : Operand} {n : Nat} (ho : o.op = .box t x) (hk : known (evalA T x) = true) (hn : H n = none) :
    OpOK P o T H (.ptr n 0 0 0) (newVar n H (evalA T x)) := by
  intro c w a hH hT next Q hnx _ _
  obtain ⟨w', c', hrun, h1, h2, h3⟩ := newVar_rep (P := P) t hH hn (evalA_rep hT x) hk
  refine .inl ?_
  have : (execOp a.eval o).run P w = .ok (.value (.pointer (some ⟨w.heap.size, 0, none⟩))) w' := by
    simp only [execOp, ho, Instr.box, Sem.run_bind, Result.andThen_ok, hrun, Sem.run_pure]
  rw [Oper.wp, this]
  exact hnx _ c' w' h1 h3 h2

/-- Elements out of cells. -/
def group (agg : Bool) (sz : Nat) : Nat → List AV → List AV
  | 0, _ => []
  | n + 1, cs => (if agg then .agg (cs.take sz) else cs.headD .undef) :: group agg sz n (cs.drop sz)

def plainC : AV → Bool
  | .agg _ => false
  | _ => true

theorem cells_plain {v : AV} (h : plainC v = true) : v.cells = [v] := by cases v <;> first | rfl | simp [plainC] at h

theorem group_flat {agg : Bool} {sz : Nat} : ∀ {n : Nat} {cs : List AV}, cs.length = n * sz → (agg = false → sz = 1 ∧ ∀ x ∈ cs, plainC x = true) →
    flat (group agg sz n cs) = cs ∧ ∀ e ∈ group agg sz n cs, e.cells.length = sz
  | 0, cs, hl, _ => by
    have : cs = [] := List.eq_nil_of_length_eq_zero (by simpa using hl)
    subst this; simp [group, flat]
  | n + 1, cs, hl, hp => by
    rw [Nat.add_mul] at hl
    obtain ⟨h1, h2⟩ := group_flat (agg := agg) (sz := sz) (n := n) (cs := cs.drop sz) (by simp; omega) (fun e => ⟨(hp e).1, fun x hx => (hp e).2 x (List.mem_of_mem_drop hx)⟩)
    cases agg with
    | true =>
      simp only [group, if_true, flat, List.flatMap_cons, AV.cells] at h1 h2 ⊢
      refine ⟨by rw [h1, List.take_append_drop], fun e he => ?_⟩
      simp only [List.mem_cons] at he
      rcases he with rfl | he
      · simp; omega
      · exact h2 e he
    | false =>
      have hp := hp rfl
      obtain ⟨rfl, _⟩ := id hp
      cases cs with
      | nil => simp at hl
      | cons x xs =>
        have hx := cells_plain (hp.2 x (by simp))
        simp only [group, Bool.false_eq_true, if_false, List.headD_cons, flat, List.flatMap_cons, hx, List.drop_succ_cons, List.drop_zero] at h1 h2 ⊢
        refine ⟨by rw [h1]; rfl, fun e he => ?_⟩
        simp only [List.mem_cons] at he
        rcases he with rfl | he
        · rw [hx]; rfl
        · exact h2 e he

def newArr (n : Nat) (H : Heap) (sz : Nat) (st : Bool) (es : List AV) : Heap := H.set n ⟨sz, 0, st, es⟩

/-- []T{..}: the elements. -/
def evalBuildSlice (P : Program) (T : List AV) (t : TypeId) (len : Nat) (parts : Array (Nat × Operand)) : Option (Nat × List AV) :=
  match P.underlying t with
  | some (.slice e) => match sizeT P e, isAggT P e, zeroT P e with
    | some sz, some ag, some z =>
      if len * sz ≤ 2 ^ 24 ∧ known (ofConst z) = true ∧ (ofConst z).cells.length = sz ∧ (ag = true ∨ sz = 1) then
        match fillA (fun i => some (i * sz, sz)) ((List.replicate len (ofConst z).cells).flatten) (partsA T parts) with
        | some cs => if (ag || cs.all plainC) = true ∧ cs.length = len * sz then some (sz, group ag sz len cs) else none
        | none => none
      else none
    | _, _, _ => none
  | _ => none

theorem zero_cells (z : Array Value) (n : Nat) (h : 0 < z.size ∨ n = 0) : ((Array.range (n * z.size)).map (z[· % z.size]!)).toList = (List.replicate n z.toList).flatten := by
  induction n with
  | zero => simp
  | succ n ih =>
    have hz : 0 < z.size := h.resolve_right (by omega)
    rw [Nat.add_mul, Nat.one_mul, Array.range_eq_range']
    simp only [Array.toList_map, Array.toList_range'] at ih ⊢
    rw [← List.range'_append_1, List.map_append, List.replicate_succ', List.flatten_append]
    congr 1
    · have := ih (.inl hz)
      rw [Array.range_eq_range', Array.toList_range'] at this
      exact this
    · simp only [List.flatten_cons, List.flatten_nil, List.append_nil]
      apply List.ext_getElem
      · simp
      · intro i h1 h2
        simp at h1
        simp only [List.getElem_map, List.getElem_range']
        rw [show 0 + n * z.size + 1 * i = i + z.size * n by rw [Nat.mul_comm]; omega, Nat.add_mul_mod_self_left, Nat.mod_eq_of_lt h1]
        rw [getElem!_pos z i h1]; simp

theorem RepL.append {c : Cx} {H : Heap} {w : World} {xs ys : List AV} {vs us : List Value} (h : RepL c H w xs vs) (k : RepL c H w ys us) : RepL c H w (xs ++ ys) (vs ++ us) := by
  induction xs generalizing vs with
  | nil => simp only [RepL] at h; subst h; simpa using k
  | cons x xs ih =>
    simp only [RepL] at h
    obtain ⟨y, ys', rfl, hy, hl⟩ := h
    exact ⟨y, ys' ++ us, rfl, hy, ih hl⟩

theorem RepL.flatten_replicate {c : Cx} {H : Heap} {w : World} {xs : List AV} {vs : List Value} (h : RepL c H w xs vs) : ∀ n, RepL c H w (List.replicate n xs).flatten (List.replicate n vs).flatten
  | 0 => rfl
  | n + 1 => by simp only [List.replicate_succ, List.flatten_cons]; exact h.append (RepL.flatten_replicate h n)

theorem newArr_rep {c : Cx} {H : Heap} {w w' : World} {n : Nat} {sz len cap : Nat} {st full : Bool} {es : List AV} {cs : Array Value} {e : TypeId} {fz : Nat × Nat} {vs : List Value}
    (hH : RepH c H w) (hn : H n = none) (hw' : w'.heap = w.heap.push (.cells cs e fz)) (ht : w'.tape = w.tape) (hos : w'.os = w.os) (hout : w'.output = w.output)
    (hf : ∀ j, j < cs.size → ¬ (fz.1 ≤ j ∧ j < fz.2)) (hst : st = false → ∀ j, ¬ (fz.1 ≤ j ∧ j < fz.2))
    (hs : ∀ e ∈ es, e.cells.length = sz) (hc : ∀ (j : Nat) (v : Value), vs[j]? = some v → cs[j]? = some v) (hl : RepL c H w (flat es) vs) (hlen : len ≤ cap) (hfull : full = true → cap = len) (hcap : cap * sz ≤ cs.size) :
    RepH (c.at' n w.heap.size) (newArr n H sz st es) w' ∧ Grow c H w (c.at' n w.heap.size) (newArr n H sz st es) w' ∧
      RepV (c.at' n w.heap.size) (newArr n H sz st es) w' (.own n 0 len 0 full) (.slice (some ⟨w.heap.size, 0, none⟩) len cap) := by
  obtain ⟨h1, h2⟩ := fresh_at (n := n) (x' := ⟨sz, 0, st, es⟩) hH (fun x hx => by rw [hn] at hx; cases hx) hw' ht hos hout hf hst hs hc hl
  refine ⟨h1, h2, ?_⟩
  simp only [RepV]
  refine ⟨_, Heap.set_same .., ⟨Nat.le_refl _, _, _, _, rfl⟩, fun _ => ?_⟩
  simp only [Cx.at', if_true]
  exact ⟨cap, e, cs.size, by simp, hlen, hfull, shape_push hw', by simpa using hcap⟩

theorem buildSlice_ok {P : Program} {H : Heap} {T : List AV} {o : Oper} {t : TypeId} {len sz n : Nat} {parts : Array (Nat × Operand)} {es : List AV} (ho : o.op = .buildSlice t len parts)
    (h : evalBuildSlice P T t len parts = some (sz, es)) (hn : H n = none) : OpOK P o T H (.own n 0 len 0 true) (newArr n H sz false es) := by
  intro c w a hH hT next Q hnx _ _
  unfold evalBuildSlice at h
  split at h
  · rename_i e hu
    split at h
    · rename_i sz' ag z hsz hag hz
      split at h
      · rename_i hc
        obtain ⟨h24, hk, hzl, hag1⟩ := hc
        split at h
        · rename_i cs hcs
          split at h
          · rename_i hg
            cases h
            obtain ⟨hg1, hg2⟩ := hg
            obtain ⟨zs, hzs, hlz⟩ := cells_rep (ofConst_rep c H w z) hk
            have hzsl : zs.length = sz := by rw [hlz.length]; exact hzl
            obtain ⟨vs', hf, hl'⟩ := fillA_run hcs (hlz.flatten_replicate len) (partsA_rep hT parts)
            have hvl : vs'.length = len * sz := by rw [hl'.length]; exact hg2
            obtain ⟨gf, gs⟩ := group_flat (agg := ag) (sz := sz) (n := len) hg2 (fun e => by
              subst e
              refine ⟨by simpa using hag1, fun x hx => ?_⟩
              simp at hg1
              exact hg1 x hx)
            have hrun : (execOp a.eval o).run P w = .ok (.value (.slice (some ⟨w.heap.size, 0, none⟩) len len)) { w with heap := w.heap.push (.cells vs'.toArray e) } := by
              have h24' : ¬ (len * sz > 2 ^ 24) := by omega
              have hf0 : len * sz = 0 → Instr.fill (fun i => some (i * sz, sz)) #[] (parts.map fun (i, x) => (i, a.eval x)).toList = some vs'.toArray := by
                intro e0
                rw [← hf]
                congr 1
                rcases Nat.mul_eq_zero.1 e0 with e1 | e1
                · subst e1; simp
                · have : zs = [] := List.eq_nil_of_length_eq_zero (by omega)
                  subst this; simp
              have hf1 : len * sz ≠ 0 → Instr.fill (fun i => some (i * sz, sz)) ((Array.range (len * sz)).map (zs.toArray[· % zs.toArray.size]!)) (parts.map fun (i, x) => (i, a.eval x)).toList = some vs'.toArray := by
                intro e0
                rw [← hf]
                congr 1
                apply Array.ext'
                have hpos : 0 < sz := Nat.pos_of_ne_zero (fun q => e0 (by rw [q]; rfl))
                have := zero_cells zs.toArray len (.inl (by simp; omega))
                rw [show zs.toArray.size = sz by simp [hzsl]] at this
                simp only [show zs.toArray.size = sz by simp [hzsl]]
                rw [this]
              simp only [execOp, ho, Instr.buildSlice, Sem.run_bind, run_underlying hu, Result.andThen_ok, run_sizeT hsz, h24', if_false, Sem.run_pure]
              by_cases e0 : len * sz = 0
              · have hf0 := hf0 e0
                simp only [e0, if_true, Sem.run_bind, Sem.run_pure, Result.andThen_ok]
                have he : (Array.range 0).map (fun x => (#[] : Array Value)[x % (#[] : Array Value).size]!) = #[] := by simp
                rw [he, hf0]
                simp [newRow]
              · have hf1 := hf1 e0
                simp only [e0, if_false, Sem.run_bind, run_zeroT hz, Sem.run_pure, Result.andThen_ok, hzs]
                rw [hf1]
                simp [newRow]
            obtain ⟨h1, h2, h3⟩ := newArr_rep (n := n) (st := false) (full := true) (len := len) (cap := len) (w' := { w with heap := w.heap.push (.cells vs'.toArray e) }) (vs := vs') (fz := (0, 0)) hH hn rfl rfl rfl rfl
              (fun j _ => nofz j) (fun _ j => nofz j) gs (fun j v hj => by simpa using hj) (by rw [gf]; exact hl') (Nat.le_refl _) (fun _ => rfl) (by simp [hvl])
            refine .inl ?_
            rw [Oper.wp, hrun]
            exact hnx _ _ _ h1 h3 h2
          · cases h
        · cases h
      · cases h
    · cases h
  · cases h

end Go.AM
