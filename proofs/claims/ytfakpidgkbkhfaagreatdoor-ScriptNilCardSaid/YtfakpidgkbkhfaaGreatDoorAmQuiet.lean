/- The abstract machine: all operations that change no heap, as one function. -/
import Derived.Test.YtfakpidgkbkhfaaGreatDoorAmSlice
namespace Go.AM

/-- x[i]: an element's address. -/
def indexAddrA (H : Heap) (sz : Nat) (v : AV) (i : Int) : Option AV :=
  match v with
  | .own o lo len g _ => if validO H o g = true ∧ szOK H sz v = true ∧ 0 ≤ i ∧ i < (len : Int) then some (.ptr o (lo + i.toNat) 0 g) else none
  | .vec _ es => if 0 ≤ i then match es[i.toNat]? with
      | some e => if e.cells.length = sz then some (.cptr e.cells) else none
      | none => none
    else none
  | _ => none

theorem indexAddrA_run {P : Program} {c : Cx} {H : Heap} {w : World} {t e : TypeId} {sz : Nat} {v r : AV} {y : Value} {k : IntKind} {i : Int}
    (hu : P.underlying t = some (.slice e)) (hs : sizeT P e = some sz) (hv : RepV c H w v y) (h : indexAddrA H sz v i = some r) :
    ∃ z, (Instr.indexAt t y (.int k i)).run P w = .ok z w ∧ RepV c H w r z := by
  unfold indexAddrA at h
  split at h
  · rename_i o lo len g full
    split at h
    · rename_i hc
      cases h
      obtain ⟨hg, hz, h0, h1⟩ := hc
      simp only [validO, szOK] at hg hz
      simp only [RepV] at hv
      obtain ⟨x, hx, hgen, hv⟩ := hv
      rw [hx] at hg hz
      have hg : x.gen = g := by simpa using hg
      have hz : x.sz = sz := by simpa using hz
      have hv := hv hg
      cases hρ : c.ρ o with
      | none => rw [hρ] at hv; obtain ⟨_, rfl, _⟩ := hv; omega
      | some b =>
        rw [hρ] at hv
        obtain ⟨cap, e0, n0, rfl, hcc, _⟩ := hv
        refine ⟨.pointer (some ⟨b, lo * x.sz + i.toNat * sz, none⟩), ?_, x, hx, ⟨hgen.1, _, rfl⟩, fun _ => ⟨b, hρ, by rw [Nat.add_mul, hz]; simp⟩⟩
        simp [Instr.indexAt, asIntOf, run_underlying hu, h0, h1, run_sizeT hs, add_eq]
    · cases h
  · rename_i full es
    split at h
    · rename_i h0
      split at h
      · rename_i e1 he
        split at h
        · rename_i hl
          cases h
          simp only [RepV] at hv
          rcases hv with ⟨rfl, _⟩ | ⟨b, off, sz0, cap0, e0, n0, hF, rfl, hcc, hfull, hsh, hn, hes⟩
          · simp at he
          · obtain ⟨g1, g2⟩ := RepEs_iff.1 hes _ e1 he
            have hlt := (List.getElem?_eq_some_iff.1 he).1
            refine ⟨.pointer (some ⟨b, off + i.toNat * sz, none⟩), ?_, b, _, hF, rfl, ?_⟩
            · have h1 : i < (es.length : Int) := by omega
              simp [Instr.indexAt, asIntOf, run_underlying hu, h0, h1, run_sizeT hs, add_eq]
            · rw [← hl, g1]; exact g2
        · cases h
      · cases h
    · cases h
  · cases h

/-- The address of an array's element. -/
def indexArrA (H : Heap) (n sz : Nat) (v : AV) (i : Int) : Option AV :=
  if 0 ≤ i ∧ i < (n : Int) then fieldA H (i.toNat * sz) v else none

theorem indexArrA_run {P : Program} {c : Cx} {H : Heap} {w : World} {t e : TypeId} {n sz : Nat} {v r : AV} {y : Value} {k : IntKind} {i : Int}
    (hu : P.underlying t = some (.array n e)) (hs : sizeT P e = some sz) (hv : RepV c H w v y) (h : indexArrA H n sz v i = some r) :
    ∃ z, (Instr.indexAt t y (.int k i)).run P w = .ok z w ∧ RepV c H w r z := by
  unfold indexArrA at h
  split at h
  · rename_i hc
    have hrun : ∀ b o, (Instr.indexAt t (.pointer (some ⟨b, o, none⟩)) (.int k i)).run P w = .ok (.pointer (some ⟨b, o + i.toNat * sz, none⟩)) w := by
      intro b o
      simp [Instr.indexAt, asIntOf, run_underlying hu, hc, Instr.sureAddr, run_sizeT hs, add_eq]
    unfold fieldA at h
    split at h
    · split at h
      · rename_i hg
        cases h
        obtain ⟨x, b, hx, hxg, hb, rfl⟩ := valid_ptr hg hv
        refine ⟨_, hrun _ _, x, hx, ⟨by omega, _, rfl⟩, fun _ => ⟨b, hb, ?_⟩⟩
        rw [Nat.add_assoc]
      · cases h
    · cases h
      simp only [RepV] at hv
      obtain ⟨b, off, hF, rfl, hc⟩ := hv
      exact ⟨_, hrun _ _, b, _, hF, rfl, hc.drop _⟩
    · cases h
  · cases h

/-- s[i], of a string; a[i], of an array's value. -/
def indexA (P : Program) (t : TypeId) (v : AV) (i : Int) : Option AV :=
  match P.underlying t, v with
  | some .string, .str s => if 0 ≤ i then (s[i.toNat]?).map fun b => .int .u8 b.toNat else none
  | some (.array n e), .agg cs => if 0 ≤ i ∧ i < (n : Int) then match sizeT P e with
      | some sz => partC P e (i.toNat * sz) cs
      | none => none
    else none
  | _, _ => none

theorem indexA_run {P : Program} {c : Cx} {H : Heap} {w : World} {t : TypeId} {v r : AV} {y : Value} {k : IntKind} {i : Int}
    (hv : RepV c H w v y) (h : indexA P t v i = some r) : ∃ z, (Instr.index t y (.int k i)).run P w = .ok z w ∧ RepV c H w r z := by
  unfold indexA at h
  split at h
  · rename_i s hu
    split at h
    · rename_i h0
      obtain ⟨b, hb, rfl⟩ := Option.map_eq_some_iff.1 h
      simp only [RepV] at hv; subst hv
      refine ⟨.int .u8 b.toNat, ?_, rfl⟩
      have hlt := (List.getElem?_eq_some_iff.1 hb).1
      have he : (⟨s.toArray⟩ : ByteArray)[i.toNat]? = some b := by
        have hlt' : i.toNat < (⟨s.toArray⟩ : ByteArray).size := by rw [size_mk]; exact hlt
        rw [getElem?_pos (⟨s.toArray⟩ : ByteArray) i.toNat hlt']
        exact congrArg some (List.getElem?_eq_some_iff.1 hb).2
      simp [Instr.index, asIntOf, run_underlying hu, h0, he]
    · cases h
  · rename_i n e cs hu
    split at h
    · rename_i hc
      split at h
      · rename_i sz hs
        simp only [RepV] at hv
        obtain ⟨vs, rfl, hl⟩ := hv
        obtain ⟨z, hz, hrz⟩ := partC_run h hl
        refine ⟨z, ?_, hrz⟩
        simp [Instr.index, asIntOf, run_underlying hu, hc, run_sizeT hs, hz]
      · cases h
    · cases h
  · cases h

/-- len(x). -/
def lenB (P : Program) (H : Heap) (t : TypeId) (v : AV) : Option Nat :=
  match P.underlying t, v with
  | some .string, .str s => some s.length
  | some (.array n _), _ => some n
  | some (.slice _), v => if validS H v = true then lenA v else none
  | _, _ => none

theorem lenB_run {P : Program} {c : Cx} {H : Heap} {w : World} {t ty : TypeId} {v : AV} {y : Value} {n : Nat} (hv : RepV c H w v y) (h : lenB P H t v = some n) :
    (Builtin.len_ #[t] ty #[y]).run P w = .ok (.int .i64 n) w := by
  unfold lenB at h
  split at h
  · rename_i s hu
    cases h
    simp only [RepV] at hv; subst hv
    simp [Builtin.len_, run_underlying hu, size_mk, goInt]
  · rename_i n' e hu
    cases h
    simp [Builtin.len_, run_underlying hu, goInt]
  · rename_i e hu
    split at h
    · rename_i hg
      obtain ⟨a, cap, rfl, _⟩ := slice_rep hv h hg
      simp [Builtin.len_, run_underlying hu, goInt]
    · cases h
  · cases h

/-- The length of what is known within bounds. -/
def lenR (P : Program) (t : TypeId) (v : AV) : Option AV :=
  match P.underlying t, v with
  | some .string, .strR lo hi => some (.intR .i64 (some (lo : Int)) (hi.map fun (n : Nat) => (n : Int)))
  | some (.slice _), .slR lo hi => some (.intR .i64 (some (lo : Int)) (hi.map fun (n : Nat) => (n : Int)))
  | _, _ => none

theorem lenR_run {P : Program} {c : Cx} {H : Heap} {w : World} {t ty : TypeId} {v r : AV} {y : Value} (hv : RepV c H w v y) (h : lenR P t v = some r) :
    ∃ z, (Builtin.len_ #[t] ty #[y]).run P w = .ok z w ∧ RepV c H w r z := by
  unfold lenR at h
  split at h
  · rename_i lo hi hu
    cases h
    simp only [RepV] at hv
    obtain ⟨s, rfl, h1, h2⟩ := hv
    refine ⟨.int .i64 (s.length : Int), by simp [Builtin.len_, run_underlying hu, size_mk, goInt], ?_⟩
    simp only [RepV]
    refine ⟨_, rfl, fun l hl => by cases hl; omega, fun m hm => ?_⟩
    obtain ⟨q, hq, rfl⟩ := Option.map_eq_some_iff.1 hm
    have := h2 q hq
    omega
  · rename_i e lo hi hu
    cases h
    simp only [RepV] at hv
    obtain ⟨a, l, k, rfl, h1, h2⟩ := hv
    refine ⟨.int .i64 (l : Int), by simp [Builtin.len_, run_underlying hu, goInt], ?_⟩
    simp only [RepV]
    refine ⟨_, rfl, fun l hl => by cases hl; omega, fun m hm => ?_⟩
    obtain ⟨q, hq, rfl⟩ := Option.map_eq_some_iff.1 hm
    have := h2 q hq
    omega
  · cases h

/-- The bytes that cells are. -/
def bytesOf : List AV → Option (List UInt8)
  | [] => some []
  | .int .u8 n :: r => (bytesOf r).map (UInt8.ofNat n.toNat :: ·)
  | _ :: _ => none

/-- The elements of a slice. -/
def elems (H : Heap) : AV → Option (List AV)
  | .own o lo len g _ => match H o with
    | some x => if x.gen = g ∧ lo + len ≤ x.es.length then some ((x.es.drop lo).take len) else none
    | none => none
  | .vec _ es => some es
  | .bs _ l _ => some (l.map fun b => .int .u8 b.toNat)
  | .vecF _ n f => some ((List.range n).map f)
  | .nilsl => some []
  | .esl => some []
  | _ => none

theorem RepB.elems {c : Cx} {w : World} {k : Bool} {l room : List UInt8} {v : Value} (H : Heap) (h : RepB c w k l room v) : (l = [] ∧ v = .slice none 0 0) ∨
    ∃ b off cap e n, c.F b ∧ v = .slice (some ⟨b, off, none⟩) l.length cap ∧ l.length ≤ cap ∧ w.shape? b = some (e, n) ∧ off + cap * 1 ≤ n ∧ RepEs c H w 1 b off (l.map fun b => .int .u8 b.toNat) := by
  rcases h with ⟨rfl, _, rfl⟩ | ⟨b, off, cap, e, n, hF, rfl, hc, _, hs, hn, he⟩
  · exact .inl ⟨rfl, rfl⟩
  · refine .inr ⟨b, off, cap, e, n, hF, rfl, by omega, hs, by omega, ?_⟩
    rw [RepEs_iff]
    intro i x hi
    rw [List.getElem?_map] at hi
    obtain ⟨y, hy, rfl⟩ := Option.map_eq_some_iff.1 hi
    refine ⟨rfl, ?_, trivial⟩
    have := he i y (by rw [List.getElem?_append_left (List.getElem?_eq_some_iff.1 hy).1]; exact hy)
    exact ⟨_, by rwa [Nat.mul_one], rfl⟩

theorem RepC.cells_at {c : Cx} {w : World} (H : Heap) {b off sz : Nat} {x : AV} {vs : List Value} (h1 : vs.length = sz) (h2 : ∀ j v, vs[j]? = some v → cellAt w b (off + j) = some v)
    (h3 : x.isAgg = true ∧ RepC c w x (.agg vs.toArray) ∨ x.isAgg = false ∧ ∃ v, vs = [v] ∧ RepC c w x v) : x.cells.length = sz ∧ RepAt c H w b off x.cells := by
  rcases h3 with ⟨h3, h4⟩ | ⟨h3, v, rfl, h5⟩
  · cases x <;> simp [AV.isAgg] at h3
    rename_i cs
    have := RepC.rep H _ _ h4
    simp only [RepV] at this
    obtain ⟨us, hu, hl⟩ := this
    have hu : vs = us := by simpa using hu
    subst hu
    refine ⟨by rw [← h1, hl.length]; rfl, RepAt_iff.2 fun j y hj => ?_⟩
    have hlt : j < vs.length := by rw [hl.length]; exact (List.getElem?_eq_some_iff.1 hj).1
    exact ⟨_, h2 j _ (List.getElem?_eq_getElem hlt), (RepL_iff.1 hl).2 j y _ hj (List.getElem?_eq_getElem hlt)⟩
  · have hc : x.cells = [x] := by cases x <;> first | rfl | simp [AV.isAgg] at h3
    rw [hc]
    refine ⟨by rw [← h1]; rfl, ⟨v, by simpa using h2 0 v rfl, RepC.rep H _ _ h5⟩, trivial⟩

theorem RepC.elems {c : Cx} {w : World} {k : Bool} {m : Nat} {f : Nat → AV} {v : Value} (H : Heap) (h : RepC c w (.vecF k m f) v) : (m = 0 ∧ v = .slice none 0 0) ∨
    ∃ b off sz cap e n, c.F b ∧ v = .slice (some ⟨b, off, none⟩) m cap ∧ m ≤ cap ∧ w.shape? b = some (e, n) ∧ off + cap * sz ≤ n ∧ RepEs c H w sz b off ((List.range m).map f) := by
  simp only [RepC] at h
  rcases h with h | ⟨b, off, sz, cap, e, n, hF, rfl, hc, _, hs, hn, he⟩
  · exact .inl h
  · refine .inr ⟨b, off, sz, cap, e, n, hF, rfl, hc, hs, hn, ?_⟩
    rw [RepEs_iff]
    intro i x hi
    rw [List.getElem?_map] at hi
    obtain ⟨y, hy, rfl⟩ := Option.map_eq_some_iff.1 hi
    obtain ⟨hlt, hy⟩ := List.getElem?_eq_some_iff.1 hy
    simp only [List.getElem_range] at hy
    subst hy
    obtain ⟨vs, h1, h2, h3⟩ := he i (by simpa using hlt)
    exact RepC.cells_at H h1 h2 h3

theorem elems_rep {c : Cx} {H : Heap} {w : World} {v : AV} {y : Value} {es : List AV} (hH : RepH c H w) (hv : RepV c H w v y) (h : elems H v = some es) :
    (es = [] ∧ ∃ a cap, y = .slice a 0 cap) ∨ ∃ b off sz cap e n, y = .slice (some ⟨b, off, none⟩) es.length cap ∧ es.length ≤ cap ∧ w.shape? b = some (e, n) ∧ off + cap * sz ≤ n ∧ RepEs c H w sz b off es := by
  unfold elems at h
  split at h
  · rename_i o lo len g full
    split at h
    · rename_i x hx
      split at h
      · rename_i hg
        cases h
        simp only [RepV] at hv
        obtain ⟨x', hx', _, hv⟩ := hv
        rw [hx] at hx'; cases hx'
        have hv := hv hg.1
        have hl : ((x.es.drop lo).take len).length = len := by simp; omega
        cases hρ : c.ρ o with
        | none =>
          rw [hρ] at hv
          obtain ⟨rfl, rfl, rfl⟩ := hv
          exact .inl ⟨by simp, _, _, rfl⟩
        | some b =>
          rw [hρ] at hv
          obtain ⟨cap, e0, n0, rfl, hcc, _, hsh, hn⟩ := hv
          have ho := hH.obj o x hx
          simp only [RepO, hρ] at ho
          obtain ⟨_, _, _, _, _, _, _, hes⟩ := ho
          refine .inr ⟨b, lo * x.sz, x.sz, cap, e0, n0, by rw [hl], by omega, hsh, by rw [← Nat.add_mul]; exact hn, ?_⟩
          rw [RepEs_iff] at hes ⊢
          intro i z hi
          rw [List.getElem?_take] at hi
          split at hi
          · rw [List.getElem?_drop] at hi
            have := hes _ z hi
            rwa [show 0 + (lo + i) * x.sz = lo * x.sz + i * x.sz by rw [Nat.add_mul]; omega] at this
          · cases hi
      · cases h
    · cases h
  · cases h
    simp only [RepV] at hv
    rcases hv with ⟨rfl, rfl⟩ | ⟨b, off, sz, cap, e, n, _, rfl, hcc, _, hsh, hn, hes⟩
    · exact .inl ⟨rfl, _, _, rfl⟩
    · exact .inr ⟨b, off, sz, cap, e, n, rfl, hcc, hsh, hn, hes⟩
  · cases h
    simp only [RepV] at hv
    rcases hv.elems H with ⟨rfl, rfl⟩ | ⟨b, off, cap, e, n, _, rfl, hc, hs, hn, he⟩
    · exact .inl ⟨rfl, _, _, rfl⟩
    · exact .inr ⟨b, off, 1, cap, e, n, by simp, by simpa using hc, hs, hn, he⟩
  · cases h
    simp only [RepV] at hv
    rcases hv.elems H with ⟨rfl, rfl⟩ | ⟨b, off, sz, cap, e, n, _, rfl, hc, hs, hn, he⟩
    · exact .inl ⟨rfl, _, _, rfl⟩
    · exact .inr ⟨b, off, sz, cap, e, n, by simp, by simpa using hc, hs, hn, he⟩
  · cases h
    simp only [RepV] at hv
    exact .inl ⟨rfl, _, _, hv⟩
  · cases h
    simp only [RepV] at hv
    exact .inl ⟨rfl, hv⟩
  · cases h

/-- All cells of elements, one behind the other. -/
def flat (es : List AV) : List AV := es.flatMap AV.cells

theorem RepEs.flat {c : Cx} {H : Heap} {w : World} {sz b : Nat} : ∀ {es : List AV} {off : Nat}, RepEs c H w sz b off es →
    RepAt c H w b off (flat es) ∧ (flat es).length = es.length * sz
  | [], _, _ => ⟨trivial, by simp [AM.flat]⟩
  | e :: es, off, h => by
    rw [RepEs_cons] at h
    obtain ⟨⟨h1, h2⟩, h3⟩ := h
    obtain ⟨g1, g2⟩ := RepEs.flat h3
    refine ⟨?_, by simp only [AM.flat, List.flatMap_cons, List.length_append, List.length_cons] at g2 ⊢; rw [g2, h1, Nat.add_mul]; omega⟩
    simp only [AM.flat, List.flatMap_cons]
    rw [RepAt_iff] at h2 g1 ⊢
    intro j x hj
    rw [List.getElem?_append] at hj
    split at hj
    · exact h2 j x hj
    · rename_i hlt
      have := g1 _ x hj
      rwa [show off + sz + (j - e.cells.length) = off + j by omega] at this

theorem bytesOf_ints {c : Cx} {H : Heap} {w : World} : ∀ {xs : List AV} {vs : List Value} {bs : List UInt8}, bytesOf xs = some bs → RepL c H w xs vs →
    ∃ ns : List Int, vs = ns.map (Value.int .u8) ∧ bs = ns.map fun n => UInt8.ofNat n.toNat
  | [], vs, bs, h, hl => by
    simp only [bytesOf] at h; cases h
    simp only [RepL] at hl; subst hl
    exact ⟨[], rfl, rfl⟩
  | x :: xs, vs, bs, h, hl => by
    simp only [RepL] at hl
    obtain ⟨y, ys, rfl, hy, hl⟩ := hl
    cases x with
    | int k n =>
      cases k <;> simp only [bytesOf] at h <;> first | cases h | skip
      obtain ⟨bs', hb, rfl⟩ := Option.map_eq_some_iff.1 h
      obtain ⟨ns, rfl, rfl⟩ := bytesOf_ints hb hl
      simp only [RepV] at hy; subst hy
      exact ⟨n :: ns, rfl, rfl⟩
    | _ => simp [bytesOf] at h

theorem foldl_push (ns : List Int) (s : ByteArray) : ns.foldl (fun r n => r.push (UInt8.ofNat n.toNat)) s = ⟨s.data ++ (ns.map fun n => UInt8.ofNat n.toNat).toArray⟩ := by
  induction ns generalizing s with
  | nil => simp
  | cons n ns ih =>
    rw [List.foldl_cons, ih]
    congr 1
    simp [ByteArray.push]

theorem bytesOf_u8 : ∀ l : List UInt8, bytesOf (l.map fun b => AV.int .u8 b.toNat) = some l
  | [] => rfl
  | x :: l => by
    simp only [List.map_cons, bytesOf, bytesOf_u8 l]
    simp

theorem bytesOf_flat : ∀ {es : List AV} {bs : List UInt8}, bytesOf es = some bs → flat es = es
  | [], _, _ => rfl
  | x :: xs, bs, hb => by
    cases x with
    | int k n =>
      cases k <;> simp only [bytesOf] at hb <;> first | cases hb | skip
      obtain ⟨bs', hb', _⟩ := Option.map_eq_some_iff.1 hb
      have ih := bytesOf_flat hb'
      simp only [AM.flat, List.flatMap_cons, AV.cells] at ih ⊢
      rw [ih]; rfl
    | _ => simp [bytesOf] at hb

/-- string(b). -/
theorem bytesStr_run {P : Program} {c : Cx} {H : Heap} {w : World} {v : AV} {y : Value} {es : List AV} {bs : List UInt8} (hH : RepH c H w) (hv : RepV c H w v y)
    (h : elems H v = some es) (hb : bytesOf es = some bs) : (Conv.bytesToString y).run P w = .ok (.string ⟨bs.toArray⟩) w := by
  rcases elems_rep hH hv h with ⟨rfl, a, cap, rfl⟩ | ⟨b, off, sz, cap, e, n, rfl, _, _, _, hes⟩
  · simp only [bytesOf] at hb; cases hb
    cases a with
    | none => simp [Conv.bytesToString]; rfl
    | some a =>
      have hl : (loadCells a 0).run P w = .ok #[] w := by simpa using run_loadCells_list (P := P) w a [] (by simp)
      have := run_bytesToString (P := P) w a 0 cap [] (by simpa using hl)
      rw [this, foldl_push]; simp
  · have hfl := bytesOf_flat hb
    obtain ⟨g1, _⟩ := hes.flat
    rw [hfl] at g1
    obtain ⟨vs, hl, hc⟩ := g1.vals
    obtain ⟨ns, rfl, rfl⟩ := bytesOf_ints hb hl
    have hlen : es.length = (ns.map (Value.int .u8)).length := hl.length.symm
    have hld := run_loadCells_list (P := P) w ⟨b, off, none⟩ _ (fun j v hj => by rw [add_eq]; exact hc j v hj)
    rw [hlen, run_bytesToString (P := P) w _ _ cap ns hld, foldl_push]
    simp

end Go.AM
