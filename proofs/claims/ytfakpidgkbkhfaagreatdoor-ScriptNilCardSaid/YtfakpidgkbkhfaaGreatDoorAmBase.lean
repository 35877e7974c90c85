/- The abstract machine: values, objects, and what they stand for in a world. -/
import Derived.Calls
namespace Go.AM

/-- Abstract values. 'ptr o i off g': cell off of element i of object o, of generation g; 'cptr': the address of cells that stay;
'vec': a slice whose elements stay (full: its capacity is its length); 'bs': bytes that stay, and what stands behind them (k: nothing more does); 'vecF': n elements that stay, f i each; 'own o lo len g full': a slice over object o; 'esl': some empty slice; 'intR', 'strR', 'slR': some integer, some string, some slice, its value or length within bounds. -/
inductive AV where
  | undef
  | bool (b : Bool)
  | int (k : IntKind) (n : Int)
  | str (s : List UInt8)
  | nilptr
  | ptr (o i off g : Nat)
  | cptr (cells : List AV)
  | nilsl
  | vec (full : Bool) (es : List AV)
  | own (o lo len g : Nat) (full : Bool)
  | esl
  | fn (f : FuncId) (caps : List AV)
  | nilfn
  | iface (t : TypeId) (v : AV)
  | nilif
  | agg (cs : List AV)
  | tup (cs : List AV)
  | intR (k : IntKind) (lo hi : Option Int)
  | strR (lo : Nat) (hi : Option Nat)
  | slR (lo : Nat) (hi : Option Nat)
  | bs (k : Bool) (l room : List UInt8)
  | vecF (k : Bool) (n : Nat) (f : Nat → AV)
  deriving Inhabited

def AV.cells : AV → List AV
  | .agg cs => cs
  | v => [v]

/-- An object: elements of sz cells each; st: its block bears the mark of bytes that a string was turned into. -/
structure AObj where
  sz : Nat
  gen : Nat
  st : Bool
  es : List AV
  deriving Inhabited

abbrev Heap := Nat → Option AObj

def Heap.set (H : Heap) (o : Nat) (x : AObj) : Heap := fun k => if k = o then some x else H k

theorem Heap.set_same (H : Heap) (o : Nat) (x : AObj) : H.set o x o = some x := by simp [Heap.set]
theorem Heap.set_other (H : Heap) {o k : Nat} (x : AObj) (h : k ≠ o) : H.set o x k = H k := by simp [Heap.set, h]

/-- What the values stand for: F: the blocks that stay; ρ: the objects' blocks. -/
structure Cx where
  F : Nat → Prop
  ρ : Nat → Option Nat

def cellAt (w : World) (b i : Nat) : Option Value := w.cell? ⟨b, i, none⟩

/-- Bytes that stay. -/
def RepB (c : Cx) (w : World) (k : Bool) (l room : List UInt8) (v : Value) : Prop :=
  (l = [] ∧ room = [] ∧ v = .slice none 0 0) ∨ ∃ b off cap e n, c.F b ∧ v = .slice (some ⟨b, off, none⟩) l.length cap ∧ l.length + room.length ≤ cap ∧ (k = true → cap = l.length + room.length) ∧
    w.shape? b = some (e, n) ∧ off + cap ≤ n ∧ ∀ i x, (l ++ room)[i]? = some x → cellAt w b (off + i) = some (.int .u8 x.toNat)

/-- Is it a value of several cells? -/
def AV.isAgg : AV → Bool
  | .agg _ => true
  | _ => false

theorem RepB.slice {c : Cx} {w : World} {k : Bool} {l room : List UInt8} {v : Value} (h : RepB c w k l room v) : ∃ a cap, v = .slice a l.length cap ∧ l.length ≤ cap := by
  rcases h with ⟨rfl, _, rfl⟩ | ⟨b, off, cap, e, n, _, rfl, hc, _⟩
  · exact ⟨_, _, rfl, Nat.le_refl _⟩
  · exact ⟨_, _, rfl, by omega⟩

mutual
/-- Values that name no object. -/
def RepC (c : Cx) (w : World) : AV → Value → Prop
  | .undef, _ => True
  | .bool b, v => v = .bool b
  | .int k n, v => v = .int k n
  | .str s, v => v = .string ⟨s.toArray⟩
  | .nilptr, v => v = .pointer none
  | .nilsl, v => v = .slice none 0 0
  | .bs k l room, v => RepB c w k l room v
  | .vecF k n f, v => (n = 0 ∧ v = .slice none 0 0) ∨ ∃ b off sz cap e m, c.F b ∧ v = .slice (some ⟨b, off, none⟩) n cap ∧ n ≤ cap ∧ (k = true → cap = n) ∧
      w.shape? b = some (e, m) ∧ off + cap * sz ≤ m ∧ ∀ i, i < n → ∃ vs : List Value, vs.length = sz ∧ (∀ j v, vs[j]? = some v → cellAt w b (off + i * sz + j) = some v) ∧
        ((f i).isAgg = true ∧ RepC c w (f i) (.agg vs.toArray) ∨ (f i).isAgg = false ∧ ∃ v, vs = [v] ∧ RepC c w (f i) v)
  | .agg cs, v => ∃ vs : List Value, v = .agg vs.toArray ∧ RepCL c w cs vs
  | _, _ => False
def RepCL (c : Cx) (w : World) : List AV → List Value → Prop
  | [], vs => vs = []
  | x :: xs, vs => ∃ y ys, vs = y :: ys ∧ RepC c w x y ∧ RepCL c w xs ys
end

mutual
def RepV (c : Cx) (H : Heap) (w : World) : AV → Value → Prop
  | .undef, _ => True
  | .bool b, v => v = .bool b
  | .int k n, v => v = .int k n
  | .str s, v => v = .string ⟨s.toArray⟩
  | .nilptr, v => v = .pointer none
  | .ptr o i off g, v => ∃ x, H o = some x ∧ (g ≤ x.gen ∧ ∃ p, v = .pointer p) ∧ (x.gen = g → ∃ b, c.ρ o = some b ∧ v = .pointer (some ⟨b, i * x.sz + off, none⟩))
  | .cptr cs, v => ∃ b off, c.F b ∧ v = .pointer (some ⟨b, off, none⟩) ∧ RepAt c H w b off cs
  | .nilsl, v => v = .slice none 0 0
  | .vec full es, v => (es = [] ∧ v = .slice none 0 0) ∨ ∃ b off sz cap e n, c.F b ∧ v = .slice (some ⟨b, off, none⟩) es.length cap ∧
      es.length ≤ cap ∧ (full = true → cap = es.length) ∧ w.shape? b = some (e, n) ∧ off + cap * sz ≤ n ∧ RepEs c H w sz b off es
  | .esl, v => ∃ a c, v = .slice a 0 c
  | .own o lo len g full, v => ∃ x, H o = some x ∧ (g ≤ x.gen ∧ ∃ a l k, v = .slice a l k) ∧ (x.gen = g → match c.ρ o with
      | none => lo = 0 ∧ len = 0 ∧ v = .slice none 0 0
      | some b => ∃ cap e n, v = .slice (some ⟨b, lo * x.sz, none⟩) len cap ∧ len ≤ cap ∧ (full = true → cap = len) ∧ w.shape? b = some (e, n) ∧ (lo + cap) * x.sz ≤ n)
  | .fn f caps, v => ∃ vs : List Value, v = .func (.func f) #[] vs.toArray ∧ RepL c H w caps vs
  | .nilfn, v => v = .nilFunc
  | .iface t x, v => ∃ y, v = .iface t y ∧ RepV c H w x y
  | .nilif, v => v = .nilIface
  | .agg cs, v => ∃ vs : List Value, v = .agg vs.toArray ∧ RepL c H w cs vs
  | .tup cs, v => ∃ vs : List Value, v = .tuple vs.toArray ∧ RepL c H w cs vs
  | .intR k lo hi, v => ∃ n : Int, v = .int k n ∧ (∀ l, lo = some l → l ≤ n) ∧ ∀ h, hi = some h → n ≤ h
  | .strR lo hi, v => ∃ s : List UInt8, v = .string ⟨s.toArray⟩ ∧ lo ≤ s.length ∧ ∀ h, hi = some h → s.length ≤ h
  | .slR lo hi, v => ∃ (a : Option Addr) (l k : Nat), v = .slice a l k ∧ lo ≤ l ∧ ∀ h, hi = some h → l ≤ h
  | .bs k l room, v => RepB c w k l room v
  | .vecF k n f, v => RepC c w (.vecF k n f) v
def RepL (c : Cx) (H : Heap) (w : World) : List AV → List Value → Prop
  | [], vs => vs = []
  | x :: xs, vs => ∃ y ys, vs = y :: ys ∧ RepV c H w x y ∧ RepL c H w xs ys
def RepAt (c : Cx) (H : Heap) (w : World) (b off : Nat) : List AV → Prop
  | [] => True
  | x :: xs => (∃ y, cellAt w b off = some y ∧ RepV c H w x y) ∧ RepAt c H w b (off + 1) xs
def RepEs (c : Cx) (H : Heap) (w : World) (sz b off : Nat) : List AV → Prop
  | [] => True
  | .agg cs :: xs => (cs.length = sz ∧ RepAt c H w b off cs) ∧ RepEs c H w sz b (off + sz) xs
  | x :: xs => (sz = 1 ∧ ∃ y, cellAt w b off = some y ∧ RepV c H w x y) ∧ RepEs c H w sz b (off + sz) xs
end

theorem cellAt_eq {w w' : World} {b : Nat} (h : w'.heap[b]? = w.heap[b]?) (i : Nat) : cellAt w' b i = cellAt w b i := by
  simp [cellAt, World.cell?, h]
theorem shape_eq {w w' : World} {b : Nat} (h : w'.heap[b]? = w.heap[b]?) : w'.shape? b = w.shape? b := by
  simp [World.shape?, h]

/-- What keeps a value's meaning. -/
structure Mono (c : Cx) (H : Heap) (w : World) (c' : Cx) (H' : Heap) (w' : World) : Prop where
  fro : ∀ b, c.F b → c'.F b
  blk : ∀ b, c.F b → w'.heap[b]? = w.heap[b]?
  evo : ∀ o x, H o = some x → ∃ x', H' o = some x' ∧ x'.sz = x.sz ∧ x.gen ≤ x'.gen ∧ (x'.gen = x.gen → c'.ρ o = c.ρ o)
  shp : ∀ b s, w.shape? b = some s → w'.shape? b = some s

theorem RepB.mono {c : Cx} {w : World} {c' : Cx} {w' : World} (hf : ∀ b, c.F b → c'.F b) (hb : ∀ b, c.F b → w'.heap[b]? = w.heap[b]?) {k : Bool} {l room : List UInt8} {v : Value} (h : RepB c w k l room v) : RepB c' w' k l room v := by
  rcases h with h | ⟨b, off, cap, e, n, hF, hv, hc, hk, hs, hn, he⟩
  · exact .inl h
  · exact .inr ⟨b, off, cap, e, n, hf b hF, hv, hc, hk, by rw [shape_eq (hb b hF)]; exact hs, hn, fun i x hx => by rw [cellAt_eq (hb b hF)]; exact he i x hx⟩

mutual
theorem RepC.mono {c : Cx} {w : World} {c' : Cx} {w' : World} (hf : ∀ b, c.F b → c'.F b) (hb : ∀ b, c.F b → w'.heap[b]? = w.heap[b]?) : ∀ (x : AV) (v : Value), RepC c w x v → RepC c' w' x v
  | .undef, _, _ => trivial
  | .bool _, _, h => h
  | .int _ _, _, h => h
  | .str _, _, h => h
  | .nilptr, _, h => h
  | .nilsl, _, h => h
  | .bs k l room, v, h => by
    simp only [RepC] at h ⊢
    exact RepB.mono hf hb h
  | .vecF k n f, v, h => by
    simp only [RepC] at h ⊢
    rcases h with h | ⟨b, off, sz, cap, e, m, hF, hv, hc, hk, hs, hn, he⟩
    · exact .inl h
    · refine .inr ⟨b, off, sz, cap, e, m, hf b hF, hv, hc, hk, by rw [shape_eq (hb b hF)]; exact hs, hn, fun i hi => ?_⟩
      obtain ⟨vs, h1, h2, h3⟩ := he i hi
      refine ⟨vs, h1, fun j v hj => by rw [cellAt_eq (hb b hF)]; exact h2 j v hj, ?_⟩
      rcases h3 with ⟨h3, h4⟩ | ⟨h3, v, h4, h5⟩
      · exact .inl ⟨h3, RepC.mono hf hb (f i) _ h4⟩
      · exact .inr ⟨h3, v, h4, RepC.mono hf hb (f i) _ h5⟩
  | .agg cs, v, h => by
    simp only [RepC] at h ⊢
    obtain ⟨vs, hv, hl⟩ := h
    exact ⟨vs, hv, RepCL.mono hf hb cs vs hl⟩
  | .ptr .., _, h => h.elim
  | .cptr _, _, h => h.elim
  | .vec .., _, h => h.elim
  | .own .., _, h => h.elim
  | .esl, _, h => h.elim
  | .fn .., _, h => h.elim
  | .nilfn, _, h => h.elim
  | .iface .., _, h => h.elim
  | .nilif, _, h => h.elim
  | .tup _, _, h => h.elim
  | .intR .., _, h => h.elim
  | .strR .., _, h => h.elim
  | .slR .., _, h => h.elim
theorem RepCL.mono {c : Cx} {w : World} {c' : Cx} {w' : World} (hf : ∀ b, c.F b → c'.F b) (hb : ∀ b, c.F b → w'.heap[b]? = w.heap[b]?) : ∀ (xs : List AV) (vs : List Value), RepCL c w xs vs → RepCL c' w' xs vs
  | [], _, h => h
  | x :: xs, vs, h => by
    simp only [RepCL] at h ⊢
    obtain ⟨y, ys, hv, hy, hl⟩ := h
    exact ⟨y, ys, hv, RepC.mono hf hb x y hy, RepCL.mono hf hb xs ys hl⟩
end

theorem RepC.slice {c : Cx} {w : World} {k : Bool} {n : Nat} {f : Nat → AV} {v : Value} (h : RepC c w (.vecF k n f) v) : ∃ a cap, v = .slice a n cap ∧ n ≤ cap := by
  simp only [RepC] at h
  rcases h with ⟨rfl, rfl⟩ | ⟨b, off, sz, cap, e, m, _, rfl, hc, _⟩
  · exact ⟨_, _, rfl, Nat.le_refl _⟩
  · exact ⟨_, _, rfl, hc⟩

mutual
theorem RepC.rep {c : Cx} {w : World} (H : Heap) : ∀ (x : AV) (v : Value), RepC c w x v → RepV c H w x v
  | .undef, _, _ => trivial
  | .bool _, _, h => h
  | .int _ _, _, h => h
  | .str _, _, h => h
  | .nilptr, _, h => h
  | .nilsl, _, h => h
  | .bs k l room, v, h => by
    simp only [RepC] at h
    simpa only [RepV] using h
  | .vecF k n f, v, h => by
    simpa only [RepV] using h
  | .agg cs, v, h => by
    simp only [RepC] at h
    simp only [RepV]
    obtain ⟨vs, hv, hl⟩ := h
    exact ⟨vs, hv, RepCL.rep H cs vs hl⟩
  | .ptr .., _, h => h.elim
  | .cptr _, _, h => h.elim
  | .vec .., _, h => h.elim
  | .own .., _, h => h.elim
  | .esl, _, h => h.elim
  | .fn .., _, h => h.elim
  | .nilfn, _, h => h.elim
  | .iface .., _, h => h.elim
  | .nilif, _, h => h.elim
  | .tup _, _, h => h.elim
  | .intR .., _, h => h.elim
  | .strR .., _, h => h.elim
  | .slR .., _, h => h.elim
theorem RepCL.rep {c : Cx} {w : World} (H : Heap) : ∀ (xs : List AV) (vs : List Value), RepCL c w xs vs → RepL c H w xs vs
  | [], _, h => h
  | x :: xs, vs, h => by
    simp only [RepCL] at h
    simp only [RepL]
    obtain ⟨y, ys, hv, hy, hl⟩ := h
    exact ⟨y, ys, hv, RepC.rep H x y hy, RepCL.rep H xs ys hl⟩
end

mutual
theorem RepV.mono {c : Cx} {H : Heap} {w : World} {c' : Cx} {H' : Heap} {w' : World} (m : Mono c H w c' H' w') : ∀ (x : AV) (v : Value), RepV c H w x v → RepV c' H' w' x v
  | .undef, _, _ => trivial
  | .bool _, _, h => h
  | .int _ _, _, h => h
  | .str _, _, h => h
  | .nilptr, _, h => h
  | .ptr o i off g, v, h => by
    simp only [RepV] at h ⊢
    obtain ⟨x, hx, hg, hv⟩ := h
    obtain ⟨x', hx', hsz, hgen, hr⟩ := m.evo o x hx
    refine ⟨x', hx', ⟨Nat.le_trans hg.1 hgen, hg.2⟩, fun e => ?_⟩
    have hxg : x.gen = g := by have := hg.1; omega
    obtain ⟨b, hb, rfl⟩ := hv hxg
    exact ⟨b, by rw [hr (by omega), hb], by rw [hsz]⟩
  | .cptr cs, v, h => by
    simp only [RepV] at h ⊢
    obtain ⟨b, off, hF, hv, ha⟩ := h
    exact ⟨b, off, m.fro b hF, hv, RepAt.mono m cs b off (m.blk b hF) ha⟩
  | .nilsl, _, h => h
  | .vec full es, v, h => by
    simp only [RepV] at h ⊢
    rcases h with h | ⟨b, off, sz, cap, e, n, hF, hv, hc, hf, hs, hn, he⟩
    · exact .inl h
    · exact .inr ⟨b, off, sz, cap, e, n, m.fro b hF, hv, hc, hf, m.shp _ _ hs, hn, RepEs.mono m es sz b off (m.blk b hF) he⟩
  | .esl, _, h => h
  | .own o lo len g full, v, h => by
    simp only [RepV] at h ⊢
    obtain ⟨x, hx, hg, hv⟩ := h
    obtain ⟨x', hx', hsz, hgen, hr⟩ := m.evo o x hx
    refine ⟨x', hx', ⟨Nat.le_trans hg.1 hgen, hg.2⟩, fun e => ?_⟩
    have hxg : x.gen = g := by have := hg.1; omega
    have hv := hv hxg
    rw [hr (by omega)]
    cases hb : c.ρ o with
    | none => rw [hb] at hv; exact hv
    | some b =>
      rw [hb] at hv
      obtain ⟨cap, e, n, hv, hc, hf, hs, hn⟩ := hv
      exact ⟨cap, e, n, by rw [hsz]; exact hv, hc, hf, m.shp _ _ hs, by rw [hsz]; exact hn⟩
  | .fn f caps, v, h => by
    simp only [RepV] at h ⊢
    obtain ⟨vs, hv, hl⟩ := h
    exact ⟨vs, hv, RepL.mono m caps vs hl⟩
  | .nilfn, _, h => h
  | .iface t x, v, h => by
    simp only [RepV] at h ⊢
    obtain ⟨y, hv, hy⟩ := h
    exact ⟨y, hv, RepV.mono m x y hy⟩
  | .nilif, _, h => h
  | .agg cs, v, h => by
    simp only [RepV] at h ⊢
    obtain ⟨vs, hv, hl⟩ := h
    exact ⟨vs, hv, RepL.mono m cs vs hl⟩
  | .tup cs, v, h => by
    simp only [RepV] at h ⊢
    obtain ⟨vs, hv, hl⟩ := h
    exact ⟨vs, hv, RepL.mono m cs vs hl⟩
  | .intR _ _ _, _, h => h
  | .strR _ _, _, h => h
  | .slR _ _, _, h => h
  | .bs _ _ _, _, h => by
    simp only [RepV] at h ⊢
    exact RepB.mono m.fro m.blk h
  | .vecF _ _ _, _, h => by
    simp only [RepV] at h ⊢
    exact RepC.mono m.fro m.blk _ _ h
theorem RepL.mono {c : Cx} {H : Heap} {w : World} {c' : Cx} {H' : Heap} {w' : World} (m : Mono c H w c' H' w') : ∀ (xs : List AV) (vs : List Value), RepL c H w xs vs → RepL c' H' w' xs vs
  | [], _, h => h
  | x :: xs, vs, h => by
    simp only [RepL] at h ⊢
    obtain ⟨y, ys, hv, hy, hl⟩ := h
    exact ⟨y, ys, hv, RepV.mono m x y hy, RepL.mono m xs ys hl⟩
theorem RepAt.mono {c : Cx} {H : Heap} {w : World} {c' : Cx} {H' : Heap} {w' : World} (m : Mono c H w c' H' w') : ∀ (xs : List AV) (b off : Nat), w'.heap[b]? = w.heap[b]? → RepAt c H w b off xs → RepAt c' H' w' b off xs
  | [], _, _, _, _ => trivial
  | x :: xs, b, off, hb, h => by
    simp only [RepAt] at h ⊢
    obtain ⟨⟨y, hy, hv⟩, hl⟩ := h
    exact ⟨⟨y, by rw [cellAt_eq hb]; exact hy, RepV.mono m x y hv⟩, RepAt.mono m xs b (off + 1) hb hl⟩
theorem RepEs.mono {c : Cx} {H : Heap} {w : World} {c' : Cx} {H' : Heap} {w' : World} (m : Mono c H w c' H' w') : ∀ (xs : List AV) (sz b off : Nat), w'.heap[b]? = w.heap[b]? → RepEs c H w sz b off xs → RepEs c' H' w' sz b off xs
  | [], _, _, _, _, _ => trivial
  | x :: xs, sz, b, off, hb, h => by
    cases x with
    | agg cs =>
      simp only [RepEs] at h ⊢
      exact ⟨⟨h.1.1, RepAt.mono m cs b off hb h.1.2⟩, RepEs.mono m xs sz b (off + sz) hb h.2⟩
    | _ =>
      simp only [RepEs] at h ⊢
      obtain ⟨⟨hs, y, hy, hv⟩, hl⟩ := h
      exact ⟨⟨hs, y, by rw [cellAt_eq hb]; exact hy, RepV.mono m _ y hv⟩, RepEs.mono m xs sz b (off + sz) hb hl⟩
end

end Go.AM
