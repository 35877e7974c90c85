/- The abstract machine: reading and writing objects. -/
import Derived.Test.YtfakpidgkbkhfaaGreatDoorAmHeap
import Derived.Laws.IdiomCopy
import Derived.Laws.AppendOwn
namespace Go.AM

theorem cells_agg (cs : List AV) : (AV.agg cs).cells = cs := rfl

theorem RepAt_iff {c : Cx} {H : Heap} {w : World} {b : Nat} : ∀ {xs : List AV} {off : Nat},
    RepAt c H w b off xs ↔ ∀ j x, xs[j]? = some x → ∃ y, cellAt w b (off + j) = some y ∧ RepV c H w x y
  | [], off => by simp [RepAt]
  | x :: xs, off => by
    simp only [RepAt]
    rw [RepAt_iff]
    constructor
    · rintro ⟨h, hs⟩ j y hj
      cases j with
      | zero => simp at hj; subst hj; simpa using h
      | succ j =>
        simp at hj
        have := hs j y hj
        rwa [show off + 1 + j = off + (j + 1) by omega] at this
    · intro h
      refine ⟨by simpa using h 0 x rfl, fun j y hj => ?_⟩
      have := h (j + 1) y (by simpa using hj)
      rwa [show off + (j + 1) = off + 1 + j by omega] at this

theorem RepEs_cons {c : Cx} {H : Heap} {w : World} {sz b off : Nat} {x : AV} {xs : List AV} :
    RepEs c H w sz b off (x :: xs) ↔ (x.cells.length = sz ∧ RepAt c H w b off x.cells) ∧ RepEs c H w sz b (off + sz) xs := by
  cases x with
  | agg cs => simp [RepEs, AV.cells]
  | _ =>
    simp only [RepEs, AV.cells, RepAt, List.length_cons, List.length_nil, and_true]
    constructor
    · rintro ⟨⟨h, h'⟩, hr⟩; exact ⟨⟨h.symm, h'⟩, hr⟩
    · rintro ⟨⟨h, h'⟩, hr⟩; exact ⟨⟨h.symm, h'⟩, hr⟩

theorem RepEs_iff {c : Cx} {H : Heap} {w : World} {sz b : Nat} : ∀ {xs : List AV} {off : Nat},
    RepEs c H w sz b off xs ↔ ∀ i x, xs[i]? = some x → x.cells.length = sz ∧ RepAt c H w b (off + i * sz) x.cells
  | [], off => by simp [RepEs]
  | x :: xs, off => by
    rw [RepEs_cons, RepEs_iff]
    constructor
    · rintro ⟨h, hs⟩ i y hi
      cases i with
      | zero => simp at hi; subst hi; simpa using h
      | succ i =>
        simp at hi
        have := hs i y hi
        rwa [show off + sz + i * sz = off + (i + 1) * sz by rw [Nat.add_mul]; omega] at this
    · intro h
      refine ⟨by simpa using h 0 x rfl, fun i y hi => ?_⟩
      have := h (i + 1) y (by simpa using hi)
      rwa [show off + (i + 1) * sz = off + sz + i * sz by rw [Nat.add_mul]; omega] at this

theorem RepL_iff {c : Cx} {H : Heap} {w : World} : ∀ {xs : List AV} {vs : List Value},
    RepL c H w xs vs ↔ vs.length = xs.length ∧ ∀ (i : Nat) (x : AV) (y : Value), xs[i]? = some x → vs[i]? = some y → RepV c H w x y
  | [], vs => by simp [RepL]
  | x :: xs, vs => by
    simp only [RepL]
    constructor
    · rintro ⟨y, ys, rfl, h, hs⟩
      rw [RepL_iff] at hs
      refine ⟨by simp [hs.1], fun i x' y' hx hy => ?_⟩
      cases i with
      | zero => simp at hx hy; subst hx hy; exact h
      | succ i => simp at hx hy; exact hs.2 i x' y' hx hy
    · rintro ⟨hl, h⟩
      cases vs with
      | nil => simp at hl
      | cons y ys =>
        refine ⟨y, ys, rfl, h 0 x y rfl rfl, RepL_iff.2 ⟨by simpa using hl, fun i x' y' hx hy => h (i + 1) x' y' (by simpa using hx) (by simpa using hy)⟩⟩

theorem RepL.length {c : Cx} {H : Heap} {w : World} {xs : List AV} {vs : List Value} (h : RepL c H w xs vs) : vs.length = xs.length := (RepL_iff.1 h).1

/-- The values of cells, as a list. -/
theorem RepAt.vals {c : Cx} {H : Heap} {w : World} {b off : Nat} : ∀ {xs : List AV}, RepAt c H w b off xs →
    ∃ vs : List Value, RepL c H w xs vs ∧ ∀ j v, vs[j]? = some v → cellAt w b (off + j) = some v := by
  intro xs
  induction xs generalizing off with
  | nil => exact fun _ => ⟨[], rfl, by simp⟩
  | cons x xs ih =>
    rintro ⟨⟨y, hy, hv⟩, hs⟩
    obtain ⟨vs, hl, hc⟩ := ih hs
    refine ⟨y :: vs, ⟨y, vs, rfl, hv, hl⟩, fun j v hj => ?_⟩
    cases j with
    | zero => simp at hj; subst hj; simpa using hy
    | succ j =>
      simp at hj
      have := hc j v hj
      rwa [show off + 1 + j = off + (j + 1) by omega] at this

theorem add_eq (b off n : Nat) : (⟨b, off, none⟩ : Addr).add n = ⟨b, off + n, none⟩ := by
  unfold Addr.add; split <;> simp_all

theorem RepAt.drop {c : Cx} {H : Heap} {w : World} {b off : Nat} {xs : List AV} (n : Nat) (h : RepAt c H w b off xs) :
    RepAt c H w b (off + n) (xs.drop n) := by
  rw [RepAt_iff] at h ⊢
  intro j x hj
  rw [List.getElem?_drop] at hj
  have := h (n + j) x hj
  rwa [show off + (n + j) = off + n + j by omega] at this

theorem RepAt.take {c : Cx} {H : Heap} {w : World} {b off : Nat} {xs : List AV} (n : Nat) (h : RepAt c H w b off xs) :
    RepAt c H w b off (xs.take n) := by
  rw [RepAt_iff] at h ⊢
  intro j x hj
  rw [List.getElem?_take] at hj
  split at hj
  · exact h j x hj
  · cases hj

/-- An object's block is written: the other blocks are as they were. -/
theorem RepH.write {c : Cx} {H : Heap} {w w' : World} {o b : Nat} {x x' : AObj} {cs cs' : Array Value} {e : TypeId} {fz : Nat × Nat}
    (h : RepH c H w) (hx : H o = some x) (hb : c.ρ o = some b) (hw : w.heap[b]? = some (.cells cs e fz)) (hw' : w'.heap[b]? = some (.cells cs' e fz))
    (hs : cs'.size = cs.size) (hsz : w'.heap.size = w.heap.size) (ho : ∀ k, k ≠ b → w'.heap[k]? = w.heap[k]?) (ht : w'.tape = w.tape) (hos : w'.os = w.os) (hout : w'.output = w.output)
    (h1 : x'.sz = x.sz) (h2 : x.gen ≤ x'.gen) (h3 : x'.st = x.st)
    (hes : Mono c H w c (H.set o x') w' → RepEs c (H.set o x') w' x.sz b 0 x'.es) : RepH c (H.set o x') w' ∧ Grow c H w c (H.set o x') w' := by
  have hown : Owns c H b := ⟨o, x, hx, hb⟩
  have howns : ∀ k, Owns c (H.set o x') k → Owns c H k := by
    rintro k ⟨o', y, hy, hk⟩
    by_cases e : o' = o
    · subst e; exact ⟨o', x, hx, hk⟩
    · rw [Heap.set_other _ _ e] at hy; exact ⟨o', y, hy, hk⟩
  have hshp : ∀ k s, w.shape? k = some s → w'.shape? k = some s := by
    intro k s hk
    by_cases e : k = b
    · subst e
      simp only [World.shape?, hw, hw', hs] at hk ⊢
      exact hk
    · rw [shape_eq (ho k e)]; exact hk
  have g : Grow c H w c (H.set o x') w' := by
    refine ⟨fun _ h => h, fun o' y hy => ?_, hshp, by omega, fun k hk hn => ?_, fun k hk _ => howns k hk, fun _ h _ => .inl h, ht, hos, hout⟩
    · by_cases e : o' = o
      · subst e
        rw [hx] at hy; cases hy
        exact ⟨x', Heap.set_same .., h1, by omega, fun _ => rfl⟩
      · exact ⟨y, by rw [Heap.set_other _ _ e]; exact hy, rfl, Nat.le_refl _, fun _ => rfl⟩
    · by_cases e : k = b
      · exact absurd (e ▸ hown) hn
      · exact ho k e
  have m := g.mono h
  refine ⟨⟨fun k hk => by rw [hsz]; exact h.frob k hk, fun o' y hy => ?_, fun o1 o2 y1 y2 k hy1 hy2 hk1 hk2 => ?_⟩, g⟩
  · by_cases e' : o' = o
    · subst e'
      rw [Heap.set_same] at hy; cases hy
      have hob := h.obj o' x hx
      simp only [RepO, hb] at hob ⊢
      obtain ⟨hF, cs0, e0, fz0, hw0, hfz, hst, _⟩ := hob
      rw [hw] at hw0; cases hw0
      exact ⟨hF, cs', e, fz, hw', fun j hj => hfz j (by omega), fun hs' => hst (h3 ▸ hs'), by rw [h1]; exact hes m⟩
    · rw [Heap.set_other _ _ e'] at hy
      have hob := h.obj o' y hy
      simp only [RepO] at hob ⊢
      cases hk : c.ρ o' with
      | none => rw [hk] at hob; exact hob
      | some k =>
        rw [hk] at hob
        obtain ⟨hF, cs0, e0, fz0, hw0, hfz, hst, hr⟩ := hob
        have hne : k ≠ b := fun e => e' (h.inj o' o y x b hy hx (e ▸ hk) hb)
        exact ⟨hF, cs0, e0, fz0, by rw [ho k hne]; exact hw0, hfz, hst, RepEs.mono m _ _ _ _ (ho k hne) hr⟩
  · have old : ∀ o' y, (H.set o x') o' = some y → ∃ y', H o' = some y' := by
      intro o' y hy
      by_cases e : o' = o
      · subst e; exact ⟨x, hx⟩
      · rw [Heap.set_other _ _ e] at hy; exact ⟨y, hy⟩
    obtain ⟨z1, hz1⟩ := old o1 y1 hy1
    obtain ⟨z2, hz2⟩ := old o2 y2 hy2
    exact h.inj o1 o2 z1 z2 k hz1 hz2 hk1 hk2

def Cx.at' (c : Cx) (o b : Nat) : Cx := ⟨c.F, fun k => if k = o then some b else c.ρ k⟩

/-- An object comes to lie in a new block. -/
theorem RepH.fresh {c : Cx} {H : Heap} {w w' : World} {o : Nat} {x' : AObj} {cs : Array Value} {e : TypeId} {fz : Nat × Nat}
    (h : RepH c H w) (hx : ∀ x, H o = some x → x'.sz = x.sz ∧ x.gen < x'.gen) (hw' : w'.heap = w.heap.push (.cells cs e fz))
    (ht : w'.tape = w.tape) (hos : w'.os = w.os) (hout : w'.output = w.output)
    (hf : ∀ j, j < cs.size → ¬ (fz.1 ≤ j ∧ j < fz.2)) (hst : x'.st = false → ∀ j, ¬ (fz.1 ≤ j ∧ j < fz.2))
    (hes : Mono c H w (c.at' o w.heap.size) (H.set o x') w' → RepEs (c.at' o w.heap.size) (H.set o x') w' x'.sz w.heap.size 0 x'.es) :
    RepH (c.at' o w.heap.size) (H.set o x') w' ∧ Grow c H w (c.at' o w.heap.size) (H.set o x') w' := by
  have hold : ∀ k, k < w.heap.size → w'.heap[k]? = w.heap[k]? := fun k hk => by
    rw [hw', Array.getElem?_push]; simp [Nat.ne_of_lt hk]
  have hnew : w'.heap[w.heap.size]? = some (.cells cs e fz) := by rw [hw', Array.getElem?_push]; simp
  have hρ : ∀ k, k ≠ o → (c.at' o w.heap.size).ρ k = c.ρ k := fun k hk => by simp [Cx.at', hk]
  have hρo : (c.at' o w.heap.size).ρ o = some w.heap.size := by simp [Cx.at']
  have hlt : ∀ k s, w.shape? k = some s → k < w.heap.size := by
    intro k s hk
    rcases Nat.lt_or_ge k w.heap.size with g | g
    · exact g
    · simp [World.shape?, Array.getElem?_eq_none g] at hk
  have g : Grow c H w (c.at' o w.heap.size) (H.set o x') w' := by
    refine ⟨fun _ h => h, fun o' y hy => ?_, fun k s hk => ?_, by rw [hw']; simp, fun k hk _ => hold k hk, fun k hk hlk => ?_, fun _ h _ => .inl h, ht, hos, hout⟩
    · by_cases e : o' = o
      · subst e
        obtain ⟨h1, h2⟩ := hx y hy
        exact ⟨x', Heap.set_same .., h1, Nat.le_of_lt h2, fun e => by omega⟩
      · exact ⟨y, by rw [Heap.set_other _ _ e]; exact hy, rfl, Nat.le_refl _, fun _ => hρ o' e⟩
    · rw [shape_eq (hold k (hlt k s hk))]; exact hk
    · obtain ⟨o', y, hy, hk⟩ := hk
      by_cases e : o' = o
      · subst e; rw [hρo] at hk; cases hk; omega
      · rw [Heap.set_other _ _ e] at hy; rw [hρ o' e] at hk; exact ⟨o', y, hy, hk⟩
  have m := g.mono h
  refine ⟨⟨fun k hk => by have := h.frob k hk; rw [hw']; simp; omega, fun o' y hy => ?_, fun o1 o2 y1 y2 k hy1 hy2 hk1 hk2 => ?_⟩, g⟩
  · by_cases e' : o' = o
    · subst e'
      rw [Heap.set_same] at hy; cases hy
      simp only [RepO, hρo]
      exact ⟨fun hF => Nat.lt_irrefl _ (h.frob _ hF), cs, e, fz, hnew, hf, hst, hes m⟩
    · rw [Heap.set_other _ _ e'] at hy
      have hob := h.obj o' y hy
      simp only [RepO, hρ o' e'] at hob ⊢
      cases hk : c.ρ o' with
      | none => rw [hk] at hob; exact hob
      | some k =>
        rw [hk] at hob
        obtain ⟨hF, cs0, e0, fz0, hw0, hfz, hst, hr⟩ := hob
        have hk' : w'.heap[k]? = w.heap[k]? := hold k (h.lt ⟨o', y, hy, hk⟩)
        exact ⟨hF, cs0, e0, fz0, by rw [hk']; exact hw0, hfz, hst, RepEs.mono m _ _ _ _ hk' hr⟩
  · by_cases e1 : o1 = o <;> by_cases e2 : o2 = o
    · rw [e1, e2]
    · subst e1
      rw [hρo] at hk1; cases hk1
      rw [Heap.set_other _ _ e2] at hy2; rw [hρ o2 e2] at hk2
      exact absurd (h.lt ⟨o2, y2, hy2, hk2⟩) (Nat.lt_irrefl _)
    · subst e2
      rw [hρo] at hk2; cases hk2
      rw [Heap.set_other _ _ e1] at hy1; rw [hρ o1 e1] at hk1
      exact absurd (h.lt ⟨o1, y1, hy1, hk1⟩) (Nat.lt_irrefl _)
    · rw [Heap.set_other _ _ e1] at hy1; rw [Heap.set_other _ _ e2] at hy2
      rw [hρ o1 e1] at hk1; rw [hρ o2 e2] at hk2
      exact h.inj o1 o2 y1 y2 k hy1 hy2 hk1 hk2

end Go.AM
