/- The abstract machine: append, shown. -/
import Derived.Test.YtfakpidgkbkhfaaGreatDoorAmApp
namespace Go.AM

def applyEff (H : Heap) : Option (Nat × AObj) → Heap
  | none => H
  | some (n, x) => H.set n x

theorem arr_rep {c : Cx} {H : Heap} {w w' : World} {n g : Nat} {sz len cap : Nat} {st full : Bool} {es : List AV} {cs : Array Value} {e : TypeId} {fz : Nat × Nat} {vs : List Value}
    (hH : RepH c H w) (hx : ∀ x, H n = some x → sz = x.sz ∧ x.gen < g) (hw' : w'.heap = w.heap.push (.cells cs e fz)) (ht : w'.tape = w.tape) (hos : w'.os = w.os) (hout : w'.output = w.output)
    (hf : ∀ j, j < cs.size → ¬ (fz.1 ≤ j ∧ j < fz.2)) (hst : st = false → ∀ j, ¬ (fz.1 ≤ j ∧ j < fz.2))
    (hs : ∀ e ∈ es, e.cells.length = sz) (hc : ∀ (j : Nat) (v : Value), vs[j]? = some v → cs[j]? = some v) (hl : RepL c H w (flat es) vs) (hlen : len ≤ cap) (hfull : full = true → cap = len) (hcap : cap * sz ≤ cs.size) :
    RepH (c.at' n w.heap.size) (H.set n ⟨sz, g, st, es⟩) w' ∧ RepV (c.at' n w.heap.size) (H.set n ⟨sz, g, st, es⟩) w' (.own n 0 len g full) (.slice (some ⟨w.heap.size, 0, none⟩) len cap) ∧
      Grow c H w (c.at' n w.heap.size) (H.set n ⟨sz, g, st, es⟩) w' := by
  obtain ⟨h1, h2⟩ := fresh_at (n := n) (x' := ⟨sz, g, st, es⟩) hH hx hw' ht hos hout hf hst hs hc hl
  refine ⟨h1, ?_, h2⟩
  simp only [RepV]
  refine ⟨_, Heap.set_same .., ⟨Nat.le_refl _, _, _, _, rfl⟩, fun _ => ?_⟩
  simp only [Cx.at', if_true]
  exact ⟨cap, e, cs.size, by simp, hlen, hfull, shape_push hw', by simpa using hcap⟩

/-- The new array of an append. -/
theorem grown_rep {c : Cx} {H : Heap} {w : World} {n g : Nat} {sz : Nat} {st : Bool} {es0 es : List AV} {z : Value} {e : TypeId} {old : Nat} {olds news : List Value}
    (hH : RepH c H w) (hx : ∀ x, H n = some x → sz = x.sz ∧ x.gen < g) (h0 : ∀ e ∈ es0, e.cells.length = sz) (h1 : ∀ e ∈ es, e.cells.length = sz)
    (hl0 : RepL c H w (flat es0) olds) (hl1 : RepL c H w (flat es) news) (hz : z.cells.size = sz) :
    ∃ c', RepH c' (H.set n ⟨sz, g, st, es0 ++ es⟩) (w.drew.alloc (.cells (olds.toArray ++ news.toArray ++ Builtin.zeroCells z.cells (grownCap w (es0.length + es.length) old e - (es0.length + es.length))) e)) ∧
      RepV c' (H.set n ⟨sz, g, st, es0 ++ es⟩) (w.drew.alloc (.cells (olds.toArray ++ news.toArray ++ Builtin.zeroCells z.cells (grownCap w (es0.length + es.length) old e - (es0.length + es.length))) e))
        (.own n 0 (es0.length + es.length) g false) (.slice (some ⟨w.heap.size, 0, none⟩) (es0.length + es.length) (grownCap w (es0.length + es.length) old e)) ∧
      Grow c H w c' (H.set n ⟨sz, g, st, es0 ++ es⟩) (w.drew.alloc (.cells (olds.toArray ++ news.toArray ++ Builtin.zeroCells z.cells (grownCap w (es0.length + es.length) old e - (es0.length + es.length))) e)) := by
  have hge := grownCap_ge w (es0.length + es.length) old e
  have len_flat : ∀ es : List AV, (∀ e ∈ es, e.cells.length = sz) → (flat es).length = es.length * sz := by
    intro es h
    induction es with
    | nil => simp [flat]
    | cons e es ih =>
      have := ih (fun e he => h e (by simp [he]))
      simp only [flat, List.flatMap_cons, List.length_append, List.length_cons] at this ⊢
      rw [this, h e (by simp), Nat.add_mul]; omega
  refine ⟨_, arr_rep (n := n) (g := g) (st := st) (full := false) (vs := olds ++ news) (fz := (0, 0)) hH hx rfl rfl rfl rfl (fun j _ => nofz j) (fun _ j => nofz j) ?_ ?_ ?_ hge (fun h => by cases h) ?_⟩
  · intro e he
    rcases List.mem_append.1 he with h | h
    · exact h0 e h
    · exact h1 e h
  · intro j v hj
    rw [Array.getElem?_append_left]
    · simpa using hj
    · have := (List.getElem?_eq_some_iff.1 hj).1
      simpa using this
  · have : flat (es0 ++ es) = flat es0 ++ flat es := by simp [flat]
    rw [this]
    exact hl0.append hl1
  · simp only [Array.size_append, List.size_toArray, size_zeroCells, hz, hl0.length, hl1.length, len_flat _ h0, len_flat _ h1, ← Nat.add_mul]
    exact Nat.mul_le_mul_right _ (by omega)

/-- 'append' within the room: cells behind the object's elements are written. -/
theorem room_ok {P : Program} {c : Cx} {H : Heap} {w : World} {o b len cap e0 n0 : Nat} {x : AObj} {es : List AV} {news : List Value}
    (hH : RepH c H w) (hx : H o = some x) (hb : c.ρ o = some b) (hlen : len ≤ x.es.length) (hsh : w.shape? b = some (e0, n0)) (hn : cap * x.sz ≤ n0) (hroom : len + es.length ≤ cap)
    (hs : ∀ e ∈ es, e.cells.length = x.sz) (hl : RepL c H w (flat es) news) (h1 : ∀ v ∈ news, v.oneCell' = true) :
    ∃ w', (storeCells ⟨b, len * x.sz, none⟩ news).run P w = .ok () w' ∧ RepH c (H.set o { x with gen := x.gen + 1, es := x.es.take len ++ es }) w' ∧
      Grow c H w c (H.set o { x with gen := x.gen + 1, es := x.es.take len ++ es }) w' := by
  have hob := hH.obj o x hx
  simp only [RepO, hb] at hob
  obtain ⟨hF, cs, ty, fz, hw, hfz, hst, hes⟩ := hob
  have hes' := RepEs_iff.1 hes
  simp only [World.shape?, hw, Option.some.injEq, Prod.mk.injEq] at hsh
  obtain ⟨_, hcs⟩ := hsh
  have len_flat : (flat es).length = es.length * x.sz := by
    clear hl hroom
    induction es with
    | nil => simp [flat]
    | cons e es ih =>
      have := ih (fun e he => hs e (by simp [he]))
      simp only [flat, List.flatMap_cons, List.length_append, List.length_cons] at this ⊢
      rw [this, hs e (by simp), Nat.add_mul]; omega
  have hnl : news.length = es.length * x.sz := by rw [hl.length, len_flat]
  have hfit : len * x.sz + news.length ≤ cs.size := by
    rw [hnl, ← Nat.add_mul, hcs]
    exact Nat.le_trans (Nat.mul_le_mul_right _ hroom) hn
  have hex : ∀ j, j < news.length → (w.cell? ⟨b, len * x.sz + j, none⟩).isSome = true := by
    intro j hj
    have hlt : len * x.sz + j < cs.size := by omega
    simp [World.cell?, hw, hlt]
  have hfr : ∀ j, j < news.length → w.frozen? ⟨b, len * x.sz + j, none⟩ = false := by
    intro j hj
    have := hfz (len * x.sz + j) (by omega)
    simp only [World.frozen?, hw]
    simpa using this
  have hrun := run_storeCells_cells (P := P) b (len * x.sz) news 0 w (by simpa using hex) (by simpa using hfr) h1
  simp only [Nat.add_zero] at hrun
  obtain ⟨⟨cs', g1, g2⟩, g3, g4, g5, g6, g7⟩ := setCells_heap b news (len * x.sz) w cs ty fz hw
  refine ⟨_, hrun, hH.write hx hb hw g1 g2 g3 g4 g5 g6 g7 rfl (Nat.le_succ _) rfl fun m => ?_⟩
  rw [RepEs_iff]
  intro k y hy
  rw [List.getElem?_append] at hy
  have htl : (x.es.take len).length = len := by simp; omega
  rw [htl] at hy
  split at hy
  · rename_i hk
    rw [List.getElem?_take, if_pos hk] at hy
    obtain ⟨f1, f2⟩ := hes' k y hy
    refine ⟨f1, ?_⟩
    rw [RepAt_iff] at f2 ⊢
    intro j z hj
    obtain ⟨u, hu, hr⟩ := f2 j z hj
    refine ⟨u, ?_, RepV.mono m _ _ hr⟩
    rw [Nat.zero_add] at hu ⊢
    simp only [cellAt] at hu ⊢
    have hjs : j < x.sz := by have := (List.getElem?_eq_some_iff.1 hj).1; omega
    rw [World.cell?_setCells_out b news _ w _ (fun _ _ => ?_)]
    · exact hu
    · simp only
      left
      have : (k + 1) * x.sz ≤ len * x.sz := Nat.mul_le_mul_right _ hk
      rw [Nat.add_mul] at this
      omega
  · rename_i hk
    refine ⟨hs y (List.mem_of_getElem? hy), ?_⟩
    rw [RepAt_iff]
    intro j z hj
    have hf := flat_get hs hy hj
    have hlt := (List.getElem?_eq_some_iff.1 hf).1
    have hr := (RepL_iff.1 hl).2 _ z _ hf (List.getElem?_eq_getElem (by rw [hl.length]; exact hlt))
    refine ⟨_, ?_, RepV.mono m _ _ hr⟩
    have := World.cell?_setCells_in b news (len * x.sz) w hex ((k - len) * x.sz + j) (by rw [hl.length]; exact hlt)
    simp only [cellAt]
    rw [show 0 + k * x.sz + j = len * x.sz + ((k - len) * x.sz + j) by
      have : len * x.sz + (k - len) * x.sz = k * x.sz := by rw [← Nat.add_mul]; congr 1; omega
      omega]
    exact this

end Go.AM
