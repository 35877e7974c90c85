/- The abstract machine: stores. -/
import Derived.Test.YtfakpidgkbkhfaaGreatDoorAmNew
namespace Go.AM

theorem setCells_heap (b : Nat) : ∀ (vs : List Value) (o : Nat) (w : World) (cs : Array Value) (e : TypeId) (fz : Nat × Nat), w.heap[b]? = some (.cells cs e fz) →
    (∃ cs', (w.setCells b o vs).heap[b]? = some (.cells cs' e fz) ∧ cs'.size = cs.size) ∧ (w.setCells b o vs).heap.size = w.heap.size ∧ (∀ k, k ≠ b → (w.setCells b o vs).heap[k]? = w.heap[k]?) ∧
      (w.setCells b o vs).tape = w.tape ∧ (w.setCells b o vs).os = w.os ∧ (w.setCells b o vs).output = w.output
  | [], _, w, cs, e, fz, h => ⟨⟨cs, h, rfl⟩, rfl, fun _ _ => rfl, rfl, rfl, rfl⟩
  | v :: r, o, w, cs, e, fz, h => by
    have hlt : b < w.heap.size := (Array.getElem?_eq_some_iff.1 h).1
    have hb : (w.setCell ⟨b, o, none⟩ v).heap[b]? = some (.cells (cs.setIfInBounds o v) e fz) := by
      simp [World.setCell, Array.getElem?_modify, h]
    have hk : ∀ k, k ≠ b → (w.setCell ⟨b, o, none⟩ v).heap[k]? = w.heap[k]? := by
      intro k hk
      simp [World.setCell, Array.getElem?_modify, Ne.symm hk]
    obtain ⟨⟨cs', h1, h2⟩, h3, h4, h5, h6, h7⟩ := setCells_heap b r (o + 1) _ _ e fz hb
    exact ⟨⟨cs', h1, by rw [h2]; simp⟩, by rw [World.setCells, h3]; simp, fun k hkb => by rw [World.setCells, h4 k hkb, hk k hkb], by rw [World.setCells, h5]; rfl, by rw [World.setCells, h6]; rfl, by rw [World.setCells, h7]; rfl⟩

def oneC : AV → Bool
  | .undef | .agg _ | .tup _ => false
  | _ => true

theorem oneC_rep {c : Cx} {H : Heap} {w : World} {e : AV} {v : Value} (h : RepV c H w e v) (hk : oneC e = true) : v.oneCell' = true ∧ e.cells = [e] := by
  cases e with
  | undef => simp [oneC] at hk
  | agg cs => simp [oneC] at hk
  | tup x => simp [oneC] at hk
  | bool b => simp only [RepV] at h; subst h; exact ⟨rfl, rfl⟩
  | int k n => simp only [RepV] at h; subst h; exact ⟨rfl, rfl⟩
  | str s => simp only [RepV] at h; subst h; exact ⟨rfl, rfl⟩
  | nilptr => simp only [RepV] at h; subst h; exact ⟨rfl, rfl⟩
  | nilsl => simp only [RepV] at h; subst h; exact ⟨rfl, rfl⟩
  | nilfn => simp only [RepV] at h; subst h; exact ⟨rfl, rfl⟩
  | nilif => simp only [RepV] at h; subst h; exact ⟨rfl, rfl⟩
  | esl => simp only [RepV] at h; obtain ⟨_, _, rfl⟩ := h; exact ⟨rfl, rfl⟩
  | iface t x => simp only [RepV] at h; obtain ⟨_, rfl, _⟩ := h; exact ⟨rfl, rfl⟩
  | fn f x => simp only [RepV] at h; obtain ⟨_, rfl, _⟩ := h; exact ⟨rfl, rfl⟩
  | cptr cs' => simp only [RepV] at h; obtain ⟨_, _, _, rfl, _⟩ := h; exact ⟨rfl, rfl⟩
  | vec f es => simp only [RepV] at h; rcases h with ⟨_, rfl⟩ | ⟨_, _, _, _, _, _, _, rfl, _⟩ <;> exact ⟨rfl, rfl⟩
  | ptr o i off g => simp only [RepV] at h; obtain ⟨_, _, ⟨_, _, rfl⟩, _⟩ := h; exact ⟨rfl, rfl⟩
  | own o lo len g full => simp only [RepV] at h; obtain ⟨_, _, ⟨_, _, _, _, rfl⟩, _⟩ := h; exact ⟨rfl, rfl⟩
  | intR k lo hi => simp only [RepV] at h; obtain ⟨_, rfl, _⟩ := h; exact ⟨rfl, rfl⟩
  | strR lo hi => simp only [RepV] at h; obtain ⟨_, rfl, _⟩ := h; exact ⟨rfl, rfl⟩
  | slR lo hi => simp only [RepV] at h; obtain ⟨_, _, _, rfl, _⟩ := h; exact ⟨rfl, rfl⟩
  | bs k l room => simp only [RepV] at h; obtain ⟨_, _, rfl, _⟩ := h.slice; exact ⟨rfl, rfl⟩
  | vecF k n f => simp only [RepV] at h; obtain ⟨_, _, rfl, _⟩ := h.slice; exact ⟨rfl, rfl⟩

theorem oneC_all {c : Cx} {H : Heap} {w : World} {xs : List AV} {vs : List Value} (h : RepL c H w xs vs) (hk : xs.all oneC = true) : ∀ v ∈ vs, v.oneCell' = true := by
  have hl := RepL_iff.1 h
  intro v hv
  obtain ⟨i, hi, rfl⟩ := List.mem_iff_getElem.1 hv
  have hx : xs[i]? = some xs[i] := List.getElem?_eq_getElem (by omega)
  have := hl.2 i _ _ hx (List.getElem?_eq_getElem hi)
  exact (oneC_rep this (List.all_eq_true.1 hk _ (List.mem_of_getElem? hx))).1

def setC (e : AV) (off : Nat) (vs : List AV) : AV :=
  match e with
  | .agg cs => .agg (AM.splice cs off vs)
  | _ => vs.headD .undef

theorem setC_cells {e : AV} {off : Nat} {vs : List AV} (ho : off + vs.length ≤ e.cells.length) (hp : 0 < vs.length) (hk : vs.all oneC = true) :
    (setC e off vs).cells = AM.splice e.cells off vs := by
  cases e with
  | agg cs => rfl
  | _ =>
    simp [AV.cells] at ho
    cases vs with
    | nil => simp at hp
    | cons v vs =>
      simp at ho hk
      have : vs = [] := List.eq_nil_of_length_eq_zero (by omega)
      subst this
      have h0 : off = 0 := by omega
      subst h0
      have hv : v.cells = [v] := by have := hk.1; cases v <;> first | rfl | simp [oneC] at this
      show v.cells = _
      rw [hv]
      simp [AM.splice, AV.cells]

/-- Cells of an element of an object are written. -/
theorem write_ok {P : Program} {c : Cx} {H : Heap} {w : World} {o i off b : Nat} {x : AObj} {e : AV} {xs : List AV} {vs : List Value}
    (hH : RepH c H w) (hx : H o = some x) (hb : c.ρ o = some b) (he : x.es[i]? = some e) (hl : RepL c H w xs vs) (ho : off + xs.length ≤ e.cells.length) (hp : 0 < xs.length) (hk : xs.all oneC = true) :
    ∃ w', (storeCells ⟨b, i * x.sz + off, none⟩ vs).run P w = .ok () w' ∧ RepH c (H.set o { x with es := x.es.set i (setC e off xs) }) w' ∧
      Grow c H w c (H.set o { x with es := x.es.set i (setC e off xs) }) w' := by
  have hob := hH.obj o x hx
  simp only [RepO, hb] at hob
  obtain ⟨hF, cs, ty, fz, hw, hfz, hst, hes⟩ := hob
  have hes' := RepEs_iff.1 hes
  obtain ⟨hsz, hat⟩ := hes' i e he
  rw [Nat.zero_add] at hat
  have hat' := RepAt_iff.1 hat
  have hlen := hl.length
  have hex : ∀ j, j < vs.length → (w.cell? ⟨b, i * x.sz + off + j, none⟩).isSome = true := by
    intro j hj
    have hlt : off + j < e.cells.length := by omega
    obtain ⟨y, hy, _⟩ := hat' (off + j) _ (List.getElem?_eq_getElem hlt)
    simp only [cellAt] at hy
    rw [show i * x.sz + off + j = i * x.sz + (off + j) by omega, hy]; rfl
  have hfr : ∀ j, j < vs.length → w.frozen? ⟨b, i * x.sz + off + j, none⟩ = false := by
    intro j hj
    have := hex j hj
    have hlt : i * x.sz + off + j < cs.size := by
      simp only [World.cell?, hw] at this
      simp at this
      exact this
    have := hfz _ hlt
    simp only [World.frozen?, hw]
    simpa using this
  have hrun := run_storeCells_cells (P := P) b (i * x.sz + off) vs 0 w (by simpa using hex) (by simpa using hfr) (oneC_all hl hk)
  simp only [Nat.add_zero] at hrun
  obtain ⟨⟨cs', h1, h2⟩, h3, h4, h5, h6, h7⟩ := setCells_heap b vs (i * x.sz + off) w cs ty fz hw
  refine ⟨_, hrun, hH.write hx hb hw h1 h2 h3 h4 h5 h6 h7 rfl (Nat.le_refl _) rfl fun m => ?_⟩
  rw [RepEs_iff]
  intro k y hy
  simp only [List.getElem?_set] at hy
  by_cases ek : i = k
  · subst ek
    have hlt : i < x.es.length := (List.getElem?_eq_some_iff.1 he).1
    simp [hlt] at hy
    subst hy
    rw [setC_cells ho hp hk]
    refine ⟨by rw [splice_length _ _ _ ho]; exact hsz, ?_⟩
    rw [RepAt_iff]
    intro j z hj
    rw [splice_get _ _ _ ho] at hj
    rw [Nat.zero_add]
    split at hj
    · rename_i hc
      have hjl : j - off < vs.length := by omega
      have hr := (RepL_iff.1 hl).2 _ z _ hj (List.getElem?_eq_getElem hjl)
      refine ⟨_, ?_, RepV.mono m _ _ hr⟩
      have := World.cell?_setCells_in b vs (i * x.sz + off) w hex (j - off) hjl
      simp only [cellAt]
      rwa [show i * x.sz + off + (j - off) = i * x.sz + j by omega] at this
    · rename_i hc
      obtain ⟨y, hy, hr⟩ := hat' j z hj
      refine ⟨y, ?_, RepV.mono m _ _ hr⟩
      simp only [cellAt] at hy ⊢
      rw [World.cell?_setCells_out b vs _ w _ (fun _ _ => by simp only; omega)]
      exact hy
  · simp [ek] at hy
    obtain ⟨g1, g2⟩ := hes' k y hy
    refine ⟨g1, ?_⟩
    rw [RepAt_iff] at g2 ⊢
    intro j z hj
    obtain ⟨u, hu, hr⟩ := g2 j z hj
    refine ⟨u, ?_, RepV.mono m _ _ hr⟩
    rw [Nat.zero_add] at hu ⊢
    simp only [cellAt] at hu ⊢
    have hjs : j < x.sz := by have := (List.getElem?_eq_some_iff.1 hj).1; omega
    rw [World.cell?_setCells_out b vs _ w _ (fun _ _ => ?_)]
    · exact hu
    · simp only
      rcases Nat.lt_or_gt_of_ne ek with hlt | hgt
      · right
        have : (i + 1) * x.sz ≤ k * x.sz := Nat.mul_le_mul_right _ hlt
        rw [Nat.add_mul] at this
        omega
      · left
        have : (k + 1) * x.sz ≤ i * x.sz := Nat.mul_le_mul_right _ hgt
        rw [Nat.add_mul] at this
        omega

def evalStore (P : Program) (H : Heap) (T : List AV) (t : TypeId) (addr val : Operand) : Option (Nat × AObj) :=
  match evalA T addr with
  | .ptr o i off g => match H o with
    | some x => match x.es[i]?, sizeT P t with
      | some e, some n =>
        let v := evalA T val
        if x.gen = g ∧ v.cells.length = n ∧ 0 < n ∧ v.cells.all oneC = true ∧ off + n ≤ e.cells.length then
          some (o, { x with es := x.es.set i (setC e off v.cells) }) else none
      | _, _ => none
    | none => none
  | _ => none

theorem store_ok {P : Program} {H : Heap} {T : List AV} {o : Oper} {t : TypeId} {addr val : Operand} {n : Nat} {x' : AObj} (ho : o.op = .store t addr val)
    (h : evalStore P H T t addr val = some (n, x')) : OpOK P o T H (.tup []) (H.set n x') := by
  intro c w a hH hT next Q hnx _ _
  unfold evalStore at h
  split at h
  · rename_i o' i off g ha
    split at h
    · rename_i x hx
      split at h
      · rename_i e sz he hsz
        dsimp only at h
        split at h
        · rename_i hc
          obtain ⟨hg, hl, hpos, hone, hoff⟩ := hc
          cases h
          have hA := evalA_rep hT addr
          rw [ha] at hA
          simp only [RepV] at hA
          obtain ⟨x2, hx2, _, hA⟩ := hA
          rw [hx] at hx2; cases hx2
          obtain ⟨b, hb, hA⟩ := hA hg
          have hk : known (evalA T val) = true := by
            cases hv : evalA T val <;> first | rfl | (rw [hv] at hone; simp [AV.cells, oneC] at hone)
          obtain ⟨vs, hvs, hlv⟩ := cells_rep (evalA_rep hT val) hk
          obtain ⟨w', hrun, h1, h2⟩ := write_ok (P := P) (off := off) hH hx hb he hlv (by rw [hl]; exact hoff) (by rw [hl]; exact hpos) hone
          refine .inl ?_
          have hvl : vs.length = sz := by rw [hlv.length]; exact hl
          have : (execOp a.eval o).run P w = .ok .skip w' := by
            simp [execOp, ho, Instr.storeAt, hA, Instr.sureAddr, storeVar, hvs, run_sizeT hsz, hvl, hrun]
          rw [Oper.wp, this]
          exact hnx Go.undef c w' h1 ⟨[], rfl, rfl⟩ h2
        · cases h
      · cases h
    · cases h
  · cases h

end Go.AM
