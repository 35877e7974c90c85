/- The abstract machine: heaps, growth, what an operation, a call and a piece of code come to. -/
import Derived.Test.YtfakpidgkbkhfaaGreatDoorAmBase
namespace Go.AM

def RepO (c : Cx) (H : Heap) (w : World) (o : Nat) (x : AObj) : Prop :=
  match c.ρ o with
  | none => x.es = []
  | some b => ¬ c.F b ∧ ∃ cs e fz, w.heap[b]? = some (.cells cs e fz) ∧ (∀ j, j < cs.size → ¬ (fz.1 ≤ j ∧ j < fz.2)) ∧
      (x.st = false → ∀ j, ¬ (fz.1 ≤ j ∧ j < fz.2)) ∧ RepEs c H w x.sz b 0 x.es

structure RepH (c : Cx) (H : Heap) (w : World) : Prop where
  frob : ∀ b, c.F b → b < w.heap.size
  obj : ∀ o x, H o = some x → RepO c H w o x
  inj : ∀ o o' x x' b, H o = some x → H o' = some x' → c.ρ o = some b → c.ρ o' = some b → o = o'

/-- Some object of H lies in block b. -/
def Owns (c : Cx) (H : Heap) (b : Nat) : Prop := ∃ o x, H o = some x ∧ c.ρ o = some b

structure Grow (c : Cx) (H : Heap) (w : World) (c' : Cx) (H' : Heap) (w' : World) : Prop where
  fro : ∀ b, c.F b → c'.F b
  evo : ∀ o x, H o = some x → ∃ x', H' o = some x' ∧ x'.sz = x.sz ∧ x.gen ≤ x'.gen ∧ (x'.gen = x.gen → c'.ρ o = c.ρ o)
  shp : ∀ b s, w.shape? b = some s → w'.shape? b = some s
  size : w.heap.size ≤ w'.heap.size
  keep : ∀ b, b < w.heap.size → ¬ Owns c H b → w'.heap[b]? = w.heap[b]?
  ownd : ∀ b, Owns c' H' b → b < w.heap.size → Owns c H b
  fron : ∀ b, c'.F b → b < w.heap.size → c.F b ∨ Owns c H b
  tape : w'.tape = w.tape
  os : w'.os = w.os
  out : w'.output = w.output

theorem RepH.notF {c : Cx} {H : Heap} {w : World} (h : RepH c H w) {b : Nat} (ho : Owns c H b) : ¬ c.F b := by
  obtain ⟨o, x, hx, hb⟩ := ho
  have := h.obj o x hx
  simp only [RepO, hb] at this
  exact this.1

theorem RepH.lt {c : Cx} {H : Heap} {w : World} (h : RepH c H w) {b : Nat} (ho : Owns c H b) : b < w.heap.size := by
  obtain ⟨o, x, hx, hb⟩ := ho
  have := h.obj o x hx
  simp only [RepO, hb] at this
  obtain ⟨_, cs, e, fz, hh, _⟩ := this
  rcases Nat.lt_or_ge b w.heap.size with g | g
  · exact g
  · rw [Array.getElem?_eq_none g] at hh; cases hh

theorem Grow.mono {c : Cx} {H : Heap} {w : World} {c' : Cx} {H' : Heap} {w' : World} (g : Grow c H w c' H' w') (h : RepH c H w) :
    Mono c H w c' H' w' :=
  ⟨g.fro, fun b hb => g.keep b (h.frob b hb) (fun ho => h.notF ho hb), g.evo, g.shp⟩

theorem Grow.refl (c : Cx) (H : Heap) (w : World) : Grow c H w c H w :=
  ⟨fun _ h => h, fun _ x h => ⟨x, h, rfl, Nat.le_refl _, fun _ => rfl⟩, fun _ _ h => h, Nat.le_refl _, fun _ _ _ => rfl, fun _ h _ => h,
    fun _ h _ => .inl h, rfl, rfl, rfl⟩

theorem Grow.trans {c : Cx} {H : Heap} {w : World} {c1 : Cx} {H1 : Heap} {w1 : World} {c2 : Cx} {H2 : Heap} {w2 : World}
    (g : Grow c H w c1 H1 w1) (k : Grow c1 H1 w1 c2 H2 w2) : Grow c H w c2 H2 w2 where
  fro b h := k.fro b (g.fro b h)
  evo o x h := by
    obtain ⟨x1, h1, s1, g1, r1⟩ := g.evo o x h
    obtain ⟨x2, h2, s2, g2, r2⟩ := k.evo o x1 h1
    exact ⟨x2, h2, s2.trans s1, Nat.le_trans g1 g2, fun e => by rw [r2 (by omega), r1 (by omega)]⟩
  shp b s h := k.shp b s (g.shp b s h)
  size := Nat.le_trans g.size k.size
  keep b hb ho := by
    rw [k.keep b (Nat.lt_of_lt_of_le hb g.size) (fun h => ho (g.ownd b h hb)), g.keep b hb ho]
  ownd b h hb := g.ownd b (k.ownd b h (Nat.lt_of_lt_of_le hb g.size)) hb
  fron b h hb := by
    rcases k.fron b h (Nat.lt_of_lt_of_le hb g.size) with h | h
    · exact g.fron b h hb
    · exact .inr (g.ownd b h hb)
  tape := k.tape.trans g.tape
  os := k.os.trans g.os
  out := k.out.trans g.out

/-- The slots of a frame. -/
structure RepT (c : Cx) (H : Heap) (w : World) (T : List AV) (tmps : Array Value) : Prop where
  size : T.length = tmps.size
  at' : ∀ t, RepV c H w (T.getD t .undef) (tmps.getD t Go.undef)

theorem RepT.mono {c : Cx} {H : Heap} {w : World} {c' : Cx} {H' : Heap} {w' : World} {T : List AV} {tmps : Array Value}
    (m : Mono c H w c' H' w') (h : RepT c H w T tmps) : RepT c' H' w' T tmps :=
  ⟨h.size, fun t => RepV.mono m _ _ (h.at' t)⟩

def putT (T : List AV) (dst : Option Tmp) (v : AV) : List AV :=
  match dst with
  | some d => T.set d v
  | none => T

theorem RepT.put {c : Cx} {H : Heap} {w : World} {T : List AV} {a : Act} {r : AV} {v : Value} (dst : Option Tmp)
    (h : RepT c H w T a.tmps) (hv : RepV c H w r v) : RepT c H w (putT T dst r) (a.put dst v).tmps := by
  cases dst with
  | none => exact h
  | some d =>
    refine ⟨by simp [putT, Act.put, h.size], fun t => ?_⟩
    have := h.at' t
    have hs := h.size
    simp only [putT, Act.put, List.getD_eq_getElem?_getD, Array.getD_eq_getD_getElem?, Array.getElem?_setIfInBounds, List.getElem?_set] at this ⊢
    by_cases e : d = t
    · subst e
      simp only [if_true]
      by_cases hd : d < a.tmps.size
      · have hd' : d < T.length := hs ▸ hd
        simp [hd, hd', hv]
      · have hd' : ¬ d < T.length := hs ▸ hd
        simp [hd, hd', RepV]
    · simp only [e, if_false]; exact this

theorem Act.put_defers (a : Act) (dst : Option Tmp) (v : Value) : (a.put dst v).defers = a.defers := by
  cases dst <;> rfl

/-- What an operation comes to: value r, heap H'. -/
def OpOK (P : Program) (o : Oper) (T : List AV) (H : Heap) (r : AV) (H' : Heap) : Prop :=
  ∀ (c : Cx) (w : World) (a : Act), RepH c H w → RepT c H w T a.tmps → ∀ (next : Act → World → Prop) (Q : Exit → Act → World → Prop),
    (∀ v c' w', RepH c' H' w' → RepV c' H' w' r v → Grow c H w c' H' w' → next (a.put o.dst v) w') → (a.defers = []) → True →
    o.wp P a w next Q ∨ (o.asks P a w ∧ LetsOut Q)

/-- What a call comes to. -/
def CallOK (P : Program) (f : FuncId) (args : List AV) (H : Heap) (r : AV) (H' : Heap) : Prop :=
  ∀ (c : Cx) (w : World) (vs : List Value), RepH c H w → RepL c H w args vs → Calls P f vs.toArray w fun e w' => match e with
    | .returned v => ∃ c', RepH c' H' w' ∧ RepV c' H' w' r v ∧ Grow c H w c' H' w'
    | .panicked _ => False
    | .outgrown => False

/-- What operations, in an order, come to. -/
def OpsOK (P : Program) (ops : Array Oper) (l : List Nat) (T : List AV) (H : Heap) (T' : List AV) (H' : Heap) : Prop :=
  ∀ (c : Cx) (w : World) (a : Act), RepH c H w → RepT c H w T a.tmps → a.defers = [] → ∀ (Q : Exit → Act → World → Prop),
    (∀ a' c' w', RepH c' H' w' → RepT c' H' w' T' a'.tmps → a'.defers = [] → Grow c H w c' H' w' → Q .normal a' w') → True →
    wpOps P ops Q l a w

theorem OpsOK.nil (P : Program) (ops : Array Oper) (T : List AV) (H : Heap) : OpsOK P ops [] T H T H :=
  fun c w a hH hT hd _Q hq _ => hq a c w hH hT hd (Grow.refl c H w)

/-- Is the operation wanted? none: it isn't known. -/
def wantedA (ops : Array Oper) (T : List AV) (o : Oper) : Option Bool :=
  match o.guard with
  | none => some true
  | some (j, want) =>
    match (ops[j]?).bind (·.dst) with
    | none => some false
    | some d => match T.getD d .undef with
      | .bool b => some (b == want)
      | .tup _ => some false
      | _ => none

theorem getD_some {T : List AV} {d : Nat} (h : ∀ x, T.getD d .undef = x → x ≠ .undef) : d < T.length := by
  rcases Nat.lt_or_ge d T.length with g | g
  · exact g
  · exact absurd rfl (h .undef (by simp [List.getD_eq_getElem?_getD, List.getElem?_eq_none g]))

theorem wantedA_eq {c : Cx} {H : Heap} {w : World} {ops : Array Oper} {T : List AV} {tmps : Array Value} {o : Oper} {b : Bool}
    (h : RepT c H w T tmps) (hw : wantedA ops T o = some b) : Region.wanted o (yielded ops tmps) = b := by
  unfold wantedA at hw
  unfold Region.wanted
  cases hg : o.guard with
  | none => rw [hg] at hw; injection hw
  | some jw =>
    obtain ⟨j, want⟩ := jw
    rw [hg] at hw
    simp only at hw ⊢
    unfold yielded
    cases hd : (ops[j]?).bind (·.dst) with
    | none => rw [hd] at hw; cases hw; rfl
    | some d =>
      rw [hd] at hw
      simp only at hw
      have hat := h.at' d
      cases hT : T.getD d .undef with
      | bool x =>
        rw [hT] at hw hat
        simp only at hw
        injection hw with hw; subst hw
        have hl : d < T.length := getD_some (fun x h => by rw [hT] at h; subst h; simp)
        have hl' : d < tmps.size := h.size ▸ hl
        simp only [RepV] at hat
        have : tmps[d]? = some (.bool x) := by
          rw [Array.getD_eq_getD_getElem?] at hat
          rw [Array.getElem?_eq_getElem hl'] at hat ⊢
          simpa using hat
        simp [this]
      | tup x =>
        rw [hT] at hw hat
        simp only at hw
        injection hw with hw; subst hw
        have hl : d < T.length := getD_some (fun x h => by rw [hT] at h; subst h; simp)
        have hl' : d < tmps.size := h.size ▸ hl
        simp only [RepV] at hat
        obtain ⟨vs, hv, _⟩ := hat
        have : tmps[d]? = some (.tuple vs.toArray) := by
          rw [Array.getD_eq_getD_getElem?] at hv
          rw [Array.getElem?_eq_getElem hl'] at hv ⊢
          simpa using hv
        simp [this]
      | _ => rw [hT] at hw; simp at hw

theorem OpsOK.cons {P : Program} {ops : Array Oper} {i : Nat} {l : List Nat} {T : List AV} {H : Heap} {o : Oper} {r : AV} {H1 : Heap}
    {T' : List AV} {H' : Heap} (ho : ops[i]? = some o) (hw : wantedA ops T o = some true) (h1 : OpOK P o T H r H1)
    (h2 : OpsOK P ops l (putT T o.dst r) H1 T' H') : OpsOK P ops (i :: l) T H T' H' := by
  intro c w a hH hT hd Q hq hout
  simp only [wpOps, ho, wantedA_eq hT hw, if_true]
  refine h1 c w a hH hT _ Q (fun v c' w' hH' hv g => ?_) hd hout
  refine h2 c' w' _ hH' ((hT.mono (g.mono hH)).put o.dst hv) (by rw [Act.put_defers]; exact hd) Q (fun a' c2 w2 hH2 hT2 hd2 g2 => ?_) hout
  exact hq a' c2 w2 hH2 hT2 hd2 (g.trans g2)

theorem OpsOK.skip {P : Program} {ops : Array Oper} {i : Nat} {l : List Nat} {T : List AV} {H : Heap} {o : Oper}
    {T' : List AV} {H' : Heap} (ho : ops[i]? = some o) (hw : wantedA ops T o = some false)
    (h2 : OpsOK P ops l (putT T o.dst (.tup [])) H T' H') : OpsOK P ops (i :: l) T H T' H' := by
  intro c w a hH hT hd Q hq hout
  simp only [wpOps, ho, wantedA_eq hT hw, Bool.false_eq_true, if_false]
  exact h2 c w _ hH (hT.put o.dst (by simp [RepV, RepL, Go.undef])) (by rw [Act.put_defers]; exact hd) Q hq hout

/-- What code comes to. -/
def CodeOK (P : Program) (cd : Code) (T : List AV) (H : Heap) (e : Exit) (T' : List AV) (H' : Heap) : Prop :=
  ∀ (c : Cx) (w : World) (a : Act), RepH c H w → RepT c H w T a.tmps → a.defers = [] → ∀ (Q : Exit → Act → World → Prop),
    (∀ a' c' w', RepH c' H' w' → RepT c' H' w' T' a'.tmps → a'.defers = [] → Grow c H w c' H' w' → Q e a' w') → True →
    cd.wp P Q a w

end Go.AM
