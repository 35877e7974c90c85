/- The abstract machine: what a call does not reach stays beside it. -/
import Derived.Test.YtfakpidgkbkhfaaGreatDoorAmLocal
namespace Go.AM

mutual
/-- The objects that a value names, at any depth. -/
def drefs : AV → List Nat
  | .ptr o _ _ _ => [o]
  | .own o _ _ _ _ => [o]
  | .cptr cs => drefsL cs
  | .vec _ es => drefsL es
  | .fn _ cs => drefsL cs
  | .iface _ x => drefs x
  | .agg cs => drefsL cs
  | .tup cs => drefsL cs
  | _ => []
def drefsL : List AV → List Nat
  | [] => []
  | x :: xs => drefs x ++ drefsL xs
end

theorem drefsL_mem {o : Nat} : ∀ {xs : List AV}, o ∈ drefsL xs ↔ ∃ x ∈ xs, o ∈ drefs x
  | [] => by simp [drefsL]
  | x :: xs => by simp [drefsL, drefsL_mem (xs := xs)]

mutual
theorem RepV.loc {c : Cx} {H H' : Heap} {w : World} : ∀ (x : AV) (v : Value), (∀ o ∈ drefs x, H' o = H o) → RepV c H w x v → RepV c H' w x v
  | .undef, _, _, _ => trivial
  | .bool _, _, _, h => h
  | .int _ _, _, _, h => h
  | .str _, _, _, h => h
  | .nilptr, _, _, h => h
  | .ptr o i off g, v, hl, h => by
    simp only [RepV] at h ⊢
    obtain ⟨x, hx, h⟩ := h
    exact ⟨x, by rw [hl o (by simp [drefs]), hx], h⟩
  | .cptr cs, v, hl, h => by
    simp only [RepV] at h ⊢
    obtain ⟨b, off, hF, hv, ha⟩ := h
    exact ⟨b, off, hF, hv, RepAt.loc cs b off (fun o ho => hl o (by simpa only [drefs] using ho)) ha⟩
  | .nilsl, _, _, h => h
  | .vec full es, v, hl, h => by
    simp only [RepV] at h ⊢
    rcases h with h | ⟨b, off, sz, cap, e, n, hF, hv, hc, hf, hs, hn, he⟩
    · exact .inl h
    · exact .inr ⟨b, off, sz, cap, e, n, hF, hv, hc, hf, hs, hn, RepEs.loc es sz b off (fun o ho => hl o (by simpa only [drefs] using ho)) he⟩
  | .esl, _, _, h => h
  | .own o lo len g full, v, hl, h => by
    simp only [RepV] at h ⊢
    obtain ⟨x, hx, h⟩ := h
    exact ⟨x, by rw [hl o (by simp [drefs]), hx], h⟩
  | .fn f caps, v, hl, h => by
    simp only [RepV] at h ⊢
    obtain ⟨vs, hv, h⟩ := h
    exact ⟨vs, hv, RepL.loc caps vs (fun o ho => hl o (by simpa only [drefs] using ho)) h⟩
  | .nilfn, _, _, h => h
  | .iface t x, v, hl, h => by
    simp only [RepV] at h ⊢
    obtain ⟨y, hv, hy⟩ := h
    exact ⟨y, hv, RepV.loc x y (fun o ho => hl o (by simpa only [drefs] using ho)) hy⟩
  | .nilif, _, _, h => h
  | .agg cs, v, hl, h => by
    simp only [RepV] at h ⊢
    obtain ⟨vs, hv, h⟩ := h
    exact ⟨vs, hv, RepL.loc cs vs (fun o ho => hl o (by simpa only [drefs] using ho)) h⟩
  | .tup cs, v, hl, h => by
    simp only [RepV] at h ⊢
    obtain ⟨vs, hv, h⟩ := h
    exact ⟨vs, hv, RepL.loc cs vs (fun o ho => hl o (by simpa only [drefs] using ho)) h⟩
  | .intR _ _ _, _, _, h => h
  | .strR _ _, _, _, h => h
  | .slR _ _, _, _, h => h
  | .bs _ _ _, _, _, h => by simpa only [RepV] using h
  | .vecF _ _ _, _, _, h => by simpa only [RepV] using h
theorem RepL.loc {c : Cx} {H H' : Heap} {w : World} : ∀ (xs : List AV) (vs : List Value), (∀ o ∈ drefsL xs, H' o = H o) → RepL c H w xs vs → RepL c H' w xs vs
  | [], _, _, h => h
  | x :: xs, vs, hl, h => by
    simp only [RepL] at h ⊢
    obtain ⟨y, ys, hv, hy, h⟩ := h
    exact ⟨y, ys, hv, RepV.loc x y (fun o ho => hl o (by simp [drefsL, ho])) hy, RepL.loc xs ys (fun o ho => hl o (by simp [drefsL, ho])) h⟩
theorem RepAt.loc {c : Cx} {H H' : Heap} {w : World} : ∀ (xs : List AV) (b off : Nat), (∀ o ∈ drefsL xs, H' o = H o) → RepAt c H w b off xs → RepAt c H' w b off xs
  | [], _, _, _, _ => trivial
  | x :: xs, b, off, hl, h => by
    simp only [RepAt] at h ⊢
    obtain ⟨⟨y, hy, hv⟩, h⟩ := h
    exact ⟨⟨y, hy, RepV.loc x y (fun o ho => hl o (by simp [drefsL, ho])) hv⟩, RepAt.loc xs b (off + 1) (fun o ho => hl o (by simp [drefsL, ho])) h⟩
theorem RepEs.loc {c : Cx} {H H' : Heap} {w : World} : ∀ (xs : List AV) (sz b off : Nat), (∀ o ∈ drefsL xs, H' o = H o) → RepEs c H w sz b off xs → RepEs c H' w sz b off xs
  | [], _, _, _, _, _ => trivial
  | x :: xs, sz, b, off, hl, h => by
    have h2 : ∀ o ∈ drefsL xs, H' o = H o := fun o ho => hl o (by simp [drefsL, ho])
    cases x with
    | agg cs =>
      simp only [RepEs] at h ⊢
      exact ⟨⟨h.1.1, RepAt.loc cs b off (fun o ho => hl o (by simp [drefsL, drefs, ho])) h.1.2⟩, RepEs.loc xs sz b (off + sz) h2 h.2⟩
    | _ =>
      simp only [RepEs] at h ⊢
      obtain ⟨⟨hs, y, hy, hv⟩, hr⟩ := h
      exact ⟨⟨hs, y, hy, RepV.loc _ y (fun o ho => hl o (by simp only [drefsL]; exact List.mem_append_left _ ho)) hv⟩, RepEs.loc xs sz b (off + sz) h2 hr⟩
end

/-- No object names what is not there. -/
def Shut (H : Heap) : Prop := ∀ o x, H o = some x → ∀ r ∈ drefsL x.es, H r ≠ none

theorem frame_ok {P : Program} {f : FuncId} {args : List AV} {H0 : Heap} {r : AV} {H1 : Heap} (h : CallOK P f args H0 r H1) (hs : Shut H0)
    {Hx H2 : Heap} (hx : ∀ o, H0 o ≠ none ∨ H1 o ≠ none ∨ o ∈ drefsL args → Hx o = H0 o)
    (h2 : ∀ o, H2 o = if H0 o = none ∧ H1 o = none then Hx o else H1 o) : CallOK P f args Hx r H2 := by
  intro c w vs hH hv
  have sub : ∀ {o x}, H0 o = some x → Hx o = some x := fun {o x} h => by rw [hx o (.inl (by simp [h])), h]
  have hH0 : RepH c H0 w := by
    refine ⟨hH.frob, fun o x ho => ?_, fun o o' x x' b h1 h2 => hH.inj o o' x x' b (sub h1) (sub h2)⟩
    have := hH.obj o x (sub ho)
    unfold RepO at this ⊢
    cases hb : c.ρ o with
    | none => rw [hb] at this; exact this
    | some b =>
      rw [hb] at this
      obtain ⟨h1, cs, e, fz, h2, h3, h4, h5⟩ := this
      exact ⟨h1, cs, e, fz, h2, h3, h4, RepEs.loc _ _ _ _ (fun r hr => (hx r (.inl (hs o x ho r hr))).symm) h5⟩
  have hv0 : RepL c H0 w args vs := RepL.loc _ _ (fun o ho => (hx o (.inr (.inr ho))).symm) hv
  refine (h c w vs hH0 hv0).mono fun e w' he => ?_
  cases e with
  | panicked _ => exact he
  | outgrown => exact he
  | returned v =>
    obtain ⟨c1, k1, k2, g⟩ := he
    -- what H0 had, H1 has
    have ev : ∀ {o}, H1 o = none → H0 o = none := fun {o} h => by
      cases h0 : H0 o with
      | none => rfl
      | some x => obtain ⟨x', hx', _⟩ := g.evo o x h0; rw [h] at hx'; cases hx'
    let X : Nat → Prop := fun o => H0 o = none ∧ H1 o = none
    have hXd : ∀ o, X o ↔ H1 o = none := fun o => ⟨fun h => h.2, fun h => ⟨ev h, h⟩⟩
    have e1 : ∀ {o x}, H1 o = some x → H2 o = some x := fun {o x} h => by rw [h2, if_neg (by simp [h]), h]
    have eX : ∀ {o}, H1 o = none → H2 o = Hx o := fun {o} h => by rw [h2, if_pos ⟨ev h, h⟩]
    let c2 : Cx := ⟨c1.F, fun o => if (H1 o).isNone then c.ρ o else c1.ρ o⟩
    have r1 : ∀ {o x}, H1 o = some x → c2.ρ o = c1.ρ o := fun {o x} h => by simp [c2, h]
    have rX : ∀ {o}, H1 o = none → c2.ρ o = c.ρ o := fun {o} h => by simp [c2, h]
    have m1 : Mono c1 H1 w' c2 H2 w' :=
      ⟨fun _ h => h, fun _ _ => rfl, fun o x ho => ⟨x, e1 ho, rfl, Nat.le_refl _, fun _ => r1 ho⟩, fun _ _ h => h⟩
    have own0 : ∀ {b}, Owns c H0 b → Owns c Hx b := fun {b} ⟨o, x, ho, hb⟩ => ⟨o, x, sub ho, hb⟩
    -- the blocks of what stays beside
    have beside : ∀ {o x b}, H1 o = none → Hx o = some x → c.ρ o = some b → ¬ Owns c H0 b := by
      rintro o x b hn hxo hb ⟨o', x', ho', hb'⟩
      have := hH.inj o o' x x' b hxo (sub ho') hb hb'
      subst this
      rw [ev hn] at ho'; cases ho'
    have blt : ∀ {o x b}, Hx o = some x → c.ρ o = some b → b < w.heap.size := fun {o x b} h1 h2 => hH.lt ⟨o, x, h1, h2⟩
    have g2 : Grow c Hx w c2 H2 w' := by
      refine ⟨g.fro, fun o x ho => ?_, g.shp, g.size, fun b hb hn => g.keep b hb (fun q => hn (own0 q)), fun b hb hlt => ?_, fun b hb hlt => ?_, g.tape, g.os, g.out⟩
      · cases h1 : H1 o with
        | none => exact ⟨x, by rw [eX h1, ho], rfl, Nat.le_refl _, fun _ => rX h1⟩
        | some x1 =>
          have h0 : H0 o = some x := by rw [← hx o (.inr (.inl (by simp [h1]))), ho]
          obtain ⟨x', hx', q1, q2, q3⟩ := g.evo o x h0
          exact ⟨x', e1 hx', q1, q2, fun e => by rw [r1 h1, q3 e]⟩
      · obtain ⟨o, x, ho, hb⟩ := hb
        cases h1 : H1 o with
        | none => rw [eX h1] at ho; rw [rX h1] at hb; exact ⟨o, x, ho, hb⟩
        | some x1 => rw [r1 h1] at hb; exact own0 (g.ownd b ⟨o, x1, h1, hb⟩ hlt)
      · rcases g.fron b hb hlt with h | h
        · exact .inl h
        · exact .inr (own0 h)
    have mX : Mono c Hx w c2 H2 w' := g2.mono hH
    refine ⟨c2, ⟨k1.frob, fun o x ho => ?_, fun o o' x x' b ho ho' hb hb' => ?_⟩, RepV.mono m1 _ _ k2, g2⟩
    · cases h1 : H1 o with
      | some x1 =>
        rw [e1 h1] at ho; cases ho
        have := k1.obj o x h1
        unfold RepO at this ⊢
        rw [r1 h1]
        cases hb : c1.ρ o with
        | none => rw [hb] at this; exact this
        | some b =>
          rw [hb] at this
          obtain ⟨q1, cs, e, fz, q2, q3, q4, q5⟩ := this
          exact ⟨q1, cs, e, fz, q2, q3, q4, RepEs.mono m1 _ _ _ _ rfl q5⟩
      | none =>
        rw [eX h1] at ho
        have := hH.obj o x ho
        unfold RepO at this ⊢
        rw [rX h1]
        cases hb : c.ρ o with
        | none => rw [hb] at this; exact this
        | some b =>
          rw [hb] at this
          obtain ⟨q1, cs, e, fz, q2, q3, q4, q5⟩ := this
          have hlt := blt ho hb
          have hno := beside h1 ho hb
          have hkeep := g.keep b hlt hno
          refine ⟨fun hF => ?_, cs, e, fz, by rw [hkeep]; exact q2, q3, q4, RepEs.mono mX _ _ _ _ hkeep q5⟩
          rcases g.fron b hF hlt with h | h
          · exact q1 h
          · exact hno h
    · have cross : ∀ {o o' x x' b}, H1 o = some x → H1 o' = none → Hx o' = some x' → c1.ρ o = some b → c.ρ o' = some b → False := by
        intro o o' x x' b h1 h1' hx' hb hb'
        have hlt := blt hx' hb'
        exact beside h1' hx' hb' (g.ownd b ⟨o, x, h1, hb⟩ hlt)
      cases h1 : H1 o with
      | some x1 =>
        rw [r1 h1] at hb
        cases h1' : H1 o' with
        | some x1' => rw [r1 h1'] at hb'; exact k1.inj o o' _ _ b h1 h1' hb hb'
        | none => rw [rX h1'] at hb'; rw [eX h1'] at ho'; exact (cross h1 h1' ho' hb hb').elim
      | none =>
        rw [rX h1] at hb
        rw [eX h1] at ho
        cases h1' : H1 o' with
        | some x1' => rw [r1 h1'] at hb'; exact (cross h1' h1 ho hb' hb).elim
        | none => rw [rX h1'] at hb'; rw [eX h1'] at ho'; exact hH.inj o o' _ _ b ho ho' hb hb'

end Go.AM
