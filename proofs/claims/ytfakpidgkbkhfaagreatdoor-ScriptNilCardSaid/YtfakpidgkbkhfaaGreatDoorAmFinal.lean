/- The abstract machine: what the evaluator answers, every run answers. -/
import Derived.Test.YtfakpidgkbkhfaaGreatDoorAmSound
namespace Go.AM

theorem Mono.of_heap {c : Cx} {H : Heap} {w w' : World} (h : w'.heap = w.heap) : Mono c H w c H w' :=
  ⟨fun _ h => h, fun b _ => by rw [h], fun o x hx => ⟨x, hx, rfl, Nat.le_refl _, fun _ => rfl⟩, fun b s hs => by simpa [World.shape?, h] using hs⟩

theorem RepH.of_heap {c : Cx} {H : Heap} {w w' : World} (h : w'.heap = w.heap) (hH : RepH c H w) : RepH c H w' := by
  have m : Mono c H w c H w' := Mono.of_heap h
  refine ⟨fun b hb => by rw [h]; exact hH.frob b hb, fun o x hx => ?_, hH.inj⟩
  have := hH.obj o x hx
  simp only [RepO] at this ⊢
  cases hb : c.ρ o with
  | none => rw [hb] at this; exact this
  | some b =>
    rw [hb] at this
    obtain ⟨h1, cs, e, fz, h2, h3, h4, h5⟩ := this
    exact ⟨h1, cs, e, fz, by rw [h]; exact h2, h3, h4, RepEs.mono m _ _ _ _ (by rw [h]) h5⟩

theorem lw_none (p : Nat → Bool) : ∀ n, lw (fun _ => false) p n = 0
  | 0 => rfl
  | n + 1 => by simp [lw, lw_none p n]

theorem draw_code {P : Program} (hm : P.follows .mixedOrders = true) {id : Nat} {ops : Array Oper} {es : List Ent} {T T' : List AV} {h h' : TH}
    (G : (drawOf P ops es T' h').Good) (hlen : es.length = ops.size) (r3 : (es.head?.map (·.T)).getD T' = T) (r4 : (es.head?.map (·.h0.den)).getD h'.den = h.den) :
    CodeOK P (.region id ops true) T h.den .normal T' h'.den := by
  have eT' : (drawOf P ops es T' h').T 0 = T := by
    rw [← r3]; simp [drawOf, List.head?_eq_getElem?]
  have eH0 : (drawOf P ops es T' h').H 0 = h.den := by
    rw [← r4]; simp [drawOf, List.head?_eq_getElem?]
  have eTn : (drawOf P ops es T' h').T ops.size = T' := by
    simp only [drawOf]; rw [List.getElem?_eq_none (by omega)]; rfl
  have eHn : (drawOf P ops es T' h').H ops.size = h'.den := by
    simp only [drawOf]; rw [List.getElem?_eq_none (by omega)]; rfl
  intro c w a hH hT hd Q hq hout
  refine wp_region_any hm ?_
  have hS : (fun i => (Array.replicate ops.size false).getD i false) = fun _ => false := by
    funext i
    simp only [Array.getD_eq_getD_getElem?, Array.getElem?_replicate]
    split <;> rfl
  have hw : ({ w with drawn := w.drawn + 1 } : World).heap = w.heap := rfl
  have eHS : (drawOf P ops es T' h').HS (fun i => (Array.replicate ops.size false).getD i false) = h.den := by
    rw [hS, ← eH0]
    funext o
    simp only [Draw.HS, lw_none]
  have eTS : (drawOf P ops es T' h').TS (fun i => (Array.replicate ops.size false).getD i false) = T := by
    rw [hS]
    apply List.ext_getElem
    · simp [Draw.TS, eT']
    · intro t h1 h2
      rw [getD_of _ t h1, getD_of _ t h2, G.TS_getD, lw_none, eT']
  have g0 : Grow c h.den w c h.den { w with drawn := w.drawn + 1 } :=
    ⟨fun _ h => h, fun o x hx => ⟨x, hx, rfl, Nat.le_refl _, fun _ => rfl⟩, fun b s hs => hs, Nat.le_refl _, fun _ _ _ => rfl, fun _ h _ => h, fun _ h _ => .inl h, rfl, rfl, rfl⟩
  refine G.any ops.size (Array.replicate ops.size false) (by simp) (fun i hi => ?_) ?_ ?_ c _ a ?_ ?_ hd Q (fun a' c' w' h1 h2 h3 h4 => ?_) hout
  · have := congrFun hS i
    rw [this] at hi; cases hi
  · exact Nat.le_trans (List.length_filter_le _ _) (by simp)
  · rw [hS]; intro k o _ hk; cases hk
  · rw [eHS]; exact hH.of_heap hw
  · rw [eHS, eTS]; exact hT.mono (Mono.of_heap hw)
  · rw [eHn] at h1 h2 h4
    rw [eTn] at h2
    rw [eHS] at h4
    exact hq a' c' w' h1 h2 h3 (g0.trans h4)

theorem draw_ok {P : Program} (hP : NoCount P) (hm : P.follows .mixedOrders = true) {call : CallF} (hc : CallsOK P call) {id : Nat} {ops : Array Oper} {T T' : List AV} {h h' : TH} (hh : h.ok)
    (he : evalDraw P call ops T h = some (T', h')) : CodeOK P (.region id ops true) T h.den .normal T' h'.den ∧ h'.ok := by
  unfold evalDraw at he
  split at he
  · rename_i hs
    split at he
    · rename_i es T0 h0 hev
      split at he
      · rename_i hdy
        cases he
        obtain ⟨r1, r2, ⟨r3, r4⟩, _⟩ := evalEnts_spec hc hh hev
        exact ⟨draw_code hm (draw_good hP hc hh hs hev hdy) (by simpa using r1) r3 r4, r2⟩
      · cases he
    · cases he
  · cases he

/-- A way to do drawn regions that is right. -/
def DrawOK (P : Program) (_call : CallF) (draw : DrawF) : Prop :=
  ∀ id ops T h T' h', h.ok → draw ops T h = some (T', h') → CodeOK P (.region id ops true) T h.den .normal T' h'.den ∧ h'.ok

theorem execC_ok {P : Program} (hP : NoCount P) {call : CallF} (hc : CallsOK P call) {draw : DrawF} (hd : DrawOK P call draw) (lf : Nat) : ∀ (cd : Code) (T : List AV) (h : TH) (e : Exit) (T' : List AV) (h' : TH), h.ok →
    execC P call draw lf cd T h = some (e, T', h') → CodeOK P cd T h.den e T' h'.den ∧ h'.ok := by
  intro cd
  induction cd with
  | skip => intro T h e T' h' hh he; simp only [execC] at he; cases he; exact ⟨CodeOK.skip P T _, hh⟩
  | label l => intro T h e T' h' hh he; simp only [execC] at he; cases he; exact ⟨CodeOK.label P l T _, hh⟩
  | ret => intro T h e T' h' hh he; simp only [execC] at he; cases he; exact ⟨CodeOK.ret P T _, hh⟩
  | exit id => intro T h e T' h' hh he; simp only [execC] at he; cases he; exact ⟨CodeOK.exit P id T _, hh⟩
  | seq a b iha ihb =>
    intro T h e T' h' hh he
    simp only [execC] at he
    split at he
    · rename_i T1 h1 h1e
      obtain ⟨g1, g2⟩ := iha T h _ T1 h1 hh h1e
      obtain ⟨g3, g4⟩ := ihb T1 h1 e T' h' g2 he
      exact ⟨CodeOK.seq g1 g3, g4⟩
    · rename_i hne
      cases hr : execC P call draw lf a T h with
      | none => rw [hr] at he; cases he
      | some x =>
        obtain ⟨e1, T1, h1⟩ := x
        rw [hr] at he
        have hx : (e1, T1, h1) = (e, T', h') := by
          cases e1 <;> first
            | exact absurd hr (hne T1 h1)
            | (simpa using he)
        cases hx
        obtain ⟨g1, g2⟩ := iha T h e T' h' hh hr
        refine ⟨CodeOK.seq_out g1 ?_, g2⟩
        cases e <;> first
          | rfl
          | exact absurd hr (hne T' h')
  | cond c a b iha ihb =>
    intro T h e T' h' hh he
    simp only [execC] at he
    split at he
    · rename_i hx
      obtain ⟨g1, g2⟩ := iha T h e T' h' hh he
      exact ⟨CodeOK.cond hx g1, g2⟩
    · rename_i hx
      obtain ⟨g1, g2⟩ := ihb T h e T' h' hh he
      exact ⟨CodeOK.cond hx g1, g2⟩
    · cases he
  | block id a iha =>
    intro T h e T' h' hh he
    simp only [execC] at he
    split at he
    · rename_i e1 T1 h1 h1e
      cases he
      obtain ⟨g1, g2⟩ := iha T h e1 T' h' hh h1e
      exact ⟨CodeOK.block g1, g2⟩
    · cases he
  | loop a iha =>
    intro T h e T' h' hh he
    simp only [execC] at he
    have key : ∀ n T h, h.ok → iter (fun T h => execC P call draw lf a T h) n T h = some (e, T', h') → RoundsOK P a n T h.den e T' h'.den ∧ h'.ok := by
      intro n
      induction n with
      | zero => intro T h _ hi; simp [iter] at hi
      | succ n ihn =>
        intro T h hh hi
        simp only [iter] at hi
        split at hi
        · rename_i T1 h1 h1e
          obtain ⟨g1, g2⟩ := iha T h _ T1 h1 hh h1e
          obtain ⟨g3, g4⟩ := ihn T1 h1 g2 hi
          exact ⟨RoundsOK.next g1 g3, g4⟩
        · rename_i hne
          cases hr : execC P call draw lf a T h with
          | none => rw [hr] at hi; cases hi
          | some x =>
            obtain ⟨e1, T1, h1⟩ := x
            rw [hr] at hi
            have hx : (e1, T1, h1) = (e, T', h') := by
              cases e1 <;> first
                | exact absurd hr (hne T1 h1)
                | (simpa using hi)
            cases hx
            obtain ⟨g1, g2⟩ := iha T h e T' h' hh hr
            refine ⟨RoundsOK.out g1 ?_, g2⟩
            cases e <;> first
              | rfl
              | exact absurd hr (hne T' h')
    obtain ⟨g1, g2⟩ := key lf T h hh he
    exact ⟨CodeOK.loop g1, g2⟩
  | region id ops dr =>
    intro T h e T' h' hh he
    simp only [execC] at he
    split at he
    · rename_i T1 h1 h1e
      cases he
      cases dr with
      | true =>
        simp only [if_true] at h1e
        exact hd id ops T h T' h' hh h1e
      | false =>
        simp only [Bool.false_eq_true, if_false] at h1e
        obtain ⟨g1, g2⟩ := evalOps_ok hP hc hh h1e
        exact ⟨CodeOK.region g1, g2⟩
    · cases he
  | _ => intro T h e T' h' hh he; simp [execC] at he

/-- The evaluator's answers are right. -/
theorem callN_ok {P : Program} (hP : NoCount P) (hm : P.follows .mixedOrders = true) (lf : Nat) : ∀ n, CallsOK P (callN P (evalDraw P) lf n)
  | 0 => by intro f args h r h' _ he; simp [callN] at he
  | n + 1 => by
    have ih := callN_ok hP hm lf n
    intro f args h r h' hh he
    simp only [callN] at he
    split at he
    · cases he
    · rename_i fn hf
      split at he
      · cases he
      · rename_i cd hb
        split at he
        · rename_i e T' h1 hex
          split at he
          · rename_i hend
            split at he
            · rename_i vs hvs
              cases he
              obtain ⟨g1, g2⟩ := execC_ok hP ih (fun id ops T h T' h' hh hd => draw_ok hP hm ih hh hd) lf cd _ h e T' h' hh hex
              exact ⟨callOK_of_code hf hb g1 hend hvs, g2⟩
            · cases he
          · cases he
        · cases he

end Go.AM
