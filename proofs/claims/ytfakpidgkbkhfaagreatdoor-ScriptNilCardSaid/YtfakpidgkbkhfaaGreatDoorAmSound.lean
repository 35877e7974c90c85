/- The abstract machine: the evaluator is right. -/
import Derived.Test.YtfakpidgkbkhfaaGreatDoorAmOrder
namespace Go.AM

/-- A call's answers are right. -/
def CallsOK (P : Program) (call : CallF) : Prop :=
  ∀ f args h r h', h.ok → call f args h = some (r, h') → CallOK P f args h.den r h'.den ∧ h'.ok

structure CallAt (P : Program) (T : List AV) (h0 : TH) (o : Oper) (r : AV) (h1 : TH) : Prop where
  out : ∃ fo args ats g caps fn, o.op = .call { callee := .value fo, args, argTypes := ats } ∧ evalA T fo = .fn g caps ∧ P.funcs[g]? = some fn ∧ fn.body.isNone = false ∧
    CallOK P g (args.toList.map (evalA T) ++ caps) h0.den r h1.den

theorem evalOp_call {P : Program} {call : CallF} (hc : CallsOK P call) {T : List AV} {h h1 : TH} {o : Oper} {r : AV} (ho : isCall o.op = true) (hh : h.ok) (he : evalOp P call T h o.op = some (r, h1)) :
    CallAt P T h o r h1 ∧ h1.ok := by
  unfold isCall at ho
  split at ho
  · rename_i fo args ats hop
    rw [hop] at he
    simp only [evalOp] at he
    split at he
    · rename_i g caps hf
      split at he
      · rename_i fn hg
        split at he
        · cases he
        · rename_i hb
          obtain ⟨h2, h3⟩ := hc _ _ _ _ _ hh he
          exact ⟨⟨fo, args, ats, g, caps, fn, hop, hf, hg, by cases hq : fn.body <;> simp_all, h2⟩, h3⟩
      · cases he
    · cases he
  · cases ho

theorem evalOp_other {P : Program} {call : CallF} {T : List AV} {h h1 : TH} {o : Oper} {r : AV} (ho : isCall o.op = false) (he : evalOp P call T h o.op = some (r, h1)) :
    ∃ eff, evalE P h.den h.nx T o.op = some (r, eff) ∧ h.apply eff = some h1 := by
  unfold evalOp at he
  split at he
  · rename_i hop; rw [hop] at ho; simp [isCall] at ho
  · split at he
    · rename_i r' eff hE
      split at he
      · rename_i h' ha
        cases he
        exact ⟨eff, hE, ha⟩
      · cases he
    · cases he

theorem CallAt.ok {P : Program} (hP : NoCount P) {T : List AV} {h0 h1 : TH} {o : Oper} {r : AV} (h : CallAt P T h0 o r h1) : OpOK P o T h0.den r h1.den := by
  obtain ⟨fo, args, ats, g, caps, fn, ho, hf, hg, hb, hk⟩ := h.out
  exact call_ok hP ho rfl hf hg hb hk

theorem evalOp_ok {P : Program} (hP : NoCount P) {call : CallF} (hc : CallsOK P call) {T : List AV} {h h1 : TH} {o : Oper} {r : AV} (hh : h.ok) (he : evalOp P call T h o.op = some (r, h1)) :
    OpOK P o T h.den r h1.den ∧ h1.ok := by
  cases hi : isCall o.op with
  | true =>
    obtain ⟨h2, h3⟩ := evalOp_call hc hi hh he
    exact ⟨h2.ok hP, h3⟩
  | false =>
    obtain ⟨eff, hE, ha⟩ := evalOp_other hi he
    obtain ⟨h2, h3⟩ := TH.apply_den ha hh
    rw [h2]
    exact ⟨evalE_ok hE (fun _ _ => hh _ (Nat.le_refl _)), h3⟩

theorem evalOps_ok {P : Program} (hP : NoCount P) {call : CallF} (hc : CallsOK P call) {ops : Array Oper} : ∀ {l : List Nat} {T : List AV} {h : TH} {T' : List AV} {h' : TH}, h.ok → evalOps P call ops l T h = some (T', h') →
    OpsOK P ops l T h.den T' h'.den ∧ h'.ok
  | [], T, h, T', h', hh, he => by
    simp only [evalOps] at he; cases he
    exact ⟨OpsOK.nil P ops T h.den, hh⟩
  | i :: l, T, h, T', h', hh, he => by
    simp only [evalOps] at he
    split at he
    · cases he
    · rename_i o ho
      split at he
      · cases he
      · rename_i hw
        split at he
        · rename_i r h1 hop
          obtain ⟨g1, g2⟩ := evalOp_ok hP hc hh hop
          obtain ⟨g3, g4⟩ := evalOps_ok hP hc g2 he
          exact ⟨OpsOK.cons ho hw g1 g3, g4⟩
        · cases he
      · rename_i hw
        obtain ⟨g3, g4⟩ := evalOps_ok hP hc hh he
        exact ⟨OpsOK.skip ho hw g3, g4⟩

/-- What an entry says. -/
structure EntOK (P : Program) (ops : Array Oper) (i : Nat) (e : Ent) : Prop where
  ok : e.h0.ok
  out : ∃ o, ops[i]? = some o ∧
    ((wantedA ops e.T o = some false ∧ e.r = .tup [] ∧ e.h1 = e.h0 ∧ e.call = false ∧ e.w = []) ∨
     (wantedA ops e.T o = some true ∧ e.call = false ∧ ∃ eff, (∀ Tx Hx, (∀ x ∈ o.op.operands.toList, evalA Tx x = evalA e.T x) → (∀ o' ∈ e.ids, Hx o' = e.h0.den o') → OpOK P o Tx Hx e.r (applyEff Hx eff)) ∧
       e.h1.den = applyEff e.h0.den eff ∧ (∀ o' ∈ effIds eff, o' ∈ e.ids) ∧ e.w = effIds eff) ∨
     (wantedA ops e.T o = some true ∧ e.call = true ∧ e.ids = callRefs e.T o.op ∧ CallAt P e.T e.h0 o e.r e.h1))

theorem evalA_congr {T T' : List AV} {x : Operand} (h : ∀ t, x = .tmp t → T'.getD t .undef = T.getD t .undef) : evalA T' x = evalA T x := by
  cases x with
  | tmp t => exact h t rfl
  | _ => rfl

theorem wantedA_congr {ops : Array Oper} {T T' : List AV} {o : Oper} (h : ∀ t ∈ o.looksAt ops, T'.getD t .undef = T.getD t .undef) : wantedA ops T' o = wantedA ops T o := by
  unfold wantedA
  cases hg : o.guard with
  | none => rfl
  | some jw =>
    obtain ⟨j, want⟩ := jw
    simp only
    cases hd : (ops[j]?).bind (·.dst) with
    | none => rfl
    | some d =>
      simp only
      rw [h d (by
        unfold Oper.looksAt
        rw [List.mem_append]
        right
        simp [hg, hd])]

theorem looks_op {ops : Array Oper} {o : Oper} {t : Nat} (h : Operand.tmp t ∈ o.op.operands.toList) : t ∈ o.looksAt ops := by
  unfold Oper.looksAt
  rw [List.mem_append]
  left
  exact List.mem_filterMap.2 ⟨.tmp t, h, rfl⟩

/-- What looks at no object answers alike over every heap. -/
theorem evalE_free {P : Program} {H H' : Heap} {nx : Nat} {T T' : List AV} {op : Op} (hf : free op = true) (hT : ∀ x ∈ op.operands.toList, evalA T' x = evalA T x) :
    evalE P H' nx T' op = evalE P H nx T op := by
  have hl : evalE P H nx T' op = evalE P H nx T op := evalE_local hT (fun _ _ _ _ => rfl)
  rw [← hl]
  cases op <;> first
    | (simp [free] at hf; done)
    | rfl

/-- What is evaluated at a place, wherever it is looked at alike. -/
theorem evalE_at {P : Program} {o : Oper} {e : Ent} {eff : Option (Nat × AObj)} (hok : e.h0.ok) (hEv : evalE P e.h0.den e.h0.nx e.T o.op = some (e.r, eff)) (hids : e.ids = opRefs e.T o.op ++ effIds eff)
    {Tx : List AV} {Hx : Heap} (hA : ∀ x ∈ o.op.operands.toList, evalA Tx x = evalA e.T x) (hF : ∀ o' ∈ e.ids, Hx o' = e.h0.den o') : OpOK P o Tx Hx e.r (applyEff Hx eff) := by
  have hloc : evalE P Hx e.h0.nx Tx o.op = some (e.r, eff) := by
    rw [← hEv]
    cases hfr : free o.op with
    | true => exact evalE_free hfr hA
    | false =>
      refine evalE_local hA (fun x hx o' ho' => hF o' ?_)
      rw [hids, List.mem_append]; left
      unfold opRefs
      rw [hfr]
      exact List.mem_flatMap.2 ⟨x, hx, ho'⟩
  refine evalE_ok hloc (fun x hx => ?_)
  have hm : e.h0.nx ∈ e.ids := by rw [hids, List.mem_append]; right; rw [hx]; simp [effIds]
  rw [hF _ hm]
  exact hok _ (Nat.le_refl _)

theorem evalEnts_spec {P : Program} {call : CallF} (hc : CallsOK P call) {ops : Array Oper} : ∀ {l : List Nat} {T : List AV} {h : TH} {es : List Ent} {T' : List AV} {h' : TH}, h.ok → evalEnts P call ops l T h = some (es, T', h') →
    es.length = l.length ∧ h'.ok ∧ ((es.head?.map (·.T)).getD T' = T ∧ (es.head?.map (·.h0.den)).getD h'.den = h.den) ∧
      ∀ k e i, es[k]? = some e → l[k]? = some i → EntOK P ops i e ∧ ((es[k + 1]?).map (·.T)).getD T' = putT e.T (dstAt ops i) e.r ∧ ((es[k + 1]?).map (·.h0.den)).getD h'.den = e.h1.den
  | [], T, h, es, T', h', hh, he => by
    simp only [evalEnts] at he; cases he
    exact ⟨rfl, hh, ⟨rfl, rfl⟩, fun k e i hk => by simp at hk⟩
  | i :: l, T, h, es, T', h', hh, he => by
    simp only [evalEnts] at he
    split at he
    · cases he
    · rename_i o ho
      have hd : dstAt ops i = o.dst := by simp [dstAt, ho]
      have fin : ∀ (e0 : Ent) (es0 : List Ent), e0.T = T → e0.h0.den = h.den → EntOK P ops i e0 → e0.h1.ok → evalEnts P call ops l (putT T o.dst e0.r) e0.h1 = some (es0, T', h') → es = e0 :: es0 →
          es.length = (i :: l).length ∧ h'.ok ∧ ((es.head?.map (·.T)).getD T' = T ∧ (es.head?.map (·.h0.den)).getD h'.den = h.den) ∧
          ∀ k e j, es[k]? = some e → (i :: l)[k]? = some j → EntOK P ops j e ∧ ((es[k + 1]?).map (·.T)).getD T' = putT e.T (dstAt ops j) e.r ∧ ((es[k + 1]?).map (·.h0.den)).getD h'.den = e.h1.den := by
        intro e0 es0 hT0 hh0 hE hok hrec hes
        subst hes
        obtain ⟨r1, r2, ⟨r3, r4⟩, r5⟩ := evalEnts_spec hc hok hrec
        refine ⟨by simp [r1], r2, ⟨by simp [hT0], by simp [hh0]⟩, fun k e j hk hj => ?_⟩
        cases k with
        | zero =>
          simp at hk hj
          subst hk hj
          refine ⟨hE, ?_, ?_⟩
          · rw [hT0, hd, ← r3]; simp [List.head?_eq_getElem?]
          · rw [← r4]; simp [List.head?_eq_getElem?]
        | succ k =>
          simp at hk hj
          have := r5 k e j hk hj
          simpa using this
      split at he
      · cases he
      · rename_i hw
        split at he
        · rename_i hcall
          split at he
          · rename_i r h1 hop
            obtain ⟨g1, g2⟩ := evalOp_call hc hcall hh hop
            split at he
            · rename_i es0 T0 h0 hrec
              cases he
              exact fin ⟨true, callRefs T o.op, [], T, r, h, h1⟩ es0 rfl rfl ⟨hh, o, ho, .inr (.inr ⟨hw, rfl, rfl, g1⟩)⟩ g2 hrec rfl
            · cases he
          · cases he
        · rename_i hcall
          split at he
          · rename_i r eff hE
            split at he
            · rename_i h1 ha
              obtain ⟨g1, g2⟩ := TH.apply_den ha hh
              split at he
              · rename_i es0 T0 h0 hrec
                cases he
                exact fin ⟨false, opRefs T o.op ++ effIds eff, effIds eff, T, r, h, h1⟩ es0 rfl rfl ⟨hh, o, ho, .inr (.inl ⟨hw, rfl, eff, fun Tx Hx hA hF => evalE_at (e := ⟨false, opRefs T o.op ++ effIds eff, effIds eff, T, r, h, h1⟩) hh hE rfl hA hF, g1,
                fun o' ho' => List.mem_append_right _ ho', rfl⟩)⟩ g2 hrec rfl
              · cases he
            · cases he
          · cases he
      · rename_i hw
        split at he
        · rename_i es0 T0 h0 hrec
          cases he
          exact fin ⟨false, [], [], T, .tup [], h, h⟩ es0 rfl rfl ⟨hh, o, ho, .inl ⟨hw, rfl, rfl, rfl, rfl⟩⟩ hh hrec rfl
        · cases he

/-- The drawing that entries are. -/
def drawOf (P : Program) (ops : Array Oper) (es : List Ent) (T' : List AV) (h' : TH) : Draw P ops where
  dst := dstAt ops
  looks := lookAt ops
  F k o := ∃ e, es[k]? = some e ∧ inF e o = true
  W k o := ∃ e, es[k]? = some e ∧ (if e.call = true then e.h0.den o ≠ e.h1.den o else o ∈ e.w)
  T k := ((es[k]?).map (·.T)).getD T'
  H k := ((es[k]?).map (·.h0.den)).getD h'.den
  r k := ((es[k]?).map (·.r)).getD .undef

theorem draw_good_of {P : Program} (hP : NoCount P) {ops : Array Oper} {es : List Ent} {T' : List AV} {h' : TH}
    (hs : statOK ops = true) (hlen : es.length = ops.size) (hd : dynOK ops es = true)
    (get : ∀ k, k < ops.size → ∃ e, es[k]? = some e ∧ EntOK P ops k e ∧ ((es[k + 1]?).map (·.T)).getD T' = putT e.T (dstAt ops k) e.r ∧ ((es[k + 1]?).map (·.h0.den)).getD h'.den = e.h1.den) :
    (drawOf P ops es T' h').Good := by
  unfold statOK at hs
  rw [Bool.and_eq_true] at hs
  obtain ⟨hback, hstat⟩ := hs
  refine ⟨fun k hk => ?_, fun k hk o hw => ?_, fun k o hw => ?_, fun k hk => ?_, fun i j hij hj hconf => ?_, fun k o ho e he' hb => ?_, fun k hk => ?_⟩
  · obtain ⟨e, he1, _, he3, _⟩ := get k hk
    simp only [drawOf, he3, he1, Option.map_some, Option.getD_some]
  · obtain ⟨e, he1, he2, _, he4⟩ := get k hk
    simp only [drawOf, he4, he1, Option.map_some, Option.getD_some]
    have hw : ¬ (if e.call = true then e.h0.den o ≠ e.h1.den o else o ∈ e.w) := fun q => hw ⟨e, he1, q⟩
    obtain ⟨o', ho', h1 | h1 | h1⟩ := he2.out
    · rw [h1.2.2.1]
    · obtain ⟨_, hcl, eff, _, hden, _, hwe⟩ := h1
      rw [hden]
      simp only [hcl, Bool.false_eq_true, if_false, hwe] at hw
      cases eff with
      | none => rfl
      | some nx =>
        obtain ⟨n, x⟩ := nx
        simp only [effIds, List.mem_singleton] at hw
        simp only [applyEff, Heap.set, hw, if_false]
    · simp only [h1.2.1, if_true] at hw
      exact (Classical.not_not.1 hw).symm
  · obtain ⟨e, he1, hw⟩ := hw
    refine ⟨e, he1, ?_⟩
    cases hcl : e.call with
    | true =>
      simp only [hcl, if_true] at hw
      unfold inF
      rw [hcl]
      cases h0 : e.h0.den o with
      | some x => simp
      | none => cases h1 : e.h1.den o with
        | some x => simp
        | none => rw [h0, h1] at hw; exact absurd rfl hw
    | false =>
      simp only [hcl, Bool.false_eq_true, if_false] at hw
      have hk : k < ops.size := by have := (List.getElem?_eq_some_iff.1 he1).1; omega
      obtain ⟨e2, he2, hE, _⟩ := get k hk
      rw [he1] at he2; cases he2
      unfold inF
      rw [Bool.or_eq_true]; left
      refine List.contains_iff_mem.2 ?_
      obtain ⟨o', ho', h1 | h1 | h1⟩ := hE.out
      · rw [h1.2.2.2.2] at hw; cases hw
      · obtain ⟨_, _, eff, _, _, hids, hwe⟩ := h1
        exact hids _ (hwe ▸ hw)
      · rw [h1.2.1] at hcl; cases hcl
  · obtain ⟨e, he1, hE, he3, he4⟩ := get k hk
    intro Tx Hx hlook hfp c w a hH hT hda K Q hK hout
    have hr : (drawOf P ops es T' h').r k = e.r := by simp [drawOf, he1]
    have hTk : (drawOf P ops es T' h').T k = e.T := by simp [drawOf, he1]
    have hHk : (drawOf P ops es T' h').H k = e.h0.den := by simp [drawOf, he1]
    have hH1 : (drawOf P ops es T' h').H (k + 1) = e.h1.den := by simp only [drawOf]; exact he4
    rw [hTk] at hlook
    rw [hHk] at hfp
    rw [hr] at hK
    obtain ⟨o, ho, hcase⟩ := hE.out
    have hdst : (drawOf P ops es T' h').dst k = o.dst := by simp [drawOf, dstAt, ho]
    rw [hdst] at hK
    have hlk : ∀ t ∈ o.looksAt ops, Tx.getD t .undef = e.T.getD t .undef := by
      intro t ht
      exact hlook t (by simp only [drawOf, lookAt, ho]; exact ht)
    have hA : ∀ x ∈ o.op.operands.toList, evalA Tx x = evalA e.T x := fun x hx => evalA_congr fun t ht => hlk t (looks_op (by rw [← ht]; exact hx))
    have hwc := wantedA_congr (ops := ops) (o := o) hlk
    unfold wpOp
    rw [ho]
    simp only
    rcases hcase with h1 | h1 | h1
    · obtain ⟨hw, hr', hh1, hcl, hwe⟩ := h1
      rw [← hwc] at hw
      rw [wantedA_eq hT hw]
      simp only [Bool.false_eq_true, if_false]
      have hupd : (drawOf P ops es T' h').upd k Hx = Hx := by
        funext o'
        simp only [Draw.upd]
        rw [if_neg]
        rintro ⟨e', he', hw'⟩
        rw [he1] at he'; cases he'
        simp only [hcl, Bool.false_eq_true, if_false, hwe] at hw'
        cases hw'
      rw [hupd] at hK
      refine hK _ c w hH ?_ (by rw [AM.Act.put_defers]; exact hda) (Grow.refl _ _ _)
      rw [hr']
      exact hT.put o.dst (by simp [RepV, RepL, Go.undef])
    · obtain ⟨hw, hcl, eff, hEv, hden, hids, hwe⟩ := h1
      rw [← hwc] at hw
      rw [wantedA_eq hT hw]
      simp only [if_true]
      have hF : ∀ o', o' ∈ e.ids → Hx o' = e.h0.den o' := fun o' ho' => hfp o' ⟨e, he1, by unfold inF; rw [List.contains_iff_mem.2 ho']; rfl⟩
      have hupd : (drawOf P ops es T' h').upd k Hx = applyEff Hx eff := by
        funext o'
        simp only [Draw.upd, hH1]
        cases eff with
        | none =>
          rw [if_neg]
          · rfl
          · rintro ⟨e', he', hw'⟩
            rw [he1] at he'; cases he'
            simp only [hcl, Bool.false_eq_true, if_false, hwe, effIds] at hw'
            cases hw'
        | some nx =>
          obtain ⟨n, x⟩ := nx
          simp only [applyEff, Heap.set]
          split
          · rename_i hw'
            obtain ⟨e', he', hw'⟩ := hw'
            rw [he1] at he'; cases he'
            simp only [hcl, Bool.false_eq_true, if_false, hwe, effIds, List.mem_singleton] at hw'
            rw [if_pos hw', hden]
            simp [applyEff, Heap.set, hw']
          · rename_i hw'
            rw [if_neg]
            intro q
            exact hw' ⟨e, he1, by simp [hcl, hwe, effIds, q]⟩
      rw [hupd] at hK
      have hop : OpOK P o Tx Hx e.r (applyEff Hx eff) := hEv Tx Hx hA hF
      exact hop c w a hH hT _ Q (fun v c' w' h1 h2 h3 => hK _ c' w' h1 ((hT.mono (h3.mono hH)).put o.dst h2) (by rw [AM.Act.put_defers]; exact hda) h3) hda hout
    · obtain ⟨hw, hcl, hids, hcall⟩ := h1
      rw [← hwc] at hw
      rw [wantedA_eq hT hw]
      simp only [if_true]
      obtain ⟨fo, args, ats, g, caps, fn, hop, hf, hg, hb, hk2⟩ := hcall.out
      have hf' : evalA Tx fo = .fn g caps := by rw [hA fo (by rw [hop]; simp [Op.operands, Call.operands]), hf]
      have hargs : args.toList.map (evalA Tx) = args.toList.map (evalA e.T) := List.map_congr_left fun x hx => hA x (by rw [hop]; simp [Op.operands, Call.operands]; exact .inr (by simpa using hx))
      have hcallx : CallOK P g (args.toList.map (evalA e.T) ++ caps) Hx e.r ((drawOf P ops es T' h').upd k Hx) := by
        have hwk : ∀ o', (drawOf P ops es T' h').W k o' ↔ e.h0.den o' ≠ e.h1.den o' := by
          intro o'
          constructor
          · rintro ⟨e', he', hw'⟩
            rw [he1] at he'; cases he'
            simpa only [hcl, if_true] using hw'
          · intro q
            exact ⟨e, he1, by simpa only [hcl, if_true] using q⟩
        cases hsh : shutB e.h0 with
        | true =>
          have hfx : ∀ o', e.h0.den o' ≠ none ∨ e.h1.den o' ≠ none ∨ o' ∈ drefsL (args.toList.map (evalA e.T) ++ caps) → Hx o' = e.h0.den o' := by
            intro o' ho'
            refine hfp o' ⟨e, he1, ?_⟩
            unfold inF
            rw [Bool.or_eq_true]
            rcases ho' with h | h | h
            · right
              cases q : e.h0.den o' with
              | none => exact absurd q h
              | some x => simp [hcl]
            · right
              cases q : e.h1.den o' with
              | none => exact absurd q h
              | some x => simp [hcl]
            · left
              refine List.contains_iff_mem.2 ?_
              rw [hids]
              unfold callRefs
              obtain ⟨x, hx, hr⟩ := drefsL_mem.1 h
              rw [List.mem_append] at hx
              rcases hx with hx | hx
              · obtain ⟨y, hy, rfl⟩ := List.mem_map.1 hx
                exact List.mem_flatMap.2 ⟨y, by rw [hop]; simp [Op.operands, Call.operands]; exact .inr (by simpa using hy), hr⟩
              · refine List.mem_flatMap.2 ⟨fo, by rw [hop]; simp [Op.operands, Call.operands], ?_⟩
                rw [hf]
                simp only [drefs]
                exact drefsL_mem.2 ⟨x, hx, hr⟩
          refine frame_ok hk2 (shutB_ok hsh hE.ok) hfx (fun o' => ?_)
          simp only [Draw.upd, hH1]
          by_cases hne : e.h0.den o' = e.h1.den o'
          · rw [if_neg (fun q => (hwk o').1 q hne)]
            by_cases hn : e.h0.den o' = none
            · rw [if_pos ⟨hn, hne ▸ hn⟩]
            · rw [if_neg (fun q => hn q.1), hfx o' (.inl hn), hne]
          · rw [if_pos ((hwk o').2 hne), if_neg (fun q => hne (q.1.trans q.2.symm))]
        | false =>
          have hHx : Hx = e.h0.den := funext fun o' => hfp o' ⟨e, he1, by simp [inF, hcl, hsh]⟩
          have hupd : (drawOf P ops es T' h').upd k Hx = e.h1.den := by
            rw [hHx]
            funext o'
            simp only [Draw.upd, hH1]
            split
            · rfl
            · rename_i hw'
              exact Classical.not_not.1 (fun q => hw' ((hwk o').2 q))
          rw [hupd, hHx]
          exact hk2
      rw [← hargs] at hcallx
      exact (call_ok hP hop rfl hf' hg hb hcallx) c w a hH hT _ Q (fun v c' w' h1 h2 h3 => hK _ c' w' h1 ((hT.mono (h3.mono hH)).put o.dst h2) (by rw [AM.Act.put_defers]; exact hda) h3) hda hout
  · -- order
    have hi : i < ops.size := by omega
    obtain ⟨ei, hei, hEi, _⟩ := get i hi
    obtain ⟨ej, hej, hEj, _⟩ := get j hj
    refine ahead_of j i hj ?_
    have hst := List.all_eq_true.1 (List.all_eq_true.1 hstat j (List.mem_range.2 hj)) i (List.mem_range.2 hij)
    rw [Bool.or_eq_true, Bool.not_eq_true'] at hst
    rcases hst with hst | hst
    · -- no meeting at a slot: so at an object
      have hobj : (∃ o, (drawOf P ops es T' h').W i o ∧ (drawOf P ops es T' h').F j o) ∨ (∃ o, (drawOf P ops es T' h').W j o ∧ (drawOf P ops es T' h').F i o) := by
        unfold tconf at hst
        rw [Bool.or_eq_false_iff] at hst
        obtain ⟨s1, s2⟩ := hst
        rcases hconf with ⟨d, hd1, hd2⟩ | ⟨d, hd1, hd2⟩ | h3 | h3
        · exfalso
          have hd1 : dstAt ops i = some d := hd1
          rw [hd1] at s1
          simp only [Bool.or_eq_false_iff] at s1
          rcases hd2 with hd2 | hd2
          · have : (lookAt ops j).contains d = true := List.contains_iff_mem.2 hd2
            rw [this] at s1; simp at s1
          · have hd2 : dstAt ops j = some d := hd2
            rw [hd2] at s1; simp at s1
        · exfalso
          have hd1 : dstAt ops j = some d := hd1
          rw [hd1] at s2
          have : (lookAt ops i).contains d = true := List.contains_iff_mem.2 hd2
          simp only [this] at s2; cases s2
        · exact .inl h3
        · exact .inr h3
      unfold dynOK at hd
      rw [Bool.or_eq_true] at hd
      rcases hd with hq | hd
      · exfalso
        have q : ∀ k o, ¬ (drawOf P ops es T' h').W k o := by
          rintro k o ⟨e, he1, hw⟩
          have := List.all_eq_true.1 hq e (List.mem_of_getElem? he1)
          unfold quiet at this
          simp only [Bool.and_eq_true, Bool.not_eq_true', List.isEmpty_iff] at this
          simp only [this.1, Bool.false_eq_true, if_false, this.2] at hw
          cases hw
        rcases hobj with ⟨o, h1, _⟩ | ⟨o, h1, _⟩ <;> exact q _ _ h1
      · have hdy := List.all_eq_true.1 (List.all_eq_true.1 hd j (List.mem_range.2 hj)) i (List.mem_range.2 hij)
        rw [hei, hej] at hdy
        simp only [Bool.or_eq_true, Bool.not_eq_true'] at hdy
        rcases hdy.symm with hdy | hdy
        · exfalso
          have chg : ∀ (e : Ent) (o : Nat), changed e o = false → e.h0.den o = e.h1.den o := by
            intro e o hh
            unfold changed at hh
            simp only [Bool.not_eq_false'] at hh
            exact beqO_eq hh
          unfold oconf at hdy
          have plain : ∀ {e : Ent} {o : Nat}, e.call = false → inF e o = true → o ∈ e.ids := by
            intro e o hcl h
            unfold inF at h
            rw [hcl] at h
            simpa using h
          have key : ∀ o, ((if ei.call = true then ei.h0.den o ≠ ei.h1.den o else o ∈ ei.w) ∧ inF ej o = true) ∨ ((if ej.call = true then ej.h0.den o ≠ ej.h1.den o else o ∈ ej.w) ∧ inF ei o = true) → False := by
            intro o hor
            cases hci : ei.call with
            | true =>
              simp only [hci, if_true, Bool.or_eq_false_iff] at hdy
              obtain ⟨⟨hcj, hidj⟩, hwj⟩ := hdy
              simp only [hci, if_true, hcj, Bool.false_eq_true, if_false] at hor
              rcases hor with ⟨h1, h2⟩ | ⟨h1, h2⟩
              · have := List.any_eq_false.1 hidj o (plain hcj h2)
                exact h1 (chg ei o (by simpa using this))
              · exact List.any_eq_false.1 hwj o h1 h2
            | false =>
              cases hcj : ej.call with
              | true =>
                simp only [hci, hcj, Bool.false_eq_true, if_false, if_true, Bool.or_eq_false_iff] at hdy
                obtain ⟨hidi, hwi⟩ := hdy
                simp only [hci, hcj, if_true, Bool.false_eq_true, if_false] at hor
                rcases hor with ⟨h1, h2⟩ | ⟨h1, h2⟩
                · exact List.any_eq_false.1 hwi o h1 h2
                · have := List.any_eq_false.1 hidi o (plain hci h2)
                  exact h1 (chg ej o (by simpa using this))
              | false =>
                simp only [hci, hcj, Bool.false_eq_true, if_false, Bool.or_eq_false_iff] at hdy
                obtain ⟨d1, d2⟩ := hdy
                simp only [hci, hcj, Bool.false_eq_true, if_false] at hor
                rcases hor with ⟨h1, h2⟩ | ⟨h1, h2⟩
                · have := List.any_eq_false.1 d1 o h1
                  exact this (List.contains_iff_mem.2 (plain hcj h2))
                · have := List.any_eq_false.1 d2 o h1
                  exact this (List.contains_iff_mem.2 (plain hci h2))
          rcases hobj with ⟨o, ⟨e1, he1, hw1⟩, ⟨e2, he2, hf2⟩⟩ | ⟨o, ⟨e1, he1, hw1⟩, ⟨e2, he2, hf2⟩⟩
          · rw [hei] at he1; cases he1
            rw [hej] at he2; cases he2
            exact key o (.inl ⟨hw1, hf2⟩)
          · rw [hej] at he1; cases he1
            rw [hei] at he2; cases he2
            exact key o (.inr ⟨hw1, hf2⟩)
        · exact hdy
    · exact hst
  · have hk : k < ops.size := by have := (Array.getElem?_eq_some_iff.1 ho).1; omega
    have := List.all_eq_true.1 hback k (List.mem_range.2 hk)
    rw [ho] at this
    have := List.all_eq_true.1 this e (by simpa using he')
    simpa [hb] using this
  · refine ⟨?_, ?_⟩
    · show dstAt ops k = none
      unfold dstAt
      rw [Array.getElem?_eq_none hk]
    · rintro o ⟨e, he1, _⟩
      rw [List.getElem?_eq_none (by omega)] at he1
      cases he1

theorem draw_good {P : Program} (hP : NoCount P) {ops : Array Oper} {es : List Ent} {T T' : List AV} {h h' : TH} {call : CallF} (hc : CallsOK P call) (hh : h.ok)
    (hs : statOK ops = true) (he : evalEnts P call ops (List.range ops.size) T h = some (es, T', h')) (hd : dynOK ops es = true) : (drawOf P ops es T' h').Good := by
  obtain ⟨r1, r2, ⟨r3, r4⟩, r5⟩ := evalEnts_spec hc hh he
  have hlen : es.length = ops.size := by simpa using r1
  refine draw_good_of hP hs hlen hd fun k hk => ?_
  have h1 : es[k]? = some es[k] := List.getElem?_eq_getElem (by omega)
  exact ⟨_, h1, r5 k _ k h1 (by simp [hk])⟩

end Go.AM
