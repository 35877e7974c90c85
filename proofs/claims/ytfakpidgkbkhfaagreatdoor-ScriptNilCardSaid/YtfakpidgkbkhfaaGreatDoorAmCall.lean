/- The abstract machine: calls, results, code. -/
import Derived.Test.YtfakpidgkbkhfaaGreatDoorAmApp3
import Derived.LoopN
namespace Go.AM

/-- No function of the program bears the one name that the model asks for. -/
def NoCount (P : Program) : Prop := ∀ (f : FuncId) (fn : Func), P.funcs[f]? = some fn → (fn.name == "runtime.NumGoroutine") = false

theorem call_ok {P : Program} (hP : NoCount P) {H H' : Heap} {T : List AV} {o : Oper} {cl : Call} {fo : Operand} {g : FuncId} {fn : Func} {caps : List AV} {r : AV}
    (ho : o.op = .call cl) (hc : cl.callee = .value fo) (hf : evalA T fo = .fn g caps) (hg : P.funcs[g]? = some fn) (hb : fn.body.isNone = false)
    (h : CallOK P g (cl.args.toList.map (evalA T) ++ caps) H r H') : OpOK P o T H r H' := by
  intro c w a hH hT next Q hnx hd hout
  have hF := evalA_rep hT fo
  rw [hf] at hF
  simp only [RepV] at hF
  obtain ⟨cs, hF, hcs⟩ := hF
  have hargs := (RepL_map hT cl.args.toList).append hcs
  refine .inl ?_
  have hrun : (execOp a.eval o).run P w = .ok (.enter g (cl.args.toList.map a.eval ++ cs).toArray) w := by
    have : cl.args.map a.eval ++ cs.toArray = (cl.args.toList.map a.eval ++ cs).toArray := by
      apply Array.ext'; simp
    simp only [execOp, ho, resolve, hc, Deferred.ofValue, hF, Sem.run_bind, Sem.run_pure, Result.andThen_ok, invoke, Array.empty_append, this, callFunc, run_program, hg]
    have hne := hP g fn hg
    simp only [hne, Bool.false_eq_true, if_false, hb]
    rfl
  rw [Oper.wp, hrun, Oper.upon_enter]
  refine (h c w _ hH hargs).mono fun e w' he => ?_
  cases e with
  | returned v =>
    obtain ⟨c', h1, h2, h3⟩ := he
    exact hnx v c' w' h1 h2 h3
  | panicked _ => exact he.elim
  | outgrown => exact he.elim

/-- A function's results. -/
def resultA (P : Program) (H : Heap) (T : List AV) : ResultVar → Option AV
  | .tmp t => some (T.getD t .undef)
  | .cell a t => match cellsOf H (T.getD a .undef) with
    | some cs => loadC P t cs
    | none => none

def resultsL (P : Program) (H : Heap) (T : List AV) : List ResultVar → Option (List AV)
  | [] => some []
  | r :: rs => match resultA P H T r, resultsL P H T rs with
    | some v, some vs => some (v :: vs)
    | _, _ => none

def oneOf : List AV → AV
  | [v] => v
  | vs => .tup vs

def resOne (tmps : Array Value) : ResultVar → Sem Value
  | .tmp t => pure (tmps.getD t undef)
  | .cell a t => do loadVar t (← asAddr (tmps.getD a undef))

theorem results_eq (fn : Func) (tmps : Array Value) : results fn tmps = (do let vs ← fn.results.mapM (m := Sem) (resOne tmps); pure (if h : vs.size = 1 then vs[0] else .tuple vs)) := rfl

theorem resultsL_run {P : Program} {c : Cx} {H : Heap} {w : World} {T : List AV} {tmps : Array Value} (hH : RepH c H w) (hT : RepT c H w T tmps) : ∀ {rs : List ResultVar} {vs : List AV}, resultsL P H T rs = some vs →
    ∃ ys, (rs.mapM (m := Sem) (resOne tmps)).run P w = .ok ys w ∧ RepL c H w vs ys
  | [], vs, h => by simp only [resultsL] at h; cases h; exact ⟨[], by simp, rfl⟩
  | r :: rs, vs, h => by
    simp only [resultsL] at h
    split at h
    · rename_i v vs' hv hvs
      cases h
      obtain ⟨ys, hys, hl⟩ := resultsL_run hH hT hvs
      have : ∃ y, (resOne tmps r).run P w = .ok y w ∧ RepV c H w v y := by
        cases r with
        | tmp t => simp only [resultA] at hv; cases hv; exact ⟨_, rfl, hT.at' t⟩
        | cell a t =>
          simp only [resultA] at hv
          split at hv
          · rename_i cs hcs
            obtain ⟨b, off, hy, hat⟩ := cellsOf_rep hcs hH (hT.at' a)
            obtain ⟨y, hyr, hr⟩ := loadC_run hv hat
            exact ⟨y, by simp only [resOne, hy, asAddr, Sem.run_bind, Sem.run_pure, Result.andThen_ok, hyr], hr⟩
          · cases hv
      obtain ⟨y, hy, hr⟩ := this
      refine ⟨y :: ys, ?_, y, ys, rfl, hr, hl⟩
      rw [List.mapM_cons, Sem.run_bind, hy, Result.andThen_ok, Sem.run_bind, hys]
      rfl
    · cases h

theorem results_run {P : Program} {c : Cx} {H : Heap} {w : World} {T : List AV} {tmps : Array Value} {fn : Func} {vs : List AV} (hH : RepH c H w) (hT : RepT c H w T tmps) (h : resultsL P H T fn.results.toList = some vs) :
    ∃ y, (results fn tmps).run P w = .ok y w ∧ RepV c H w (oneOf vs) y := by
  obtain ⟨ys, hys, hl⟩ := resultsL_run hH hT h
  have hrun : (fn.results.mapM (m := Sem) (resOne tmps)).run P w = .ok ys.toArray w := by
    rw [Array.mapM_eq_mapM_toList, Sem.run_map, hys]; rfl
  refine ⟨if h : ys.toArray.size = 1 then ys.toArray[0] else .tuple ys.toArray, ?_, ?_⟩
  · rw [results_eq, Sem.run_bind, hrun]; rfl
  · have hlen := hl.length
    match vs, ys, hlen, hl with
    | [], [], _, hl => exact ⟨[], rfl, hl⟩
    | [v], [y], _, hl =>
      simp only [RepL] at hl
      obtain ⟨y', ys', h1, h2, _⟩ := hl
      cases h1
      exact h2
    | v1 :: v2 :: vs, y1 :: y2 :: ys, _, hl => exact ⟨_, by simp, hl⟩

/-- What a call begins with. -/
def entryT (fn : Func) (args : List AV) : List AV := args ++ List.replicate (fn.ntmps - args.length) (.tup [])

theorem entryT_rep {c : Cx} {H : Heap} {w : World} {fn : Func} {args : List AV} {vs : List Value} (hl : RepL c H w args vs) :
    RepT c H w (entryT fn args) (vs.toArray ++ Array.replicate (fn.ntmps - vs.toArray.size) undef) := by
  have hlen := hl.length
  refine ⟨by simp [entryT, hlen], fun t => ?_⟩
  simp only [entryT, List.getD_eq_getElem?_getD, Array.getD_eq_getD_getElem?, Array.getElem?_append, List.getElem?_append, List.size_toArray, hlen]
  split
  · rename_i ht
    have h1 : args[t]? = some args[t] := List.getElem?_eq_getElem ht
    have h2 : vs[t]? = some vs[t] := List.getElem?_eq_getElem (by omega)
    simp only [h1, List.getElem?_toArray, h2, Option.getD_some]
    exact (RepL_iff.1 hl).2 t _ _ h1 h2
  · simp only [List.getElem?_replicate, Array.getElem?_replicate]
    split
    · exact ⟨[], rfl, rfl⟩
    · trivial

def Exit.ends : Exit → Bool
  | .normal | .ret => true
  | _ => false

theorem callOK_of_code {P : Program} {f : FuncId} {fn : Func} {cd : Code} {args : List AV} {H H' : Heap} {T' : List AV} {e : Exit} {vs : List AV}
    (hf : P.funcs[f]? = some fn) (hb : fn.body = some cd) (h : CodeOK P cd (entryT fn args) H e T' H') (he : Exit.ends e = true) (hr : resultsL P H' T' fn.results.toList = some vs) :
    CallOK P f args H (oneOf vs) H' := by
  intro c w ys hH hl
  refine calls_of_wp hf hb (h c w _ hH (entryT_rep hl) rfl _ (fun a' c' w' h1 h2 h3 h4 => ?_) ?_)
  · obtain ⟨y, hy, hr⟩ := results_run h1 h2 hr
    cases e with
    | normal => exact ⟨h3, y, hy, c', h1, hr, h4⟩
    | ret => exact ⟨h3, y, hy, c', h1, hr, h4⟩
    | _ => simp [Exit.ends] at he
  · trivial

/-! ### Code -/

theorem CodeOK.skip (P : Program) (T : List AV) (H : Heap) : CodeOK P .skip T H .normal T H :=
  fun c w a hH hT hd _ hq _ => wp_skip (hq a c w hH hT hd (Grow.refl c H w))

theorem CodeOK.label (P : Program) (l : Nat) (T : List AV) (H : Heap) : CodeOK P (.label l) T H .normal T H :=
  fun c w a hH hT hd _ hq _ => wp_label (hq a c w hH hT hd (Grow.refl c H w))

theorem CodeOK.ret (P : Program) (T : List AV) (H : Heap) : CodeOK P .ret T H .ret T H :=
  fun c w a hH hT hd _ hq _ => wp_ret (hq a c w hH hT hd (Grow.refl c H w))

theorem CodeOK.exit (P : Program) (id : Nat) (T : List AV) (H : Heap) : CodeOK P (.exit id) T H (.exit id) T H :=
  fun c w a hH hT hd _ hq _ => wp_exit (hq a c w hH hT hd (Grow.refl c H w))

theorem CodeOK.seq {P : Program} {x y : Code} {T : List AV} {H : Heap} {T1 : List AV} {H1 : Heap} {e : Exit} {T' : List AV} {H' : Heap}
    (h1 : CodeOK P x T H .normal T1 H1) (h2 : CodeOK P y T1 H1 e T' H') : CodeOK P (.seq x y) T H e T' H' := by
  intro c w a hH hT hd Q hq hout
  refine wp_seq (h1 c w a hH hT hd _ (fun a1 c1 w1 hH1 hT1 hd1 g1 => ?_) hout)
  exact h2 c1 w1 a1 hH1 hT1 hd1 Q (fun a2 c2 w2 hH2 hT2 hd2 g2 => hq a2 c2 w2 hH2 hT2 hd2 (g1.trans g2)) hout

def Exit.isNormal : Exit → Bool
  | .normal => true
  | _ => false

theorem Exit.then_of {e : Exit} (h : Exit.isNormal e = false) (next : Act → World → Prop) (Q : Exit → Act → World → Prop) (a : Act) (w : World) : Exit.then next Q e a w = Q e a w := by
  cases e <;> first | rfl | simp [Exit.isNormal] at h

theorem CodeOK.seq_out {P : Program} {x y : Code} {T : List AV} {H : Heap} {e : Exit} {T' : List AV} {H' : Heap}
    (h1 : CodeOK P x T H e T' H') (he : Exit.isNormal e = false) : CodeOK P (.seq x y) T H e T' H' := by
  intro c w a hH hT hd Q hq hout
  refine wp_seq (h1 c w a hH hT hd _ (fun a1 c1 w1 hH1 hT1 hd1 g1 => ?_) hout)
  rw [Exit.then_of he]
  exact hq a1 c1 w1 hH1 hT1 hd1 g1

theorem CodeOK.cond {P : Program} {x : Operand} {p q : Code} {t : Bool} {T : List AV} {H : Heap} {e : Exit} {T' : List AV} {H' : Heap}
    (hx : evalA T x = .bool t) (h : CodeOK P (if t then p else q) T H e T' H') : CodeOK P (.cond x p q) T H e T' H' := by
  intro c w a hH hT hd Q hq hout
  have := evalA_rep hT x
  rw [hx] at this
  exact wp_cond this (h c w a hH hT hd Q hq hout)

def Exit.blocked (id : Nat) : Exit → Exit
  | .exit i => if i = id then .normal else .exit i
  | e => e

theorem CodeOK.block {P : Program} {id : Nat} {x : Code} {T : List AV} {H : Heap} {e : Exit} {T' : List AV} {H' : Heap}
    (h : CodeOK P x T H e T' H') : CodeOK P (.block id x) T H (Exit.blocked id e) T' H' := by
  intro c w a hH hT hd Q hq hout
  refine wp_block (h c w a hH hT hd _ (fun a1 c1 w1 hH1 hT1 hd1 g1 => ?_) hout)
  have := hq a1 c1 w1 hH1 hT1 hd1 g1
  cases e with
  | exit i =>
    simp only [Exit.blocked] at this
    simp only [Exit.inBlock]
    split at this <;> rename_i hi
    · rw [if_pos hi]; exact this
    · rw [if_neg hi]; exact this
  | _ => exact this

theorem CodeOK.scope {P : Program} {x : Code} {T : List AV} {H : Heap} {e : Exit} {T' : List AV} {H' : Heap}
    (_h : CodeOK P x T H e T' H') (_he : Exit.ends e = true) : True := trivial

/-- So many rounds at most. -/
def RoundsOK (P : Program) (x : Code) (n : Nat) (T : List AV) (H : Heap) (e : Exit) (T' : List AV) (H' : Heap) : Prop :=
  ∀ (c : Cx) (w : World) (a : Act), RepH c H w → RepT c H w T a.tmps → a.defers = [] → ∀ (Q : Exit → Act → World → Prop),
    (∀ a' c' w', RepH c' H' w' → RepT c' H' w' T' a'.tmps → a'.defers = [] → Grow c H w c' H' w' → Q e a' w') → True →
    Code.rounds P x Q n a w

theorem RoundsOK.out {P : Program} {x : Code} {n : Nat} {T : List AV} {H : Heap} {e : Exit} {T' : List AV} {H' : Heap}
    (h : CodeOK P x T H e T' H') (he : Exit.isNormal e = false) : RoundsOK P x (n + 1) T H e T' H' := by
  intro c w a hH hT hd Q hq hout
  rw [rounds_succ]
  refine h c w a hH hT hd _ (fun a1 c1 w1 hH1 hT1 hd1 g1 => ?_) hout
  rw [Exit.then_of he]
  exact hq a1 c1 w1 hH1 hT1 hd1 g1

theorem RoundsOK.next {P : Program} {x : Code} {n : Nat} {T : List AV} {H : Heap} {T1 : List AV} {H1 : Heap} {e : Exit} {T' : List AV} {H' : Heap}
    (h : CodeOK P x T H .normal T1 H1) (h2 : RoundsOK P x n T1 H1 e T' H') : RoundsOK P x (n + 1) T H e T' H' := by
  intro c w a hH hT hd Q hq hout
  rw [rounds_succ]
  refine h c w a hH hT hd _ (fun a1 c1 w1 hH1 hT1 hd1 g1 => ?_) hout
  exact h2 c1 w1 a1 hH1 hT1 hd1 Q (fun a2 c2 w2 hH2 hT2 hd2 g2 => hq a2 c2 w2 hH2 hT2 hd2 (g1.trans g2)) hout

theorem CodeOK.loop {P : Program} {x : Code} {n : Nat} {T : List AV} {H : Heap} {e : Exit} {T' : List AV} {H' : Heap}
    (h : RoundsOK P x n T H e T' H') : CodeOK P (.loop x) T H e T' H' :=
  fun c w a hH hT hd Q hq hout => wp_loop_rounds n (h c w a hH hT hd Q hq hout)

theorem CodeOK.region {P : Program} {id : Nat} {ops : Array Oper} {T : List AV} {H : Heap} {T' : List AV} {H' : Heap}
    (h : OpsOK P ops (List.range ops.size) T H T' H') : CodeOK P (.region id ops false) T H .normal T' H' :=
  fun c w a hH hT hd Q hq hout => wp_region (h c w a hH hT hd Q hq hout)

end Go.AM
