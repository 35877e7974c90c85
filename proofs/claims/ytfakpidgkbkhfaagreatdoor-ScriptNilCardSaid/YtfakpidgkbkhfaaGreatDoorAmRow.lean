/- The abstract machine and a row: what a call comes to is what the statement asks. -/
import Derived.Test.YtfakpidgkbkhfaaGreatDoorAmFinal
import Derived.ChangeSame
import Derived.ChangeStays
import Derived.OpenShut
import Derived.ReadAgain
namespace Go.AM
open Go.ChangeShapes Go.RowKit

/-- Where a call begins: all that lies there stays. -/
def startCx (w : World) : Cx := ⟨fun b => b < w.heap.size, fun _ => none⟩
def nothing : Heap := fun _ => none

theorem start_rep (w : World) : RepH (startCx w) nothing w :=
  ⟨fun _ h => h, fun _ _ h => (nomatch h), fun _ _ _ _ _ h => (nomatch h)⟩

theorem nothing_owned {c : Cx} {b : Nat} : ¬ Owns c nothing b := by
  rintro ⟨_, _, h, _⟩
  cases h

theorem kept_of_grow {w w' : World} {c' : Cx} {H' : Heap} (g : Grow (startCx w) nothing w c' H' w') (may : MemPlace → Prop) : w.keptBut w' may := by
  refine ⟨g.os, g.out, fun i hi => ?_⟩
  rw [g.keep i hi nothing_owned]
  cases w.heap[i]? with
  | none => rfl
  | some o => cases o with
    | cells cs t fr => exact ⟨rfl, rfl, rfl, fun _ _ => rfl⟩
    | map es clock => exact .inr ⟨rfl, rfl⟩
    | _ => rfl

theorem same_of_grow {w w' : World} {c' : Cx} {H' : Heap} (g : Grow (startCx w) nothing w c' H' w') {p : MemPlace} (h : p.block < w.heap.size) : w.sameAt w' p := by
  cases p with
  | cell b off => simp only [World.sameAt, World.cell?]; rw [g.keep b h nothing_owned]
  | map b => exact g.keep b h nothing_owned

section
variable {K : Type} {enc : TypeId × Value → K} {P : Program}

/-- What the arguments read as, they read as behind the call. -/
theorem trodAll_stays (kids : Kids P (· < P.types.size)) (hsz : ∀ {t e : TypeId}, t < P.types.size → P.underlying t = some (.slice e) → 0 < P.cellsOf e) {w w' : World} {sp : Nat → Bool} :
    ∀ {ts : List TypeId} {vs : List Value} {ds : List (DataW K)} {ps : List MemPlace}, DataW.TrodAll enc P w 0 (fun _ => true) true ts vs ds ps → (∀ t ∈ ts, t < P.types.size) →
      (∀ p ∈ ps, w.sameAt w' p) → (∀ p ∈ ps, sp p.block = true) → DataW.TrodAll enc P w' 0 sp true ts vs ds ps
  | [], [], [], _, h, _, _, _ => h
  | _ :: _, _ :: _, _ :: _, _, ⟨p, q, ⟨n, h1⟩, h2, e⟩, hts, hsame, hs =>
    ⟨p, q, ⟨n, DataW.trod_stays kids hsz (fun h => by cases h) (hts _ (List.mem_cons.2 (.inl rfl))) h1 (fun x hx => hsame x (by rw [e]; exact List.mem_append_left _ hx)) (fun x hx => hs x (by rw [e]; exact List.mem_append_left _ hx))⟩,
      trodAll_stays kids hsz h2 (fun t ht => hts t (List.mem_cons.2 (.inr ht))) (fun x hx => hsame x (by rw [e]; exact List.mem_append_right _ hx)) (fun x hx => hs x (by rw [e]; exact List.mem_append_right _ hx)), e⟩

/-- What a row asks of a program's types. -/
def typesFit (P : Program) (ts : List TypeId) : Bool :=
  laidOutB P && mapsRowed P && ((List.range P.types.size).all fun t => match P.underlying t with | some (.slice e) => decide (0 < P.cellsOf e) | _ => true) && ts.all fun t => decide (t < P.types.size)

theorem post_true {fn : Func} {s : ChangeSpec} {W W' : World} {args : Array Value} {ds gs : List (DataW K)} {before : List MemPlace} {c' : Cx} {H' : Heap} {t : TypeId}
    (hfit : typesFit P fn.params.toList = true) (hsv : s.vars = []) (hr : fn.resultTypes = #[t]) (ht : P.underlying t = some .bool)
    (hW : DataW.Whole enc P fn.params.toList s.vars false W args.toList ds gs before) (hs : s.fn K (ds ++ gs) = { results := [.lit (.bool true)], args := ds })
    (g : Grow (startCx W) nothing W c' H' W') : s.post enc P fn false true false false W args (.bool true) W' := by
  unfold typesFit at hfit
  simp only [Bool.and_eq_true] at hfit
  obtain ⟨⟨⟨h1, h2⟩, h3⟩, h4⟩ := hfit
  have hlt := hW.lt
  have hW' := hW
  obtain ⟨p, q, hA, hV, rfl, _, _⟩ := hW
  rw [hsv] at hV
  obtain ⟨rfl, rfl⟩ := trodVars_none hV
  refine ⟨ds, [], p ++ [], [], p, [], hW', ?_, ?_, ?_, kept_of_grow g _, fun h => by cases h⟩
  · rw [hs, hr]
    exact trodAll_cons_mk (shut_bool ht _) trodAll_mk0
  · rw [hs]
    refine trodAll_stays (kids_rows h1 h2) (fun {t e} => slices_full_of P h3 t e) hA (fun t ht => of_decide_eq_true (List.all_eq_true.1 h4 t ht)) (fun x hx => same_of_grow g (hlt x (by simpa using hx))) (fun x hx => decide_eq_true (hlt x (by simpa using hx)))
  · rw [hs, hsv]; exact rfl

/-- A call that comes to true: what the row's contract asks. -/
theorem contract_true {f : FuncId} {fn : Func} {s : ChangeSpec} {W : World} {args : Array Value} {ds gs : List (DataW K)} {before : List MemPlace} {H' : Heap} {t : TypeId} {as : List AV}
    (hcall : CallOK P f as nothing (.bool true) H') (hrep : RepL (startCx W) nothing W as args.toList)
    (hfit : typesFit P fn.params.toList = true) (hsv : s.vars = []) (hr : fn.resultTypes = #[t]) (ht : P.underlying t = some .bool)
    (hW : DataW.Whole enc P fn.params.toList s.vars false W args.toList ds gs before) (hs : s.fn K (ds ++ gs) = { results := [.lit (.bool true)], args := ds }) :
    Calls P f args W fun e W' => ∃ v, e = .returned v ∧ s.post enc P fn false true false false W args v W' := by
  have := hcall (startCx W) W args.toList (start_rep W) hrep
  refine (show Calls P f args W _ from this).mono fun e W' he => ?_
  cases e with
  | returned v =>
    obtain ⟨c', _, hv, g⟩ := he
    simp only [RepV] at hv
    subst hv
    exact ⟨_, rfl, post_true hfit hsv hr ht hW hs g⟩
  | panicked _ => exact he.elim
  | outgrown => exact he.elim
end

/-! ### Evaluation -/

theorem noCount_of {P : Program} (h : (P.funcs.all fun f => !(f.name == "runtime.NumGoroutine")) = true) : NoCount P := by
  intro f fn hf
  have := (Array.all_eq_true.1 h) f (Array.getElem?_eq_some_iff.1 hf).1
  rw [(Array.getElem?_eq_some_iff.1 hf).2] at this
  simpa using this

/-- What is evaluated to true comes to true. -/
theorem callOK_of_eval {P : Program} (hP : NoCount P) (hm : P.follows .mixedOrders = true) {lf n : Nat} {f : FuncId} {as : List AV}
    (h : (callN P (evalDraw P) lf n f as TH.empty).map (fun x => beqV x.1 (.bool true)) = some true) : ∃ H', CallOK P f as nothing (.bool true) H' := by
  cases hx : callN P (evalDraw P) lf n f as TH.empty with
  | none => rw [hx] at h; cases h
  | some x =>
    obtain ⟨r, h'⟩ := x
    rw [hx] at h
    simp only [Option.map_some, Option.some.injEq] at h
    have := beqV_eq _ _ h
    subst this
    exact ⟨h'.den, (callN_ok hP hm lf n f as TH.empty _ h' TH.ok_empty hx).1⟩

/-! ### Arguments -/

/-- A value of a type: within bounds that say nothing. -/
def anyOf (P : Program) (t : TypeId) : AV :=
  match P.underlying t with
  | some (.int k) => .intR k none none
  | some .string => .strR 0 none
  | some (.slice _) => .slR 0 none
  | _ => .undef

theorem anyOf_cell {P : Program} {w : World} {r : Reach} {base : Nat} {t : TypeId} {v : Value} (h : Cell.okWide P w r base t v) (c : Cx) (H : Heap) : RepV c H w (anyOf P t) v := by
  unfold anyOf
  unfold Cell.okWide Cell.ok at h
  split
  · rename_i k hu
    rw [hu] at h
    cases v <;> simp at h
    obtain ⟨rfl, _⟩ := h
    simp [RepV]
  · rename_i hu
    rw [hu] at h
    cases v <;> simp at h
    rename_i s
    simp only [RepV]
    exact ⟨s.data.toList, by simp, Nat.zero_le _, fun _ h => by cases h⟩
  · rename_i e hu
    rw [hu] at h
    cases v <;> simp at h
    rename_i a l k
    simp only [RepV]
    exact ⟨a, l, k, rfl, Nat.zero_le _, fun _ h => by cases h⟩
  · trivial

end Go.AM
