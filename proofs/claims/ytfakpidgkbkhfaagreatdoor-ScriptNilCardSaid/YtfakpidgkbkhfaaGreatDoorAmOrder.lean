/- The abstract machine: the look that says that a drawn order is without meaning. -/
import Derived.Test.YtfakpidgkbkhfaaGreatDoorAmFrame
namespace Go.AM

mutual
def beqV : AV → AV → Bool
  | .undef, .undef => true
  | .bool a, .bool b => a == b
  | .int k n, .int k' m => k == k' && n == m
  | .str a, .str b => a == b
  | .nilptr, .nilptr => true
  | .ptr o i f g, .ptr o' i' f' g' => o == o' && i == i' && f == f' && g == g'
  | .cptr a, .cptr b => beqL a b
  | .nilsl, .nilsl => true
  | .vec f a, .vec f' b => f == f' && beqL a b
  | .own o l n g f, .own o' l' n' g' f' => o == o' && l == l' && n == n' && g == g' && f == f'
  | .esl, .esl => true
  | .fn f a, .fn f' b => f == f' && beqL a b
  | .nilfn, .nilfn => true
  | .iface t a, .iface t' b => t == t' && beqV a b
  | .nilif, .nilif => true
  | .agg a, .agg b => beqL a b
  | .tup a, .tup b => beqL a b
  | .intR k l h, .intR k' l' h' => k == k' && l == l' && h == h'
  | .strR l h, .strR l' h' => l == l' && h == h'
  | .slR l h, .slR l' h' => l == l' && h == h'
  | .bs k l r, .bs k' l' r' => k == k' && l == l' && r == r'
  | _, _ => false
def beqL : List AV → List AV → Bool
  | [], [] => true
  | a :: as, b :: bs => beqV a b && beqL as bs
  | _, _ => false
end

mutual
theorem beqV_eq : ∀ (a b : AV), beqV a b = true → a = b
  | .undef, b, h => by cases b <;> simp [beqV] at h ⊢
  | .bool a, b, h => by cases b <;> simp [beqV] at h ⊢; exact h
  | .int k n, b, h => by cases b <;> simp [beqV] at h ⊢; exact h
  | .str a, b, h => by cases b <;> simp [beqV] at h ⊢; exact h
  | .nilptr, b, h => by cases b <;> simp [beqV] at h ⊢
  | .ptr o i f g, b, h => by cases b <;> simp [beqV] at h ⊢; exact ⟨h.1.1.1, h.1.1.2, h.1.2, h.2⟩
  | .cptr a, b, h => by cases b <;> simp [beqV] at h ⊢; exact beqL_eq a _ h
  | .nilsl, b, h => by cases b <;> simp [beqV] at h ⊢
  | .vec f a, b, h => by cases b <;> simp [beqV] at h ⊢; exact ⟨h.1, beqL_eq a _ h.2⟩
  | .own o l n g f, b, h => by cases b <;> simp [beqV] at h ⊢; exact ⟨h.1.1.1.1, h.1.1.1.2, h.1.1.2, h.1.2, h.2⟩
  | .esl, b, h => by cases b <;> simp [beqV] at h ⊢
  | .fn f a, b, h => by cases b <;> simp [beqV] at h ⊢; exact ⟨h.1, beqL_eq a _ h.2⟩
  | .nilfn, b, h => by cases b <;> simp [beqV] at h ⊢
  | .iface t a, b, h => by cases b <;> simp [beqV] at h ⊢; exact ⟨h.1, beqV_eq a _ h.2⟩
  | .nilif, b, h => by cases b <;> simp [beqV] at h ⊢
  | .agg a, b, h => by cases b <;> simp [beqV] at h ⊢; exact beqL_eq a _ h
  | .tup a, b, h => by cases b <;> simp [beqV] at h ⊢; exact beqL_eq a _ h
  | .intR k l m, b, h => by cases b <;> simp [beqV] at h ⊢; exact ⟨h.1.1, h.1.2, h.2⟩
  | .strR l m, b, h => by cases b <;> simp [beqV] at h ⊢; exact h
  | .slR l m, b, h => by cases b <;> simp [beqV] at h ⊢; exact h
  | .bs k l r, b, h => by cases b <;> simp [beqV] at h ⊢; exact ⟨h.1.1, h.1.2, h.2⟩
  | .vecF k n f, b, h => by cases b <;> simp [beqV] at h
theorem beqL_eq : ∀ (a b : List AV), beqL a b = true → a = b
  | [], b, h => by cases b <;> simp [beqL] at h ⊢
  | a :: as, b, h => by
    cases b with
    | nil => simp [beqL] at h
    | cons b bs =>
      simp only [beqL, Bool.and_eq_true] at h
      rw [beqV_eq a b h.1, beqL_eq as bs h.2]
end

def beqO : Option AObj → Option AObj → Bool
  | none, none => true
  | some x, some y => x.sz == y.sz && x.gen == y.gen && x.st == y.st && beqL x.es y.es
  | _, _ => false

theorem beqO_eq {a b : Option AObj} (h : beqO a b = true) : a = b := by
  cases a <;> cases b <;> simp [beqO] at h ⊢
  rename_i x y
  cases x; cases y
  simp at h ⊢
  exact ⟨h.1.1.1, h.1.1.2, h.1.2, beqL_eq _ _ h.2⟩

/-! ### What stands ahead -/

def maskOf (m : List Nat) (es : List Edge) : Nat :=
  match es with
  | [] => 0
  | e :: r => if Region.binds .any e = true then (2 ^ e.on ||| m.getD e.on 0) ||| maskOf m r else maskOf m r

def masks : List Oper → List Nat → List Nat
  | [], acc => acc
  | o :: r, acc => masks r (acc ++ [maskOf acc o.after.toList])

theorem maskOf_bit {m : List Nat} {i : Nat} : ∀ {es : List Edge}, (maskOf m es).testBit i = true → ∃ e ∈ es, Region.binds .any e = true ∧ (i = e.on ∨ (m.getD e.on 0).testBit i = true)
  | [], h => by simp [maskOf] at h
  | e :: r, h => by
    simp only [maskOf] at h
    split at h
    · rename_i hb
      rw [Nat.testBit_or, Nat.testBit_or, Bool.or_eq_true, Bool.or_eq_true] at h
      rcases h with (h | h) | h
      · refine ⟨e, by simp, hb, .inl ?_⟩
        rw [Nat.testBit_two_pow] at h
        simpa using (of_decide_eq_true h).symm
      · exact ⟨e, by simp, hb, .inr h⟩
      · obtain ⟨e', he, h'⟩ := maskOf_bit h
        exact ⟨e', by simp [he], h'⟩
    · obtain ⟨e', he, h'⟩ := maskOf_bit h
      exact ⟨e', by simp [he], h'⟩

theorem masks_spec : ∀ (r : List Oper) (acc : List Nat), (∃ l, masks r acc = acc ++ l) ∧
    ∀ k o, r[k]? = some o → ∀ i, ((masks r acc).getD (acc.length + k) 0).testBit i = true → ∃ e ∈ o.after.toList, Region.binds .any e = true ∧ (i = e.on ∨ (e.on < acc.length + k ∧ ((masks r acc).getD e.on 0).testBit i = true))
  | [], acc => ⟨⟨[], by simp [masks]⟩, fun k o h => by simp at h⟩
  | o :: r, acc => by
    obtain ⟨⟨l, hl⟩, ih⟩ := masks_spec r (acc ++ [maskOf acc o.after.toList])
    refine ⟨⟨[maskOf acc o.after.toList] ++ l, by simp [masks, hl]⟩, fun k o' hk i hi => ?_⟩
    simp only [masks] at hi ⊢
    cases k with
    | zero =>
      simp at hk; subst hk
      rw [hl] at hi
      have : ((acc ++ [maskOf acc o.after.toList]) ++ l).getD (acc.length + 0) 0 = maskOf acc o.after.toList := by
        simp [List.getD_eq_getElem?_getD]
      rw [this] at hi
      obtain ⟨e, he, hb, h⟩ := maskOf_bit hi
      refine ⟨e, he, hb, ?_⟩
      rcases h with h | h
      · exact .inl h
      · right
        have hlt : e.on < acc.length := by
          rcases Nat.lt_or_ge e.on acc.length with g | g
          · exact g
          · simp [List.getD_eq_getElem?_getD, List.getElem?_eq_none g] at h
        refine ⟨by omega, ?_⟩
        rw [hl]
        simpa [List.getD_eq_getElem?_getD, List.getElem?_append, hlt] using h
    | succ k =>
      simp at hk
      have := ih k o' hk i (by simpa [Nat.add_assoc, Nat.add_comm 1 k] using hi)
      obtain ⟨e, he, hb, h⟩ := this
      refine ⟨e, he, hb, ?_⟩
      rcases h with h | h
      · exact .inl h
      · exact .inr ⟨by have := h.1; simp at this; omega, h.2⟩

/-- The marks of a region. -/
def marksOf (ops : Array Oper) : List Nat := masks ops.toList []

theorem ahead_of {ops : Array Oper} : ∀ (j i : Nat), j < ops.size → ((marksOf ops).getD j 0).testBit i = true → Ahead ops i j := by
  intro j
  induction j using Nat.strongRecOn with
  | _ j ih =>
    intro i hj h S hS hd
    have ho : ops[j]? = some ops[j] := Array.getElem?_eq_getElem hj
    have ho' : ops.toList[j]? = some ops[j] := by simp
    obtain ⟨e, he, hb, h⟩ := (masks_spec ops.toList []).2 j _ ho' i (by rw [List.length_nil, Nat.zero_add]; exact h)
    have he' : e ∈ ops[j].after := by simpa using he
    have hSe := hd _ ho e he' hb
    rcases h with rfl | ⟨hlt, h⟩
    · exact hSe
    · simp at hlt
      refine ih e.on hlt i (by omega) h S hS (fun o hoe e' he' hb' => hS e.on o hoe hSe e' he' hb')

/-! ### The look -/

def lookAt (ops : Array Oper) (i : Nat) : List Nat := match ops[i]? with
  | some o => o.looksAt ops
  | none => []
def dstAt (ops : Array Oper) (i : Nat) : Option Nat := match ops[i]? with
  | some o => o.dst
  | none => none

/-- Do two operations meet at a slot? -/
def tconf (ops : Array Oper) (i j : Nat) : Bool :=
  (match dstAt ops i with
   | some d => (lookAt ops j).contains d || dstAt ops j == some d
   | none => false) ||
  (match dstAt ops j with
   | some d => (lookAt ops i).contains d
   | none => false)

def backOK (ops : Array Oper) : Bool := (List.range ops.size).all fun k => match ops[k]? with
  | some o => o.after.toList.all fun e => !Region.binds .any e || decide (e.on < k)
  | none => true

def statOK (ops : Array Oper) : Bool :=
  backOK ops && (List.range ops.size).all fun j => (List.range j).all fun i => !tconf ops i j || ((marksOf ops).getD j 0).testBit i

structure Ent where
  call : Bool
  ids : List Nat
  w : List Nat
  T : List AV
  r : AV
  h0 : TH
  h1 : TH

def changed (e : Ent) (o : Nat) : Bool := !beqO (e.h0.den o) (e.h1.den o)

/-- No object names what is not there: the look. -/
def shutB (h : TH) : Bool := (List.range h.nx).all fun o => match h.den o with
  | none => true
  | some x => (drefsL x.es).all fun r => (h.den r).isSome

theorem shutB_ok {h : TH} (hs : shutB h = true) (ho : h.ok) : Shut h.den := by
  intro o x hx r hr
  have hlt : o < h.nx := by
    rcases Nat.lt_or_ge o h.nx with g | g
    · exact g
    · rw [ho o g] at hx; cases hx
  have := List.all_eq_true.1 hs o (List.mem_range.2 hlt)
  rw [hx] at this
  have := List.all_eq_true.1 this r hr
  intro q
  rw [q] at this; cases this

/-- Does an operation look at an object? -/
def inF (e : Ent) (o : Nat) : Bool :=
  e.ids.contains o || (e.call && ((e.h0.den o).isSome || (e.h1.den o).isSome || !shutB e.h0))

/-- Do two operations meet at an object? -/
def oconf (a b : Ent) : Bool :=
  if a.call then b.call || b.ids.any (changed a) || b.w.any (inF a)
  else if b.call then a.ids.any (changed b) || a.w.any (inF b)
  else a.w.any b.ids.contains || b.w.any a.ids.contains

def quiet (e : Ent) : Bool := !e.call && e.w.isEmpty

def dynOK (ops : Array Oper) (es : List Ent) : Bool :=
  es.all quiet || (List.range ops.size).all fun j => (List.range j).all fun i =>
    match es[i]?, es[j]? with
    | some a, some b => ((marksOf ops).getD j 0).testBit i || !oconf a b
    | _, _ => false

def isCall : Op → Bool
  | .call { callee := .value _, .. } => true
  | _ => false

def effIds : Option (Nat × AObj) → List Nat
  | some (n, _) => [n]
  | none => []

/-- An operation that looks at no object. -/
def free : Op → Bool
  | .move _ | .assign _ | .pick _ _ _ | .makeInterface _ _ | .makeFunc _ _ _ | .field _ _ _ | .index _ _ _ | .extract _ _ => true
  | _ => false

def opRefs (T : List AV) (op : Op) : List Nat := if free op = true then [] else op.operands.toList.flatMap fun x => refs (evalA T x)

/-- What a call is handed. -/
def callRefs (T : List AV) (op : Op) : List Nat := op.operands.toList.flatMap fun x => drefs (evalA T x)

def evalEnts (P : Program) (call : CallF) (ops : Array Oper) : List Nat → List AV → TH → Option (List Ent × List AV × TH)
  | [], T, h => some ([], T, h)
  | i :: l, T, h =>
    match ops[i]? with
    | none => none
    | some o => match wantedA ops T o with
      | none => none
      | some true =>
        if isCall o.op = true then
          match evalOp P call T h o.op with
          | some (r, h1) => match evalEnts P call ops l (putT T o.dst r) h1 with
            | some (es, T', h') => some (⟨true, callRefs T o.op, [], T, r, h, h1⟩ :: es, T', h')
            | none => none
          | none => none
        else match evalE P h.den h.nx T o.op with
          | some (r, eff) => match h.apply eff with
            | some h1 => match evalEnts P call ops l (putT T o.dst r) h1 with
              | some (es, T', h') => some (⟨false, opRefs T o.op ++ effIds eff, effIds eff, T, r, h, h1⟩ :: es, T', h')
              | none => none
            | none => none
          | none => none
      | some false => match evalEnts P call ops l (putT T o.dst (.tup [])) h with
        | some (es, T', h') => some (⟨false, [], [], T, .tup [], h, h⟩ :: es, T', h')
        | none => none

/-- A region whose order is drawn. -/
def evalDraw (P : Program) (call : CallF) : DrawF := fun ops T h =>
  if statOK ops = true then match evalEnts P call ops (List.range ops.size) T h with
    | some (es, T', h') => if dynOK ops es = true then some (T', h') else none
    | none => none
  else none

end Go.AM
