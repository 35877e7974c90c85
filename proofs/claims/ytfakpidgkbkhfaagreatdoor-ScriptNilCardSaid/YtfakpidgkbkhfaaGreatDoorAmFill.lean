/- The abstract machine: composite values; new objects. -/
import Derived.Test.YtfakpidgkbkhfaaGreatDoorAmQuiet2
namespace Go.AM

def splice {α : Type} (cs : List α) (off : Nat) (ys : List α) : List α := cs.take off ++ ys ++ cs.drop (off + ys.length)

theorem splice_length {α : Type} (cs : List α) (off : Nat) (ys : List α) (h : off + ys.length ≤ cs.length) : (splice cs off ys).length = cs.length := by
  simp [splice]; omega

theorem splice_get {α : Type} (cs : List α) (off : Nat) (ys : List α) (h : off + ys.length ≤ cs.length) (j : Nat) :
    (splice cs off ys)[j]? = if off ≤ j ∧ j < off + ys.length then ys[j - off]? else cs[j]? := by
  unfold splice
  rw [List.append_assoc, List.getElem?_append]
  have h1 : (cs.take off).length = off := by simp; omega
  rw [h1]
  split
  · rename_i hlt
    rw [if_neg (by omega), List.getElem?_take, if_pos hlt]
  · rename_i hge
    rw [List.getElem?_append]
    split
    · rw [if_pos (by omega)]
    · rw [if_neg (by omega), List.getElem?_drop]
      congr 1
      omega

theorem RepL.splice {c : Cx} {H : Heap} {w : World} {xs ys : List AV} {vs us : List Value} (off : Nat) (h : RepL c H w xs vs) (k : RepL c H w ys us) (hl : off + ys.length ≤ xs.length) :
    RepL c H w (splice xs off ys) (splice vs off us) := by
  have h1 := h.length
  have h2 := k.length
  rw [RepL_iff]
  refine ⟨by rw [splice_length _ _ _ hl, splice_length _ _ _ (by omega)]; exact h1, fun i x y hx hy => ?_⟩
  rw [splice_get _ _ _ hl] at hx
  rw [splice_get _ _ _ (by omega)] at hy
  rw [h2] at hy
  split at hx
  · rename_i hc; rw [if_pos hc] at hy; exact (RepL_iff.1 k).2 _ x y hx hy
  · rename_i hc; rw [if_neg hc] at hy; exact (RepL_iff.1 h).2 _ x y hx hy

theorem foldl_set : ∀ (ys : List Value) (off k : Nat) (arr : Array Value), off + k + ys.length ≤ arr.size →
    ((ys.zipIdx k).foldl (fun cs (x : Value × Nat) => cs.setIfInBounds (off + x.2) x.1) arr).toList = AM.splice arr.toList (off + k) ys
  | [], off, k, arr, _ => by simp [AM.splice]
  | y :: ys, off, k, arr, h => by
    rw [List.zipIdx_cons, List.foldl_cons, foldl_set ys off (k + 1) _ (by simp at h ⊢; omega)]
    simp only [Array.toList_setIfInBounds]
    apply List.ext_getElem?
    intro j
    simp at h
    rw [splice_get _ _ _ (by simp; omega), splice_get _ _ _ (by simp; omega)]
    simp only [List.getElem?_set, Array.length_toList, List.length_cons]
    by_cases e1 : j = off + k
    · subst e1
      rw [if_neg (by omega), if_pos rfl, if_pos (by omega), if_pos (by omega)]
      simp
    · by_cases e2 : off + (k + 1) ≤ j ∧ j < off + (k + 1) + ys.length
      · rw [if_pos e2, if_pos (by omega)]
        obtain ⟨d, rfl⟩ : ∃ d, j = off + (k + 1) + d := ⟨j - (off + (k + 1)), by omega⟩
        rw [show off + (k + 1) + d - (off + (k + 1)) = d by omega, show off + (k + 1) + d - (off + k) = d + 1 by omega]
        simp
      · rw [if_neg e2, if_neg (by omega), if_neg (by omega)]

def known : AV → Bool
  | .undef => false
  | _ => true

theorem cells_rep {c : Cx} {H : Heap} {w : World} {e : AV} {v : Value} (h : RepV c H w e v) (hk : known e = true) :
    ∃ vs : List Value, v.cells = vs.toArray ∧ RepL c H w e.cells vs := by
  have one : (∀ cs, v ≠ .agg cs) → e.cells = [e] → ∃ vs : List Value, v.cells = vs.toArray ∧ RepL c H w e.cells vs := by
    intro h1 h2
    refine ⟨[v], ?_, by rw [h2]; exact ⟨v, [], rfl, h, rfl⟩⟩
    cases v <;> first | rfl | exact absurd rfl (h1 _)
  cases e with
  | undef => simp [known] at hk
  | agg cs =>
    simp only [RepV] at h
    obtain ⟨vs, rfl, hl⟩ := h
    exact ⟨vs, rfl, hl⟩
  | bool b => refine one (fun cs e => ?_) rfl; simp only [RepV] at h; rw [h] at e; cases e
  | int k n => refine one (fun cs e => ?_) rfl; simp only [RepV] at h; rw [h] at e; cases e
  | str s => refine one (fun cs e => ?_) rfl; simp only [RepV] at h; rw [h] at e; cases e
  | nilptr => refine one (fun cs e => ?_) rfl; simp only [RepV] at h; rw [h] at e; cases e
  | nilsl => refine one (fun cs e => ?_) rfl; simp only [RepV] at h; rw [h] at e; cases e
  | nilfn => refine one (fun cs e => ?_) rfl; simp only [RepV] at h; rw [h] at e; cases e
  | nilif => refine one (fun cs e => ?_) rfl; simp only [RepV] at h; rw [h] at e; cases e
  | esl => refine one (fun cs e => ?_) rfl; simp only [RepV] at h; obtain ⟨_, _, h⟩ := h; rw [h] at e; cases e
  | iface t x => refine one (fun cs e => ?_) rfl; simp only [RepV] at h; obtain ⟨_, h, _⟩ := h; rw [h] at e; cases e
  | fn f x => refine one (fun cs e => ?_) rfl; simp only [RepV] at h; obtain ⟨_, h, _⟩ := h; rw [h] at e; cases e
  | tup x => refine one (fun cs e => ?_) rfl; simp only [RepV] at h; obtain ⟨_, h, _⟩ := h; rw [h] at e; cases e
  | cptr cs' => refine one (fun cs e => ?_) rfl; simp only [RepV] at h; obtain ⟨_, _, _, h, _⟩ := h; rw [h] at e; cases e
  | vec f es =>
    refine one (fun cs e => ?_) rfl
    simp only [RepV] at h
    rcases h with ⟨_, h⟩ | ⟨_, _, _, _, _, _, _, h, _⟩ <;> (rw [h] at e; cases e)
  | ptr o i off g => refine one (fun cs e => ?_) rfl; simp only [RepV] at h; obtain ⟨_, _, ⟨_, _, h⟩, _⟩ := h; rw [h] at e; cases e
  | intR k lo hi => refine one (fun cs e => ?_) rfl; simp only [RepV] at h; obtain ⟨_, h, _⟩ := h; rw [h] at e; cases e
  | strR lo hi => refine one (fun cs e => ?_) rfl; simp only [RepV] at h; obtain ⟨_, h, _⟩ := h; rw [h] at e; cases e
  | slR lo hi => refine one (fun cs e => ?_) rfl; simp only [RepV] at h; obtain ⟨_, _, _, h, _⟩ := h; rw [h] at e; cases e
  | bs k l room => refine one (fun cs e => ?_) rfl; simp only [RepV] at h; obtain ⟨_, _, h, _⟩ := h.slice; rw [h] at e; cases e
  | vecF k n f => refine one (fun cs e => ?_) rfl; simp only [RepV] at h; obtain ⟨_, _, h, _⟩ := h.slice; rw [h] at e; cases e
  | own o lo len g full => refine one (fun cs e => ?_) rfl; simp only [RepV] at h; obtain ⟨_, _, ⟨_, _, _, _, h⟩, _⟩ := h; rw [h] at e; cases e

def fillA (place : Nat → Option (Nat × Nat)) (cs : List AV) : List (Nat × AV) → Option (List AV)
  | [] => some cs
  | (i, v) :: r => match place i with
    | none => none
    | some (off, size) => if known v = true ∧ v.cells.length = size ∧ off + size ≤ cs.length then fillA place (AM.splice cs off v.cells) r else none

def RepParts (c : Cx) (H : Heap) (w : World) : List (Nat × AV) → List (Nat × Value) → Prop
  | [], ps => ps = []
  | (i, x) :: r, ps => ∃ v ps', ps = (i, v) :: ps' ∧ RepV c H w x v ∧ RepParts c H w r ps'

theorem fillA_run {c : Cx} {H : Heap} {w : World} {place : Nat → Option (Nat × Nat)} : ∀ {parts : List (Nat × AV)} {ps : List (Nat × Value)} {cs cs' : List AV} {vs : List Value},
    fillA place cs parts = some cs' → RepL c H w cs vs → RepParts c H w parts ps → ∃ vs', Instr.fill place vs.toArray ps = some vs'.toArray ∧ RepL c H w cs' vs'
  | [], ps, cs, cs', vs, h, hl, hp => by
    simp only [fillA] at h; cases h
    simp only [RepParts] at hp; subst hp
    exact ⟨vs, rfl, hl⟩
  | (i, x) :: r, ps, cs, cs', vs, h, hl, hp => by
    simp only [RepParts] at hp
    obtain ⟨v, ps', rfl, hv, hp⟩ := hp
    simp only [fillA] at h
    split at h
    · cases h
    · rename_i off size hpl
      split at h
      · rename_i hc
        obtain ⟨hk, hs, ho⟩ := hc
        obtain ⟨us, hu, hlu⟩ := cells_rep hv hk
        have e1 := hl.length
        have e2 := hlu.length
        obtain ⟨vs', hf, hl'⟩ := fillA_run (vs := AM.splice vs off us) h (hl.splice off hlu (by omega)) hp
        refine ⟨vs', ?_, hl'⟩
        simp only [Instr.fill, hpl, hu]
        have n1 : ¬ ((us.toArray.size ≠ size || off + us.toArray.size > vs.toArray.size) = true) := by simp; omega
        rw [if_neg n1, ← hf]
        congr 1
        apply Array.ext'
        have := foldl_set us off 0 vs.toArray (by simp; omega)
        simp only [Nat.add_zero] at this
        rw [← this, ← Array.foldl_toList]
        simp
      · cases h

def zeroT (P : Program) (t : TypeId) : Option Value := (P.info? t).bind (·.zero)

theorem run_zeroT {P : Program} {t : TypeId} {z : Value} (h : zeroT P t = some z) (w : World) : (zeroValue t).run P w = .ok z w := by
  unfold zeroT at h
  cases hi : P.info? t with
  | none => rw [hi] at h; cases h
  | some i => rw [hi] at h; simp at h; simp [zeroValue, typeInfo, hi, h]

def placesT (P : Program) : List Field → Option (List (Nat × Nat))
  | [] => some []
  | f :: fs => match sizeT P f.type, placesT P fs with
    | some n, some r => some ((f.offset, n) :: r)
    | _, _ => none

theorem run_placesT {P : Program} : ∀ {fs : List Field} {ps : List (Nat × Nat)}, placesT P fs = some ps → ∀ w : World,
    (fs.mapM (m := Sem) fun f => do pure (f.offset, ← sizeOf f.type)).run P w = .ok ps w
  | [], ps, h, w => by simp only [placesT] at h; cases h; simp
  | f :: fs, ps, h, w => by
    simp only [placesT] at h
    split at h
    · rename_i n r hn hr
      cases h
      have := run_placesT hr w
      simp only [List.mapM_cons, Sem.run_bind, run_sizeT hn, Result.andThen_ok, Sem.run_pure, this]
    · cases h

def partsA (T : List AV) (parts : Array (Nat × Operand)) : List (Nat × AV) := parts.toList.map fun x => (x.1, evalA T x.2)

theorem partsA_rep {c : Cx} {H : Heap} {w : World} {T : List AV} {a : Act} (h : RepT c H w T a.tmps) (parts : Array (Nat × Operand)) :
    RepParts c H w (partsA T parts) (parts.map fun (i, x) => (i, a.eval x)).toList := by
  unfold partsA
  simp only [Array.toList_map]
  induction parts.toList with
  | nil => rfl
  | cons x xs ih => exact ⟨_, _, rfl, evalA_rep h x.2, ih⟩

def evalBuild (P : Program) (T : List AV) (t : TypeId) (parts : Array (Nat × Operand)) : Option AV :=
  match zeroT P t with
  | none => none
  | some z => if known (ofConst z) = true then match P.underlying t with
      | some (.struct fs) => match placesT P fs.toList with
        | some ps => (fillA (ps[·]?) (ofConst z).cells (partsA T parts)).map .agg
        | none => none
      | some (.array _ e) => match sizeT P e with
        | some n => (fillA (fun i => some (i * n, n)) (ofConst z).cells (partsA T parts)).map .agg
        | none => none
      | _ => none
    else none

theorem evalBuild_ok {P : Program} {H : Heap} {T : List AV} {o : Oper} {r : AV} {t : TypeId} {parts : Array (Nat × Operand)} (ho : o.op = .build t parts)
    (h : evalBuild P T t parts = some r) : OpOK P o T H r H := by
  refine OpOK.pure fun c w a hH hT => ?_
  unfold evalBuild at h
  split at h
  · cases h
  · rename_i z hz
    split at h
    · rename_i hk
      obtain ⟨zs, hzs, hlz⟩ := cells_rep (ofConst_rep c H w z) hk
      split at h
      · rename_i fs hu
        split at h
        · rename_i ps hps
          obtain ⟨cs, hcs, rfl⟩ := Option.map_eq_some_iff.1 h
          obtain ⟨vs', hf, hl'⟩ := fillA_run hcs hlz (partsA_rep hT parts)
          refine ⟨.agg vs'.toArray, ?_, vs', rfl, hl'⟩
          have hm : (fs.mapM (m := Sem) fun f => do pure (f.offset, ← sizeOf f.type)).run P w = .ok ps.toArray w := by
            rw [Array.mapM_eq_mapM_toList]
            rw [Sem.run_map, run_placesT hps w]
            rfl
          have hf' : Instr.fill (fun x => ps.toArray[x]?) zs.toArray (parts.map fun (i, x) => (i, a.eval x)).toList = some vs'.toArray := by simpa using hf
          simp only [execOp, ho, Instr.build, Sem.run_bind, run_zeroT hz, Result.andThen_ok, run_underlying hu, hzs, hm, hf', Sem.run_pure]
        · cases h
      · rename_i n e hu
        split at h
        · rename_i sz hsz
          obtain ⟨cs, hcs, rfl⟩ := Option.map_eq_some_iff.1 h
          obtain ⟨vs', hf, hl'⟩ := fillA_run hcs hlz (partsA_rep hT parts)
          refine ⟨.agg vs'.toArray, ?_, vs', rfl, hl'⟩
          simp only [execOp, ho, Instr.build, Sem.run_bind, run_zeroT hz, Result.andThen_ok, run_underlying hu, hzs, run_sizeT hsz, hf, Sem.run_pure]
        · cases h
      · cases h
    · cases h

end Go.AM
