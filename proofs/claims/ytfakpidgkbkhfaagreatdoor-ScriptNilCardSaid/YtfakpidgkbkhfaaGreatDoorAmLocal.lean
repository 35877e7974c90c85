/- The abstract machine: what an operation looks at. -/
import Derived.Test.YtfakpidgkbkhfaaGreatDoorAmDraw
namespace Go.AM

def refs : AV → List Nat
  | .ptr o _ _ _ => [o]
  | .own o _ _ _ _ => [o]
  | _ => []

section
variable {H H' : Heap}

theorem validO_local {o g : Nat} (h : H' o = H o) : validO H' o g = validO H o g := by simp [validO, h]

theorem cellsOf_local {v : AV} (h : ∀ o ∈ refs v, H' o = H o) : cellsOf H' v = cellsOf H v := by
  cases v <;> simp only [cellsOf]
  rename_i o i off g
  rw [h o (by simp [refs])]

theorem fieldA_local {v : AV} (n : Nat) (h : ∀ o ∈ refs v, H' o = H o) : fieldA H' n v = fieldA H n v := by
  cases v <;> simp only [fieldA]
  rename_i o i off g
  rw [validO_local (h o (by simp [refs]))]

theorem validS_local {v : AV} (h : ∀ o ∈ refs v, H' o = H o) : validS H' v = validS H v := by
  cases v <;> simp only [validS]
  rename_i o lo len g full
  rw [validO_local (h o (by simp [refs]))]

theorem szOK_local {v : AV} (n : Nat) (h : ∀ o ∈ refs v, H' o = H o) : szOK H' n v = szOK H n v := by
  cases v with
  | own o lo len g full => simp only [szOK]; rw [h o (by simp [refs])]
  | vec f es => cases es <;> rfl
  | _ => rfl

theorem elems_local {v : AV} (h : ∀ o ∈ refs v, H' o = H o) : elems H' v = elems H v := by
  cases v <;> simp only [elems]
  rename_i o lo len g full
  rw [h o (by simp [refs])]

theorem nilChk_local {v : AV} (h : ∀ o ∈ refs v, H' o = H o) : nilChk H' v = nilChk H v := by
  cases v <;> simp only [nilChk]
  rename_i o i off g
  rw [validO_local (h o (by simp [refs]))]

theorem lenB_local {P : Program} {t : TypeId} {v : AV} (h : ∀ o ∈ refs v, H' o = H o) : lenB P H' t v = lenB P H t v := by
  unfold lenB
  split <;> first
    | rfl
    | (rw [validS_local h])

theorem indexAddrA_local {v : AV} (n : Nat) (i : Int) (h : ∀ o ∈ refs v, H' o = H o) : indexAddrA H' n v i = indexAddrA H n v i := by
  cases v <;> simp only [indexAddrA]
  rename_i o lo len g full
  rw [validO_local (h o (by simp [refs])), szOK_local (v := .own o lo len g full) n h]

theorem eqV_local {P : Program} {t : TypeId} {a b : AV} (ha : ∀ o ∈ refs a, H' o = H o) (hb : ∀ o ∈ refs b, H' o = H o) : eqV P H' t a b = eqV P H t a b := by
  unfold eqV
  split <;> first
    | rfl
    | (rw [validO_local (hb _ (List.mem_singleton.2 rfl))])
    | (rw [validO_local (ha _ (List.mem_singleton.2 rfl))])

theorem evalBin_local {P : Program} {op : BinOp} {t : TypeId} {ox oy : Operand} {a b : AV} (ha : ∀ o ∈ refs a, H' o = H o) (hb : ∀ o ∈ refs b, H' o = H o) :
    evalBin P H' op t ox oy a b = evalBin P H op t ox oy a b := by
  unfold evalBin
  split <;> first
    | rfl
    | (rw [eqV_local ha hb])

theorem convQ_local {P : Program} {s d : TypeId} {v : AV} (h : ∀ o ∈ refs v, H' o = H o) : convQ P H' s d v = convQ P H s d v := by
  unfold convQ
  split <;> first
    | rfl
    | (rw [elems_local h])

theorem appArg_local {P : Program} {u : TypeId} {n : Nat} {v : AV} (h : ∀ o ∈ refs v, H' o = H o) : appArg P H' u n v = appArg P H u n v := by
  unfold appArg
  split <;> first
    | rfl
    | (rw [elems_local h])

theorem evalAppend_local {P : Program} {nx : Nat} {t u : TypeId} {s x : AV} (hs : ∀ o ∈ refs s, H' o = H o) (hx : ∀ o ∈ refs x, H' o = H o) :
    evalAppend P H' nx t u s x = evalAppend P H nx t u s x := by
  unfold evalAppend
  split
  · split
    · rfl
    · rw [appArg_local hx, validS_local hs]
      split
      · split
        · rfl
        · split
          · rfl
          · split <;> first
              | rfl
              | (rw [hs _ (by simp [refs])])
      · rfl
  · rfl

variable {T T' : List AV}

theorem evalQ_local {P : Program} {op : Op} (hT : ∀ x ∈ op.operands.toList, evalA T' x = evalA T x) (hH : ∀ x ∈ op.operands.toList, ∀ o ∈ refs (evalA T x), H' o = H o) :
    evalQ P H' T' op = evalQ P H T op := by
  have one : ∀ x, x ∈ op.operands.toList → evalA T' x = evalA T x ∧ ∀ o ∈ refs (evalA T x), H' o = H o := fun x hx => ⟨hT x hx, hH x hx⟩
  unfold evalQ
  split
  case h_1 x => rw [(one x (by simp [Op.operands])).1]
  case h_2 x => rw [(one x (by simp [Op.operands])).1]
  case h_3 c a b => rw [(one c (by simp [Op.operands])).1, (one a (by simp [Op.operands])).1, (one b (by simp [Op.operands])).1]
  case h_4 t a =>
    obtain ⟨h1, h2⟩ := one a (by simp [Op.operands])
    rw [h1, cellsOf_local h2]
  case h_5 x =>
    obtain ⟨h1, h2⟩ := one x (by simp [Op.operands])
    rw [h1, nilChk_local h2]
  case h_6 op t x y u =>
    obtain ⟨h1, h2⟩ := one x (by simp [Op.operands])
    obtain ⟨h3, h4⟩ := one y (by simp [Op.operands])
    rw [h1, h3, evalBin_local h2 h4]
  case h_7 op t x => rw [(one x (by simp [Op.operands])).1]
  case h_8 s d x =>
    obtain ⟨h1, h2⟩ := one x (by simp [Op.operands])
    rw [h1, convQ_local h2]
  case h_9 t x => rw [(one x (by simp [Op.operands])).1]
  case h_10 f first caps =>
    have : caps.toList.map (evalA T') = caps.toList.map (evalA T) := List.map_congr_left fun x hx => (one x (by simp [Op.operands]; exact .inr (by simpa using hx))).1
    rw [this]
  case h_11 t x lo hi mx =>
    obtain ⟨h1, h2⟩ := one x (by simp [Op.operands])
    have e1 : lo.map (evalA T') = lo.map (evalA T) := by
      cases lo with
      | none => rfl
      | some y => simp [(one y (by simp [Op.operands])).1]
    have e2 : hi.map (evalA T') = hi.map (evalA T) := by
      cases hi with
      | none => rfl
      | some y => simp [(one y (by simp [Op.operands])).1]
    have e3 : mx.map (evalA T') = mx.map (evalA T) := by
      cases mx with
      | none => rfl
      | some y => simp [(one y (by simp [Op.operands])).1]
    rw [h1, e1, e2, e3]
    split
    · rfl
    · rw [validS_local h2]
      split
      · rw [szOK_local _ h2]
      · rfl
    · rfl
  case h_12 s x f =>
    obtain ⟨h1, h2⟩ := one x (by simp [Op.operands])
    rw [h1]
    split
    · split
      · rw [fieldA_local _ h2]
      · rfl
    · rfl
  case h_13 s x f => rw [(one x (by simp [Op.operands])).1]
  case h_14 t x i =>
    obtain ⟨h1, h2⟩ := one x (by simp [Op.operands])
    rw [h1, (one i (by simp [Op.operands])).1]
    split
    · split
      · rw [indexAddrA_local _ _ h2]
      · rfl
    · split
      · unfold indexArrA; rw [fieldA_local _ h2]
      · rfl
    · rfl
  case h_15 t x i => rw [(one x (by simp [Op.operands])).1, (one i (by simp [Op.operands])).1]
  case h_16 t i => rw [(one t (by simp [Op.operands])).1]
  case h_17 args argTypes =>
    split
    · rename_i x t hx ht
      have hm : x ∈ args := by rw [← Array.mem_toList_iff, hx]; simp
      obtain ⟨h1, h2⟩ := one x (by simp [Op.operands, Call.operands]; exact hm)
      rw [h1, lenB_local h2]
    · rfl
  case h_18 args argTypes =>
    have : args.toList.map (evalA T') = args.toList.map (evalA T) := List.map_congr_left fun x hx => (one x (by simp [Op.operands, Call.operands]; simpa using hx)).1
    rw [this]
  case h_19 args argTypes =>
    have : args.toList.map (evalA T') = args.toList.map (evalA T) := List.map_congr_left fun x hx => (one x (by simp [Op.operands, Call.operands]; simpa using hx)).1
    rw [this]
  case h_20 => rfl

theorem evalE_local {P : Program} {nx : Nat} {op : Op} (hT : ∀ x ∈ op.operands.toList, evalA T' x = evalA T x) (hH : ∀ x ∈ op.operands.toList, ∀ o ∈ refs (evalA T x), H' o = H o) :
    evalE P H' nx T' op = evalE P H nx T op := by
  have one : ∀ x, x ∈ op.operands.toList → evalA T' x = evalA T x ∧ ∀ o ∈ refs (evalA T x), H' o = H o := fun x hx => ⟨hT x hx, hH x hx⟩
  have parts : ∀ ps : Array (Nat × Operand), (∀ x ∈ ps, x.2 ∈ op.operands.toList) → partsA T' ps = partsA T ps := by
    intro ps hp
    unfold partsA
    refine List.map_congr_left fun x hx => ?_
    rw [(one x.2 (hp x (by simpa using hx))).1]
  unfold evalE
  split
  case h_1 t addr val =>
    obtain ⟨h1, h2⟩ := one addr (by simp [Op.operands])
    obtain ⟨h3, _⟩ := one val (by simp [Op.operands])
    congr 1
    unfold evalStore
    rw [h1, h3]
    cases hv : evalA T addr <;> simp only
    rw [hv] at h2
    rw [h2 _ (by simp [refs])]
  case h_2 t => rfl
  case h_3 t x => rw [(one x (by simp [Op.operands])).1]
  case h_4 t ps =>
    congr 1
    unfold evalBuild
    rw [parts ps (fun x hx => by simp [Op.operands]; exact ⟨x.1, hx⟩)]
  case h_5 t len ps =>
    congr 1
    unfold evalBuildSlice
    rw [parts ps (fun x hx => by simp [Op.operands]; exact ⟨x.1, hx⟩)]
  case h_6 sx xx t u =>
    obtain ⟨h1, h2⟩ := one sx (by simp [Op.operands, Call.operands])
    obtain ⟨h3, h4⟩ := one xx (by simp [Op.operands, Call.operands])
    rw [h1, h3, evalAppend_local h2 h4]
  case h_7 t l c =>
    congr 1
    unfold evalMake
    rw [(one l (by simp [Op.operands])).1, (one c (by simp [Op.operands])).1]
  case h_8 s d x =>
    obtain ⟨h1, h2⟩ := one x (by simp [Op.operands])
    unfold evalStrBytes
    rw [h1, convQ_local h2]
  case h_9 => rw [evalQ_local hT hH]

end

end Go.AM
