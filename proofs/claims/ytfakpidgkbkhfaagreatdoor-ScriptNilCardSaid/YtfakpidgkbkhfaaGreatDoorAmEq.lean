/- The abstract machine: comparisons and the rest of the quiet operations. -/
import Derived.Test.YtfakpidgkbkhfaaGreatDoorAmOps
namespace Go.AM

def isPtrT (P : Program) (t : TypeId) : Option TypeId := match P.underlying t with | some (.pointer e) => some e | _ => none

def eqV (P : Program) (H : Heap) (t : TypeId) (a b : AV) : Option Bool :=
  match P.underlying t, a, b with
  | some .bool, .bool x, .bool y => some (x == y)
  | some (.pointer _), .nilptr, .nilptr => some true
  | some (.pointer _), .nilptr, .ptr o _ _ g => if validO H o g = true then some false else none
  | some (.pointer _), .ptr o _ _ g, .nilptr => if validO H o g = true then some false else none
  | some (.pointer _), .nilptr, .cptr _ => some false
  | some (.pointer _), .cptr _, .nilptr => some false
  | some (.interface _), .nilif, .iface _ _ => some false
  | some (.interface _), .iface _ _, .nilif => some false
  | some (.func _ _ _), .nilfn, .nilfn => some true
  | some (.func _ _ _), .nilfn, .fn _ _ => some false
  | some (.func _ _ _), .fn _ _, .nilfn => some false
  | some (.slice _), .nilsl, .nilsl => some true
  | some (.slice _), .vec _ (_ :: _), .nilsl => some false
  | some (.slice _), .nilsl, .vec _ (_ :: _) => some false
  | some (.slice _), .own o _ (_ + 1) g _, .nilsl => if validO H o g = true then some false else none
  | some (.slice _), .nilsl, .own o _ (_ + 1) g _ => if validO H o g = true then some false else none
  | _, _, _ => none

/-- A slice with a letter in it is of some block. -/
theorem own_some {c : Cx} {H : Heap} {w : World} {o lo n g : Nat} {full : Bool} {y : Value} (h : validO H o g = true) (hv : RepV c H w (.own o lo (n + 1) g full) y) :
    ∃ a l k, y = .slice (some a) l k := by
  simp only [RepV] at hv
  obtain ⟨x, hx, _, hv⟩ := hv
  simp only [validO, hx] at h
  have hv := hv (by simpa using h)
  split at hv
  · obtain ⟨_, hn, _⟩ := hv; omega
  · obtain ⟨cap, e, m, rfl, _⟩ := hv; exact ⟨_, _, _, rfl⟩

theorem equal_of {P : Program} {t : TypeId} {x y : Value} {w : World} {r : Result Bool} (h : ∀ d, (Op.equalIn (d + 1) t x y).run P w = r) : (Op.equal t x y).run P w = r := h 9999

theorem eqV_run {P : Program} {H : Heap} {t : TypeId} {a b : AV} {r : Bool} (h : eqV P H t a b = some r) {c : Cx} {w : World} {x y : Value}
    (hx : RepV c H w a x) (hy : RepV c H w b y) (d : Nat) : (Op.equalIn (d + 1) t x y).run P w = .ok r w ∧ (∀ op ox oy, (eqGuard op t ox oy x y).run P w = .ok () w) ∧
      (∀ k n, x ≠ .int k n) ∧ (∀ s, x ≠ .string s) ∧ (∀ k n, x ≠ .float k n) ∧ (∀ k n m, x ≠ .complex k n m) := by
  unfold eqV at h
  split at h
  case h_1 hu => cases h; simp only [RepV] at hx hy; subst hx hy; refine ⟨by simp [Op.equalIn, run_underlying hu], fun op ox oy => by cases op <;> simp [eqGuard], by simp, by simp, by simp, by simp⟩
  case h_2 hu => cases h; simp only [RepV] at hx hy; subst hx hy; refine ⟨by simp [Op.equalIn, run_underlying hu], fun op ox oy => by cases op <;> simp [eqGuard], by simp, by simp, by simp, by simp⟩
  case h_3 hu =>
    split at h
    · rename_i hg
      cases h
      obtain ⟨x', b', _, _, _, rfl⟩ := valid_ptr hg hy
      simp only [RepV] at hx; subst hx
      refine ⟨by simp [Op.equalIn, run_underlying hu], fun op ox oy => by cases op <;> simp [eqGuard], by simp, by simp, by simp, by simp⟩
    · cases h
  case h_4 hu =>
    split at h
    · rename_i hg
      cases h
      obtain ⟨x', b', _, _, _, rfl⟩ := valid_ptr hg hx
      simp only [RepV] at hy; subst hy
      refine ⟨by simp [Op.equalIn, run_underlying hu], fun op ox oy => by cases op <;> simp [eqGuard], by simp, by simp, by simp, by simp⟩
    · cases h
  case h_5 hu =>
    cases h; simp only [RepV] at hx hy; subst hx
    obtain ⟨_, _, _, rfl, _⟩ := hy
    refine ⟨by simp [Op.equalIn, run_underlying hu], fun op ox oy => by cases op <;> simp [eqGuard], by simp, by simp, by simp, by simp⟩
  case h_6 hu =>
    cases h; simp only [RepV] at hx hy; subst hy
    obtain ⟨_, _, _, rfl, _⟩ := hx
    refine ⟨by simp [Op.equalIn, run_underlying hu], fun op ox oy => by cases op <;> simp [eqGuard], by simp, by simp, by simp, by simp⟩
  case h_7 hu =>
    cases h; simp only [RepV] at hx hy; subst hx
    obtain ⟨_, rfl, _⟩ := hy
    refine ⟨by simp [Op.equalIn, run_underlying hu], fun op ox oy => by cases op <;> simp [eqGuard], by simp, by simp, by simp, by simp⟩
  case h_8 hu =>
    cases h; simp only [RepV] at hx hy; subst hy
    obtain ⟨_, rfl, _⟩ := hx
    refine ⟨by simp [Op.equalIn, run_underlying hu], fun op ox oy => by cases op <;> simp [eqGuard], by simp, by simp, by simp, by simp⟩
  case h_9 hu => cases h; simp only [RepV] at hx hy; subst hx hy; refine ⟨by simp [Op.equalIn, run_underlying hu], fun op ox oy => by cases op <;> simp [eqGuard], by simp, by simp, by simp, by simp⟩
  case h_10 hu =>
    cases h; simp only [RepV] at hx hy; subst hx
    obtain ⟨_, rfl, _⟩ := hy
    refine ⟨by simp [Op.equalIn, run_underlying hu], fun op ox oy => by cases op <;> simp [eqGuard], by simp, by simp, by simp, by simp⟩
  case h_11 hu =>
    cases h; simp only [RepV] at hx hy; subst hy
    obtain ⟨_, rfl, _⟩ := hx
    refine ⟨by simp [Op.equalIn, run_underlying hu], fun op ox oy => by cases op <;> simp [eqGuard], by simp, by simp, by simp, by simp⟩
  case h_12 hu => cases h; simp only [RepV] at hx hy; subst hx hy; refine ⟨by simp [Op.equalIn, run_underlying hu], fun op ox oy => by cases op <;> simp [eqGuard], by simp, by simp, by simp, by simp⟩
  case h_13 hu =>
    cases h; simp only [RepV] at hx hy; subst hy
    rcases hx with ⟨hx, _⟩ | ⟨_, _, _, _, _, _, _, rfl, _⟩
    · cases hx
    · refine ⟨by simp [Op.equalIn, run_underlying hu], fun op ox oy => by cases op <;> simp [eqGuard], by simp, by simp, by simp, by simp⟩
  case h_14 hu =>
    cases h; simp only [RepV] at hx hy; subst hx
    rcases hy with ⟨hy, _⟩ | ⟨_, _, _, _, _, _, _, rfl, _⟩
    · cases hy
    · refine ⟨by simp [Op.equalIn, run_underlying hu], fun op ox oy => by cases op <;> simp [eqGuard], by simp, by simp, by simp, by simp⟩
  case h_15 hu =>
    split at h
    · rename_i hg
      cases h
      obtain ⟨_, _, _, rfl⟩ := own_some hg hx
      simp only [RepV] at hy; subst hy
      refine ⟨by simp [Op.equalIn, run_underlying hu], fun op ox oy => by cases op <;> simp [eqGuard], by simp, by simp, by simp, by simp⟩
    · cases h
  case h_16 hu =>
    split at h
    · rename_i hg
      cases h
      obtain ⟨_, _, _, rfl⟩ := own_some hg hy
      simp only [RepV] at hx; subst hx
      refine ⟨by simp [Op.equalIn, run_underlying hu], fun op ox oy => by cases op <;> simp [eqGuard], by simp, by simp, by simp, by simp⟩
    · cases h
  case h_17 => cases h

def isConstO : Operand → Bool
  | .const _ => true
  | _ => false

def sureLe (hi : Option Int) (b : Int) : Bool := match hi with
  | some h => decide (h ≤ b)
  | none => false
def sureGe (lo : Option Int) (b : Int) : Bool := match lo with
  | some l => decide (b ≤ l)
  | none => false

/-- A comparison of what lies within bounds with a number. -/
def cmpR (op : BinOp) (lo hi : Option Int) (b : Int) : Option Bool :=
  match op with
  | .leq => if sureLe hi b then some true else if sureGe lo (b + 1) then some false else none
  | .gtr => if sureLe hi b then some false else if sureGe lo (b + 1) then some true else none
  | .lss => if sureLe hi (b - 1) then some true else if sureGe lo b then some false else none
  | .geq => if sureLe hi (b - 1) then some false else if sureGe lo b then some true else none
  | .eql => if sureLe hi (b - 1) || sureGe lo (b + 1) then some false else none
  | .neq => if sureLe hi (b - 1) || sureGe lo (b + 1) then some true else none
  | _ => none

theorem sureLe_le {hi : Option Int} {b n : Int} (h : sureLe hi b = true) (hn : ∀ h, hi = some h → n ≤ h) : n ≤ b := by
  cases hi with
  | none => cases h
  | some x => exact Int.le_trans (hn x rfl) (of_decide_eq_true h)
theorem sureGe_ge {lo : Option Int} {b n : Int} (h : sureGe lo b = true) (hn : ∀ l, lo = some l → l ≤ n) : b ≤ n := by
  cases lo with
  | none => cases h
  | some x => exact Int.le_trans (of_decide_eq_true h) (hn x rfl)

theorem cmpR_eq {op : BinOp} {k : IntKind} {lo hi : Option Int} {b n : Int} {r : Bool} (h : cmpR op lo hi b = some r) (h1 : ∀ l, lo = some l → l ≤ n) (h2 : ∀ h, hi = some h → n ≤ h) :
    binI op k n b = some (.bool r) := by
  have hc : cmpI op n b = some r := by
    unfold cmpR at h
    cases op <;> simp only [cmpI] at h ⊢ <;> first
      | (cases h; done)
      | (split at h
         · rename_i g
           cases h
           first
             | (have := sureLe_le g h2; simp; omega)
             | (rcases (Bool.or_eq_true _ _).mp g with g | g
                · have := sureLe_le g h2; simp; omega
                · have := sureGe_ge g h1; simp; omega)
         · first
             | (cases h; done)
             | (split at h
                · rename_i g
                  cases h
                  have := sureGe_ge g h1; simp; omega
                · cases h))
  cases op <;> first
    | (simp [cmpI] at hc; done)
    | (simp only [binI, hc, Option.map_some])

def evalBin (P : Program) (H : Heap) (op : BinOp) (t : TypeId) (ox oy : Operand) (a b : AV) : Option AV :=
  match a, b with
  | .int k x, .int k' y =>
    match op with
    | .shl | .shr => shiftI op k x y
    | _ => if k = k' then binI op k x y else none
  | .str x, .str y => binS op x y
  | .intR k lo hi, .int k' y => if k = k' then (cmpR op lo hi y).map .bool else none
  | .nilif, .nilif =>
    match P.underlying t, op with
    | some (.interface _), .eql => if isConstO ox || isConstO oy then some (.bool true) else none
    | some (.interface _), .neq => if isConstO ox || isConstO oy then some (.bool false) else none
    | _, _ => none
  | a, b =>
    match op with
    | .eql => (eqV P H t a b).map .bool
    | .neq => (eqV P H t a b).map fun r => .bool (!r)
    | _ => none

theorem binOp_eq_run {P : Program} {op : BinOp} (hop : op = .eql ∨ op = .neq) {t : TypeId} {x y : Value} {r : Bool} {w : World} (h : (Op.equal t x y).run P w = .ok r w)
    (h1 : ∀ k n, x ≠ .int k n) (h2 : ∀ s, x ≠ .string s) (h3 : ∀ k n, x ≠ .float k n) (h4 : ∀ k n m, x ≠ .complex k n m) :
    (binOp op t x y).run P w = .ok (.bool (if op = .eql then r else !r)) w := by
  rcases hop with rfl | rfl <;> cases x <;> first
    | exact absurd rfl (h1 _ _)
    | exact absurd rfl (h2 _)
    | exact absurd rfl (h3 _ _)
    | exact absurd rfl (h4 _ _ _)
    | (simp only [binOp, Sem.run_bind, h, Result.andThen_ok]; simp)

theorem evalBin_run {P : Program} {H : Heap} {op : BinOp} {t : TypeId} {ox oy : Operand} {a b r : AV} (h : evalBin P H op t ox oy a b = some r) {c : Cx} {w : World} {x y : Value}
    (hx : RepV c H w a x) (hy : RepV c H w b y) : ∃ v, (do eqGuard op t ox oy x y; binOp op t x y : Sem Value).run P w = .ok v w ∧ RepV c H w r v := by
  unfold evalBin at h
  split at h
  · rename_i k m k' n
    simp only [RepV] at hx hy
    subst hx hy
    have hg : (eqGuard op t ox oy (.int k m) (.int k' n)).run P w = .ok () w := by cases op <;> simp [eqGuard]
    simp only [Sem.run_bind, hg, Result.andThen_ok]
    split at h
    · exact shiftI_run h t c H w
    · exact shiftI_run h t c H w
    · split at h
      · rename_i hk; subst hk; exact binI_run h t c H w
      · cases h
  · rename_i s1 s2
    simp only [RepV] at hx hy
    subst hx hy
    have hg : (eqGuard op t ox oy (.string ⟨s1.toArray⟩) (.string ⟨s2.toArray⟩)).run P w = .ok () w := by cases op <;> simp [eqGuard]
    simp only [Sem.run_bind, hg, Result.andThen_ok]
    exact binS_run h t c H w
  · rename_i k lo hi k' y
    simp only [RepV] at hx hy
    obtain ⟨n, rfl, h1, h2⟩ := hx
    subst hy
    have hg : (eqGuard op t ox oy (.int k n) (.int k' y)).run P w = .ok () w := by cases op <;> simp [eqGuard]
    simp only [Sem.run_bind, hg, Result.andThen_ok]
    split at h
    · rename_i hk; subst hk
      obtain ⟨q, hq, rfl⟩ := Option.map_eq_some_iff.1 h
      exact binI_run (cmpR_eq hq h1 h2) t c H w
    · cases h
  · simp only [RepV] at hx hy
    subst hx hy
    have hcm : ∀ (x y : Operand), (isConstO x || isConstO y) = true → ((match x with | .const _ => true | _ => false) = true ∨ (match y with | .const _ => true | _ => false) = true) := by
      intro x y hc
      rcases Bool.or_eq_true _ _ ▸ hc with h | h
      · left; cases x <;> simp_all [isConstO]
      · right; cases y <;> simp_all [isConstO]
    split at h
    · rename_i ms hu
      split at h
      · rename_i hc
        cases h
        have := hcm ox oy hc
        refine ⟨.bool true, ?_, rfl⟩
        have he : (Op.equal t .nilIface .nilIface).run P w = .ok true w := equal_of fun d => by simp [Op.equalIn, run_underlying hu]
        have hg : (eqGuard .eql t ox oy .nilIface .nilIface).run P w = .ok () w := by
          simp only [eqGuard]
          cases ox <;> cases oy <;> simp_all [isConstO]
        simp only [Sem.run_bind, hg, Result.andThen_ok]
        rw [binOp_eq_run (.inl rfl) he (by simp) (by simp) (by simp) (by simp)]
        rfl
      · cases h
    · rename_i ms hu
      split at h
      · rename_i hc
        cases h
        refine ⟨.bool false, ?_, rfl⟩
        have he : (Op.equal t .nilIface .nilIface).run P w = .ok true w := equal_of fun d => by simp [Op.equalIn, run_underlying hu]
        have hg : (eqGuard .neq t ox oy .nilIface .nilIface).run P w = .ok () w := by
          simp only [eqGuard]
          cases ox <;> cases oy <;> simp_all [isConstO]
        simp only [Sem.run_bind, hg, Result.andThen_ok]
        rw [binOp_eq_run (.inr rfl) he (by simp) (by simp) (by simp) (by simp)]
        rfl
      · cases h
    · cases h
  · split at h
    · obtain ⟨q, hq, rfl⟩ := Option.map_eq_some_iff.1 h
      obtain ⟨_, hg, h1, h2, h3, h4⟩ := eqV_run hq hx hy 0
      have h0 := equal_of fun d => (eqV_run hq hx hy d).1
      simp only [Sem.run_bind, hg, Result.andThen_ok]
      exact ⟨_, binOp_eq_run (.inl rfl) h0 h1 h2 h3 h4, by simp [RepV]⟩
    · obtain ⟨q, hq, rfl⟩ := Option.map_eq_some_iff.1 h
      obtain ⟨_, hg, h1, h2, h3, h4⟩ := eqV_run hq hx hy 0
      have h0 := equal_of fun d => (eqV_run hq hx hy d).1
      simp only [Sem.run_bind, hg, Result.andThen_ok]
      exact ⟨_, binOp_eq_run (.inr rfl) h0 h1 h2 h3 h4, by simp [RepV]⟩
    · cases h

end Go.AM
