/- The abstract machine: the evaluator. -/
import Derived.Test.YtfakpidgkbkhfaaGreatDoorAmMake
namespace Go.AM

/-- A heap that can be reckoned. -/
inductive Tr where
  | e
  | n (l : Tr) (v : Option AObj) (r : Tr)
  deriving Inhabited

def Tr.get : Tr → Nat → Option AObj
  | .e, _ => none
  | .n l v r, k => if k = 0 then v else if k % 2 = 1 then l.get (k / 2) else r.get (k / 2 - 1)

def Tr.set : Nat → Tr → Nat → AObj → Tr
  | 0, t, _, _ => t
  | f + 1, t, k, x =>
    match t with
    | .e => if k = 0 then .n .e (some x) .e else if k % 2 = 1 then .n (Tr.set f .e (k / 2) x) none .e else .n .e none (Tr.set f .e (k / 2 - 1) x)
    | .n l v r => if k = 0 then .n l (some x) r else if k % 2 = 1 then .n (Tr.set f l (k / 2) x) v r else .n l v (Tr.set f r (k / 2 - 1) x)

theorem Tr.get_set : ∀ (f : Nat) (t : Tr) (k : Nat) (x : AObj), k + 1 < 2 ^ f → ∀ j, (Tr.set f t k x).get j = if j = k then some x else t.get j
  | 0, t, k, x, h, j => by
    simp at h
  | f + 1, t, k, x, h, j => by
    have h1 : k % 2 = 1 → k / 2 + 1 < 2 ^ f := by rw [Nat.pow_succ] at h; omega
    have h2 : k ≠ 0 → ¬ k % 2 = 1 → k / 2 - 1 + 1 < 2 ^ f := by rw [Nat.pow_succ] at h; omega
    cases t with
    | e =>
      simp only [Tr.set]
      by_cases k0 : k = 0
      · subst k0
        simp only [if_true, Tr.get]
        split
        · rfl
        · split <;> rfl
      · by_cases k1 : k % 2 = 1
        · simp only [k0, k1, if_false, if_true, Tr.get]
          rw [Tr.get_set f .e (k / 2) x (h1 k1)]
          by_cases j0 : j = 0
          · subst j0; simp [Ne.symm k0]
          · by_cases j1 : j % 2 = 1
            · simp only [j0, j1, if_false, if_true, Tr.get]
              by_cases e : j = k
              · subst e; simp
              · rw [if_neg (by omega), if_neg e]
            · simp only [j0, j1, if_false, Tr.get]
              rw [if_neg (by omega)]
        · simp only [k0, k1, if_false, Tr.get]
          rw [Tr.get_set f .e (k / 2 - 1) x (h2 k0 k1)]
          by_cases j0 : j = 0
          · subst j0; simp [Ne.symm k0]
          · by_cases j1 : j % 2 = 1
            · simp only [j0, j1, if_false, if_true, Tr.get]
              rw [if_neg (by omega)]
            · simp only [j0, j1, if_false, Tr.get]
              by_cases e : j = k
              · subst e; simp
              · rw [if_neg (by omega), if_neg e]
    | n l v r =>
      simp only [Tr.set]
      by_cases k0 : k = 0
      · subst k0
        simp only [if_true, Tr.get]
        by_cases j0 : j = 0
        · simp [j0]
        · simp [j0]
      · by_cases k1 : k % 2 = 1
        · simp only [k0, k1, if_false, if_true, Tr.get]
          rw [Tr.get_set f l (k / 2) x (h1 k1)]
          by_cases j0 : j = 0
          · subst j0; simp [Ne.symm k0]
          · by_cases j1 : j % 2 = 1
            · simp only [j0, j1, if_false, if_true]
              by_cases e : j = k
              · subst e; simp
              · rw [if_neg (by omega), if_neg e]
            · simp only [j0, j1, if_false]
              rw [if_neg (by omega)]
        · simp only [k0, k1, if_false, Tr.get]
          rw [Tr.get_set f r (k / 2 - 1) x (h2 k0 k1)]
          by_cases j0 : j = 0
          · subst j0; simp [Ne.symm k0]
          · by_cases j1 : j % 2 = 1
            · simp only [j0, j1, if_false, if_true]
              rw [if_neg (by omega)]
            · simp only [j0, j1, if_false]
              by_cases e : j = k
              · subst e; simp
              · rw [if_neg (by omega), if_neg e]

structure TH where
  t : Tr
  nx : Nat
  deriving Inhabited

def TH.empty : TH := ⟨.e, 0⟩
def TH.den (h : TH) : Heap := h.t.get

/-- Nothing lies from nx on. -/
def TH.ok (h : TH) : Prop := ∀ k, h.nx ≤ k → h.den k = none

theorem TH.ok_empty : TH.empty.ok := fun _ _ => rfl

def TH.apply (h : TH) : Option (Nat × AObj) → Option TH
  | none => some h
  | some (k, x) => if k ≤ h.nx ∧ h.nx < 1000000000 then some ⟨Tr.set 40 h.t k x, max h.nx (k + 1)⟩ else none

theorem TH.apply_den {h h' : TH} {e : Option (Nat × AObj)} (ha : h.apply e = some h') (ho : h.ok) : h'.den = applyEff h.den e ∧ h'.ok := by
  cases e with
  | none => simp only [TH.apply] at ha; cases ha; exact ⟨rfl, ho⟩
  | some kx =>
    obtain ⟨k, x⟩ := kx
    simp only [TH.apply] at ha
    split at ha
    · rename_i hc
      cases ha
      have hg := Tr.get_set 40 h.t k x (by omega)
      have h1 : (⟨Tr.set 40 h.t k x, max h.nx (k + 1)⟩ : TH).den = applyEff h.den (some (k, x)) := by
        funext j
        simp only [TH.den, applyEff, Heap.set, hg]
      refine ⟨h1, fun j hj => ?_⟩
      rw [h1]
      simp only [applyEff, Heap.set]
      have : max h.nx (k + 1) ≤ j := hj
      rw [if_neg (by omega)]
      exact ho j (by omega)
    · cases ha

/-- An operation that is no call of a function: its value, and what it does. -/
def evalE (P : Program) (H : Heap) (nx : Nat) (T : List AV) (op : Op) : Option (AV × Option (Nat × AObj)) :=
  match op with
  | .store t addr val => (evalStore P H T t addr val).map fun x => (.tup [], some x)
  | .alloc t => match zeroT P t with
    | some z => if known (ofConst z) = true then some (.ptr nx 0 0 0, some (nx, ⟨(ofConst z).cells.length, 0, false, [ofConst z]⟩)) else none
    | none => none
  | .box _ x => if known (evalA T x) = true then some (.ptr nx 0 0 0, some (nx, ⟨(evalA T x).cells.length, 0, false, [evalA T x]⟩)) else none
  | .build t parts => (evalBuild P T t parts).map fun v => (v, none)
  | .buildSlice t len parts => (evalBuildSlice P T t len parts).map fun x => (.own nx 0 len 0 true, some (nx, ⟨x.1, 0, false, x.2⟩))
  | .call { callee := .builtin .append, args := ⟨[sx, xx]⟩, argTypes := ⟨[t, u]⟩ } => evalAppend P H nx t u (evalA T sx) (evalA T xx)
  | .makeSlice t l c => (evalMake P T t l c).map fun x => (.own nx 0 x.2.1 0 (x.2.1 == x.2.2.1), some (nx, ⟨x.1, 0, false, x.2.2.2⟩))
  | .convert s d x => match evalStrBytes P T s d x with
    | some l => some (.own nx 0 l.length 0 false, some (nx, ⟨1, 0, true, l.map fun b => .int .u8 b.toNat⟩))
    | none => (convQ P H s d (evalA T x)).map fun v => (v, none)
  | op => (evalQ P H T op).map fun v => (v, none)

theorem evalE_ok {P : Program} {H : Heap} {nx : Nat} {T : List AV} {o : Oper} {r : AV} {eff : Option (Nat × AObj)} (h : evalE P H nx T o.op = some (r, eff)) (hn : ∀ x, eff = some (nx, x) → H nx = none) :
    OpOK P o T H r (applyEff H eff) := by
  unfold evalE at h
  split at h
  · rename_i t addr val ho
    obtain ⟨x, hx, he⟩ := Option.map_eq_some_iff.1 h
    cases he
    exact store_ok ho hx
  · rename_i t ho
    split at h
    · rename_i z hz
      split at h
      · rename_i hk
        cases h
        exact alloc_ok ho hz hk (hn _ rfl)
      · cases h
    · cases h
  · rename_i t x ho
    split at h
    · rename_i hk
      cases h
      exact box_ok ho hk (hn _ rfl)
    · cases h
  · rename_i t parts ho
    obtain ⟨v, hv, he⟩ := Option.map_eq_some_iff.1 h
    cases he
    exact evalBuild_ok ho hv
  · rename_i t len parts ho
    obtain ⟨x, hx, he⟩ := Option.map_eq_some_iff.1 h
    cases he
    exact buildSlice_ok ho hx (hn _ rfl)
  · rename_i sx xx t u ho
    exact append_ok ho h hn
  · rename_i t l c ho
    obtain ⟨⟨a1, a2, a3, a4⟩, hx, he⟩ := Option.map_eq_some_iff.1 h
    cases he
    exact make_ok ho hx (hn _ rfl)
  · rename_i s d x ho
    split at h
    · rename_i l hl
      cases h
      exact strBytes_ok ho hl (hn _ rfl)
    · obtain ⟨v, hv, he⟩ := Option.map_eq_some_iff.1 h
      cases he
      exact evalQ_ok (by rw [ho]; exact hv)
  · obtain ⟨v, hv, he⟩ := Option.map_eq_some_iff.1 h
    cases he
    exact evalQ_ok hv

end Go.AM
