/- The abstract machine: a region whose order is drawn: what does not meet may change places. -/
import Derived.Test.YtfakpidgkbkhfaaGreatDoorAmExec
import Derived.Orders
namespace Go.AM

/-- One more than the last of the first n that is in S and has p; 0: none. -/
def lw (S p : Nat → Bool) : Nat → Nat
  | 0 => 0
  | k + 1 => if S k && p k then k + 1 else lw S p k

theorem lw_le (S p : Nat → Bool) : ∀ n, lw S p n ≤ n
  | 0 => Nat.le_refl _
  | n + 1 => by
    simp only [lw]
    split
    · exact Nat.le_refl _
    · exact Nat.le_trans (lw_le S p n) (Nat.le_succ n)

theorem lw_cut (S p : Nat → Bool) (j : Nat) : ∀ n, j ≤ n → (∀ i, j ≤ i → i < n → p i = true → S i = false) → lw S p n = lw S p j
  | 0, h, _ => by rw [Nat.le_zero.1 h]
  | n + 1, h, hs => by
    rcases Nat.lt_or_ge j (n + 1) with hlt | hge
    · have ih := lw_cut S p j n (by omega) (fun i h1 h2 => hs i h1 (by omega))
      simp only [lw]
      split
      · rename_i hc
        simp only [Bool.and_eq_true] at hc
        have := hs n (by omega) (by omega) hc.2
        rw [this] at hc; simp at hc
      · exact ih
    · have : j = n + 1 := by omega
      subst this; rfl

theorem lw_congr (S S' p : Nat → Bool) : ∀ n, (∀ i, i < n → p i = true → S i = S' i) → lw S p n = lw S' p n
  | 0, _ => rfl
  | n + 1, h => by
    simp only [lw]
    rw [lw_congr S S' p n (fun i hi => h i (by omega))]
    by_cases hp : p n = true
    · rw [h n (by omega) hp]
    · have : p n = false := by simpa using hp
      simp [this]

/-- What stands at a place that few write: as the last of them left it. -/
theorem lw_val {α : Type} (p : Nat → Bool) (f : Nat → α) (h : ∀ i, p i = false → f (i + 1) = f i) : ∀ n, f n = f (lw (fun _ => true) p n)
  | 0 => rfl
  | n + 1 => by
    simp only [lw, Bool.true_and]
    split
    · rfl
    · rename_i hp
      rw [h n (by simpa using hp)]
      exact lw_val p f h n

/-- What a region's operations come to, one behind the other, and what each looks at. -/
structure Draw (P : Program) (ops : Array Oper) where
  dst : Nat → Option Nat
  looks : Nat → List Nat
  F : Nat → Nat → Prop
  W : Nat → Nat → Prop
  T : Nat → List AV
  H : Nat → Heap
  r : Nat → AV

open Classical in
noncomputable def Draw.wb {P : Program} {ops : Array Oper} (D : Draw P ops) (o : Nat) (i : Nat) : Bool := decide (D.W i o)

def Draw.db {P : Program} {ops : Array Oper} (D : Draw P ops) (t : Nat) (i : Nat) : Bool := D.dst i == some t

noncomputable def Draw.HS {P : Program} {ops : Array Oper} (D : Draw P ops) (S : Nat → Bool) : Heap := fun o => D.H (lw S (D.wb o) ops.size) o
def Draw.TS {P : Program} {ops : Array Oper} (D : Draw P ops) (S : Nat → Bool) : List AV :=
  (List.range (D.T 0).length).map fun t => (D.T (lw S (D.db t) ops.size)).getD t .undef

open Classical in
noncomputable def Draw.upd {P : Program} {ops : Array Oper} (D : Draw P ops) (k : Nat) (H : Heap) : Heap := fun o => if D.W k o then D.H (k + 1) o else H o

/-- An operation, wherever what it looks at is as it was. -/
def Draw.Loc {P : Program} {ops : Array Oper} (D : Draw P ops) (k : Nat) : Prop :=
  ∀ (T' : List AV) (H' : Heap), (∀ t ∈ D.looks k, T'.getD t .undef = (D.T k).getD t .undef) → (∀ o, D.F k o → H' o = D.H k o) →
    ∀ (c : Cx) (w : World) (a : Act), RepH c H' w → RepT c H' w T' a.tmps → a.defers = [] → ∀ (K : Act → World → Prop) (Q : Exit → Act → World → Prop),
      (∀ a' c' w', RepH c' (D.upd k H') w' → RepT c' (D.upd k H') w' (putT T' (D.dst k) (D.r k)) a'.tmps → a'.defers = [] → Grow c H' w c' (D.upd k H') w' → K a' w') → True →
      wpOp P ops Q k K a w

def Draw.Conf {P : Program} {ops : Array Oper} (D : Draw P ops) (i j : Nat) : Prop :=
  (∃ d, D.dst i = some d ∧ (d ∈ D.looks j ∨ D.dst j = some d)) ∨ (∃ d, D.dst j = some d ∧ d ∈ D.looks i) ∨ (∃ o, D.W i o ∧ D.F j o) ∨ (∃ o, D.W j o ∧ D.F i o)

/-- i stands ahead of j wherever all that j waits for stands ahead of it. -/
def Ahead (ops : Array Oper) (i j : Nat) : Prop :=
  ∀ S : Nat → Bool, (∀ k o, ops[k]? = some o → S k = true → ∀ e ∈ o.after, Region.binds .any e = true → S e.on = true) →
    (∀ o, ops[j]? = some o → ∀ e ∈ o.after, Region.binds .any e = true → S e.on = true) → S i = true

structure Draw.Good {P : Program} {ops : Array Oper} (D : Draw P ops) : Prop where
  stepT : ∀ k, k < ops.size → D.T (k + 1) = putT (D.T k) (D.dst k) (D.r k)
  stepH : ∀ k, k < ops.size → ∀ o, ¬ D.W k o → D.H (k + 1) o = D.H k o
  sub : ∀ k o, D.W k o → D.F k o
  loc : ∀ k, k < ops.size → D.Loc k
  ord : ∀ i j, i < j → j < ops.size → D.Conf i j → Ahead ops i j
  back : ∀ k o, ops[k]? = some o → ∀ e ∈ o.after, Region.binds .any e = true → e.on < k
  past : ∀ k, ops.size ≤ k → D.dst k = none ∧ (∀ o, ¬ D.W k o)

theorem getD_of (T : List AV) (t : Nat) (h : t < T.length) : T[t] = T.getD t .undef := by simp [List.getD_eq_getElem?_getD, h]

theorem putT_length (T : List AV) (d : Option Tmp) (v : AV) : (putT T d v).length = T.length := by
  cases d <;> simp [putT]

theorem putT_getD (T : List AV) (d : Option Tmp) (v : AV) (t : Nat) (h : d ≠ some t) : (putT T d v).getD t .undef = T.getD t .undef := by
  cases d with
  | none => rfl
  | some d =>
    have : d ≠ t := fun e => h (by rw [e])
    simp [putT, List.getD_eq_getElem?_getD, this]

namespace Draw.Good
variable {P : Program} {ops : Array Oper} {D : Draw P ops}

theorem lenT (G : D.Good) : ∀ k, k ≤ ops.size → (D.T k).length = (D.T 0).length
  | 0, _ => rfl
  | k + 1, h => by rw [G.stepT k (by omega), putT_length]; exact lenT G k (by omega)

/-- A set that holds, with each, all that it waits for. -/
def Closed (ops : Array Oper) (S : Nat → Bool) : Prop :=
  ∀ k o, ops[k]? = some o → S k = true → ∀ e ∈ o.after, Region.binds .any e = true → S e.on = true

/-- Where j may come next: whoever meets it and stands ahead of it in the text has been, who stands behind it has not. -/
theorem split (G : D.Good) {S : Nat → Bool} (hS : Closed ops S) {j : Nat} (hj : j < ops.size) (hnj : S j = false) (hready : ∀ o, ops[j]? = some o → ∀ e ∈ o.after, Region.binds .any e = true → S e.on = true)
    (p : Nat → Bool) (hp : ∀ i, i ≠ j → i < ops.size → p i = true → D.Conf i j ∧ D.Conf j i) :
    lw S p ops.size = lw (fun _ => true) p j := by
  rw [lw_cut S p j ops.size (by omega) (fun i h1 h2 hpi => ?_)]
  · refine lw_congr _ _ _ j (fun i hi hpi => ?_)
    exact G.ord i j hi hj (hp i (by omega) (by omega) hpi).1 S hS hready
  · rcases Nat.lt_or_eq_of_le h1 with hlt | rfl
    · cases hSi : S i with
      | false => rfl
      | true =>
        have := G.ord j i hlt h2 (hp i (by omega) h2 hpi).2 S hS (fun o ho e he hb => hS i o ho hSi e he hb)
        rw [hnj] at this; cases this
    · exact hnj

def add (S : Nat → Bool) (j : Nat) : Nat → Bool := fun i => S i || i == j

theorem lw_add_same (S p : Nat → Bool) (j : Nat) (h : p j = false) (n : Nat) : lw (add S j) p n = lw S p n := by
  refine lw_congr _ _ _ n (fun i _ hpi => ?_)
  have : i ≠ j := fun e => by subst e; rw [h] at hpi; cases hpi
  simp [add, this]

theorem lw_add_hit (G : D.Good) {S : Nat → Bool} (hS : Closed ops S) {j : Nat} (hj : j < ops.size) (hnj : S j = false)
    (p : Nat → Bool) (hpj : p j = true) (hp : ∀ i, i ≠ j → i < ops.size → p i = true → D.Conf j i) : lw (add S j) p ops.size = j + 1 := by
  rw [lw_cut (add S j) p (j + 1) ops.size (by omega) (fun i h1 h2 hpi => ?_)]
  · simp [lw, add, hpj]
  · cases hSi : S i with
    | false =>
      have : i ≠ j := by omega
      simp [add, hSi, this]
    | true =>
      have := G.ord j i (by omega) h2 (hp i (by omega) h2 hpi) S hS (fun o ho e he hb => hS i o ho hSi e he hb)
      rw [hnj] at this; cases this

theorem valT (G : D.Good) (t : Nat) (n : Nat) (hn : n ≤ ops.size) : (D.T n).getD t .undef = (D.T (lw (fun _ => true) (D.db t) n)).getD t .undef := by
  have key : ∀ m, m ≤ ops.size → (D.T m).getD t .undef = (D.T (lw (fun _ => true) (D.db t) m)).getD t .undef := by
    intro m
    induction m with
    | zero => intro _; rfl
    | succ m ih =>
      intro hm
      simp only [lw, Bool.true_and]
      split
      · rfl
      · rename_i hp
        rw [G.stepT m (by omega), putT_getD _ _ _ _ (fun e => hp (by simp [Draw.db, e]))]
        exact ih (by omega)
  exact key n hn

theorem valH (G : D.Good) (o : Nat) (n : Nat) (hn : n ≤ ops.size) : D.H n o = D.H (lw (fun _ => true) (D.wb o) n) o := by
  have key : ∀ m, m ≤ ops.size → D.H m o = D.H (lw (fun _ => true) (D.wb o) m) o := by
    intro m
    induction m with
    | zero => intro _; rfl
    | succ m ih =>
      intro hm
      simp only [lw, Bool.true_and]
      split
      · rfl
      · rename_i hp
        rw [G.stepH m (by omega) o (fun e => hp (by simp [Draw.wb, e]))]
        exact ih (by omega)
  exact key n hn

theorem TS_getD (G : D.Good) (S : Nat → Bool) (t : Nat) : (D.TS S).getD t .undef = (D.T (lw S (D.db t) ops.size)).getD t .undef := by
  simp only [Draw.TS, List.getD_eq_getElem?_getD, List.getElem?_map]
  by_cases ht : t < (D.T 0).length
  · simp [ht]
  · simp [ht]
    have := G.lenT (lw S (D.db t) ops.size) (lw_le _ _ _)
    rw [List.getElem?_eq_none (by omega)]; rfl

/-- The next one, j: what it comes to is what all that has been, with it, comes to. -/
theorem TS_add (G : D.Good) {S : Nat → Bool} (hS : Closed ops S) {j : Nat} (hj : j < ops.size) (hnj : S j = false) (_hready : ∀ o, ops[j]? = some o → ∀ e ∈ o.after, Region.binds .any e = true → S e.on = true) :
    putT (D.TS S) (D.dst j) (D.r j) = D.TS (add S j) := by
  apply List.ext_getElem
  · simp [putT_length, Draw.TS]
  · intro t h1 h2
    have e1 : (putT (D.TS S) (D.dst j) (D.r j))[t] = (putT (D.TS S) (D.dst j) (D.r j)).getD t .undef := by simp [List.getD_eq_getElem?_getD, h1]
    have e2 : (D.TS (add S j))[t] = (D.TS (add S j)).getD t .undef := by simp [List.getD_eq_getElem?_getD, h2]
    rw [e1, e2, G.TS_getD]
    by_cases hd : D.dst j = some t
    · rw [G.lw_add_hit hS hj hnj (D.db t) (by simp [Draw.db, hd]) (fun i _ _ hpi => .inl ⟨t, hd, .inr (by simpa [Draw.db] using hpi)⟩)]
      rw [G.stepT j hj, hd]
      have hl : t < (D.T j).length := by
        rw [G.lenT j (by omega)]
        simpa [Draw.TS] using h2
      have hl' : t < (D.TS S).length := by simpa [Draw.TS] using h2
      simp [putT, List.getD_eq_getElem?_getD, hl, hl']
    · rw [putT_getD _ _ _ _ hd, G.TS_getD, lw_add_same _ _ _ (by simp [Draw.db, hd])]

theorem HS_add (G : D.Good) {S : Nat → Bool} (hS : Closed ops S) {j : Nat} (hj : j < ops.size) (hnj : S j = false) : D.upd j (D.HS S) = D.HS (add S j) := by
  funext o
  simp only [Draw.upd, Draw.HS]
  split
  · rename_i hw
    rw [G.lw_add_hit hS hj hnj (D.wb o) (by simp [Draw.wb, hw]) (fun i _ _ hpi => .inr (.inr (.inl ⟨o, hw, G.sub i o (by simpa [Draw.wb] using hpi)⟩)))]
  · rename_i hw
    rw [lw_add_same _ _ _ (by simp [Draw.wb, hw])]

theorem Closed_add {S : Nat → Bool} (hS : Closed ops S) {j : Nat} (hready : ∀ o, ops[j]? = some o → ∀ e ∈ o.after, Region.binds .any e = true → S e.on = true) : Closed ops (add S j) := by
  intro k o ho hk e he hb
  simp only [add, Bool.or_eq_true, beq_iff_eq] at hk ⊢
  rcases hk with hk | rfl
  · exact .inl (hS k o ho hk e he hb)
  · exact .inl (hready o ho e he hb)

theorem any (G : D.Good) : ∀ (fuel : Nat) (listed : Array Bool), listed.size = ops.size → (∀ i, listed.getD i false = true → i < ops.size) → (listed.toList.filter (! ·)).length ≤ fuel → Closed ops (fun i => listed.getD i false) →
    ∀ (c : Cx) (w : World) (a : Act), RepH c (D.HS fun i => listed.getD i false) w → RepT c (D.HS fun i => listed.getD i false) w (D.TS fun i => listed.getD i false) a.tmps → a.defers = [] →
    ∀ Q : Exit → Act → World → Prop, (∀ a' c' w', RepH c' (D.H ops.size) w' → RepT c' (D.H ops.size) w' (D.T ops.size) a'.tmps → a'.defers = [] → Grow c (D.HS fun i => listed.getD i false) w c' (D.H ops.size) w' → Q .normal a' w') → True →
    wpAny P .any ops Q fuel listed a w := by
  intro fuel
  induction fuel with
  | zero =>
    intro listed hsz hin hfu hcl c w a hH hT hd Q hq hout
    have hall : ∀ i, i < ops.size → listed.getD i false = true := by
      intro i hi
      have hi' : i < listed.toList.length := by simpa [hsz] using hi
      have h0 : listed.toList.filter (! ·) = [] := List.eq_nil_of_length_eq_zero (by omega)
      have hm := List.filter_eq_nil_iff.1 h0 listed.toList[i] (List.getElem_mem hi')
      simp at hm
      have hi2 : i < listed.size := by omega
      simpa [Array.getD, hi2] using hm
    refine ⟨?_, ?_⟩
    · unfold Region.ready
      rw [List.filter_eq_nil_iff]
      intro i hi
      have := hall i (List.mem_range.1 hi)
      have hi2 : i < listed.size := by have := List.mem_range.1 hi; omega
      simp [Array.getD, hi2] at this ⊢
      simp [this]
    · have eT : (D.TS fun i => listed.getD i false) = D.T ops.size := by
        apply List.ext_getElem
        · simp [Draw.TS, G.lenT ops.size (Nat.le_refl _)]
        · intro t h1 h2
          rw [getD_of _ t h1, getD_of _ t h2, G.TS_getD, G.valT t ops.size (Nat.le_refl _)]
          rw [lw_congr (fun i => listed.getD i false) (fun _ => true) _ _ (fun i hi _ => hall i hi)]
      have eH : (D.HS fun i => listed.getD i false) = D.H ops.size := by
        funext o
        simp only [Draw.HS]
        rw [G.valH o ops.size (Nat.le_refl _), lw_congr (fun i => listed.getD i false) (fun _ => true) _ _ (fun i hi _ => hall i hi)]
      rw [eT] at hT
      rw [eH] at hH hT hq
      exact hq a c w hH hT hd (Grow.refl _ _ _)
  | succ fuel ih =>
    intro listed hsz hin hfu hcl c w a hH hT hd Q hq hout
    refine ⟨fun hnil => ?_, fun j hj => ?_⟩
    · -- nothing is ready: all has been
      have hall : ∀ i, i < ops.size → listed.getD i false = true := by
        intro i
        induction i using Nat.strongRecOn with
        | _ i ihi =>
          intro hi
          have hi2 : i < listed.size := by omega
          cases hl : listed.getD i false with
          | true => rfl
          | false =>
            exfalso
            have hm : i ∈ Region.ready .any ops listed := by
              unfold Region.ready
              rw [List.mem_filter]
              refine ⟨List.mem_range.2 hi, ?_⟩
              have ho : ops[i]? = some ops[i] := Array.getElem?_eq_getElem hi
              simp only [Array.getD, hi2, dif_pos] at hl
              simp only [Array.getD, hi2, dif_pos, ho, Option.map_some, Option.getD_some, Bool.and_eq_true, Array.all_eq_true_iff_forall_mem]
              refine ⟨by simpa using hl, fun e he => ?_⟩
              cases hb : Region.binds .any e with
              | false => rfl
              | true =>
                have hlt := G.back i _ ho e he hb
                have := ihi e.on hlt (by omega)
                simpa [Array.getD] using this
            rw [hnil] at hm; cases hm
      have eT : (D.TS fun i => listed.getD i false) = D.T ops.size := by
        apply List.ext_getElem
        · simp [Draw.TS, G.lenT ops.size (Nat.le_refl _)]
        · intro t h1 h2
          rw [getD_of _ t h1, getD_of _ t h2, G.TS_getD, G.valT t ops.size (Nat.le_refl _)]
          rw [lw_congr (fun i => listed.getD i false) (fun _ => true) _ _ (fun i hi _ => hall i hi)]
      have eH : (D.HS fun i => listed.getD i false) = D.H ops.size := by
        funext o
        simp only [Draw.HS]
        rw [G.valH o ops.size (Nat.le_refl _), lw_congr (fun i => listed.getD i false) (fun _ => true) _ _ (fun i hi _ => hall i hi)]
      rw [eT] at hT
      rw [eH] at hH hT hq
      exact hq a c w hH hT hd (Grow.refl _ _ _)
    · unfold Region.ready at hj
      rw [List.mem_filter] at hj
      obtain ⟨hjr, hjc⟩ := hj
      have hj' : j < ops.size := List.mem_range.1 hjr
      have hj2 : j < listed.size := by omega
      have ho : ops[j]? = some ops[j] := Array.getElem?_eq_getElem hj'
      simp only [Array.getD, hj2, dif_pos, ho, Option.map_some, Option.getD_some, Bool.and_eq_true, Array.all_eq_true_iff_forall_mem] at hjc
      have hnj : (fun i => listed.getD i false) j = false := by
        simp only [Array.getD, hj2, dif_pos]
        simpa using hjc.1
      have hready : ∀ o, ops[j]? = some o → ∀ e ∈ o.after, Region.binds .any e = true → (fun i => listed.getD i false) e.on = true := by
        intro o ho2 e he hb
        rw [ho] at ho2; cases ho2
        have := hjc.2 e he
        simp only [hb, Bool.not_true, Bool.false_or] at this
        simpa [Array.getD] using this
      have hlook : ∀ t ∈ D.looks j, (D.TS fun i => listed.getD i false).getD t .undef = (D.T j).getD t .undef := by
        intro t ht
        rw [G.TS_getD, G.valT t j (by omega)]
        rw [G.split hcl hj' hnj hready (D.db t) (fun i _ _ hpi => by
          have hdi : D.dst i = some t := by simpa [Draw.db] using hpi
          exact ⟨.inl ⟨t, hdi, .inl ht⟩, .inr (.inl ⟨t, hdi, ht⟩)⟩)]
      have hfp : ∀ o, D.F j o → (D.HS fun i => listed.getD i false) o = D.H j o := by
        intro o hF
        simp only [Draw.HS]
        rw [G.valH o j (by omega)]
        rw [G.split hcl hj' hnj hready (D.wb o) (fun i _ _ hpi => by
          have hwi : D.W i o := by simpa [Draw.wb] using hpi
          exact ⟨.inr (.inr (.inl ⟨o, hwi, hF⟩)), .inr (.inr (.inr ⟨o, hwi, hF⟩))⟩)]
      have eS : (fun i => (listed.setIfInBounds j true).getD i false) = add (fun i => listed.getD i false) j := by
        funext i
        simp only [Array.getD_eq_getD_getElem?, Array.getElem?_setIfInBounds, add]
        by_cases e : j = i
        · subst e; simp [hj2]
        · simp [e, Ne.symm e]
      refine G.loc j hj' _ _ hlook hfp c w a hH hT hd _ Q (fun a' c' w' hH' hT' hd' g => ?_) hout
      rw [G.HS_add hcl hj' hnj] at hH' hT' g
      rw [G.TS_add hcl hj' hnj hready] at hT'
      refine ih (listed.setIfInBounds j true) (by simp [hsz]) (fun i hi => ?_) ?_ ?_ c' w' a' (by rw [eS]; exact hH') (by rw [eS]; exact hT') hd' Q (fun a2 c2 w2 h1 h2 h3 h4 => ?_) hout
      · have h9 := congrFun eS i
        have hi2 : add (fun i => listed.getD i false) j i = true := by rw [← h9]; exact hi
        unfold add at hi2
        rw [Bool.or_eq_true, beq_iff_eq] at hi2
        rcases hi2 with hi | rfl
        · exact hin i hi
        · exact hj'
      · have hlt : (listed.toList.set j true).countP (! ·) < listed.toList.countP (! ·) := by
          have hjl : j < listed.toList.length := by simpa using hj2
          have hf : listed.toList[j] = false := by simpa using hjc.1
          have : 0 < listed.toList.countP (! ·) := List.countP_pos_iff.2 ⟨_, List.getElem_mem hjl, by rw [hf]; rfl⟩
          rw [List.countP_set hjl]
          simp only [hf, Bool.not_false, if_true, Bool.not_true, Bool.false_eq_true, if_false]
          omega
        rw [← List.countP_eq_length_filter] at hfu ⊢
        rw [Array.toList_setIfInBounds]
        omega
      · rw [eS]; exact Closed_add hcl hready
      · rw [eS] at h4; exact hq a2 c2 w2 h1 h2 h3 (g.trans h4)

end Draw.Good

end Go.AM
