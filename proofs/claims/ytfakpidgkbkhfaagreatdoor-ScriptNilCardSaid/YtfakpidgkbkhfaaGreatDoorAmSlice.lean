/- The abstract machine: slices, indexes, lengths, conversions. -/
import Derived.Test.YtfakpidgkbkhfaaGreatDoorAmEq
import Derived.Laws.BytesString
namespace Go.AM

def boundA (x : Option AV) (dflt hi : Nat) : Option Nat :=
  match x with
  | none => some dflt
  | some (.int _ n) => if 0 ≤ n ∧ n ≤ (hi : Int) then some n.toNat else none
  | _ => none

def RepOpt (c : Cx) (H : Heap) (w : World) : Option AV → Option Value → Prop
  | none, y => y = none
  | some x, y => ∃ v, y = some v ∧ RepV c H w x v

theorem RepOpt.map {c : Cx} {H : Heap} {w : World} {T : List AV} {a : Act} (h : RepT c H w T a.tmps) (x : Option Operand) :
    RepOpt c H w (x.map (evalA T)) (x.map a.eval) := by
  cases x with
  | none => rfl
  | some x => exact ⟨_, rfl, evalA_rep h x⟩

theorem boundA_int {x : AV} {d hi n : Nat} (h : boundA (some x) d hi = some n) : ∃ k m, x = .int k m ∧ 0 ≤ m ∧ m ≤ (hi : Int) ∧ n = m.toNat := by
  unfold boundA at h
  split at h
  · rename_i h0; cases h0
  · rename_i k m h0
    cases h0
    split at h
    · rename_i h1
      cases h
      exact ⟨k, m, rfl, h1.1, h1.2, rfl⟩
    · cases h
  · cases h

theorem run_bound {P : Program} {k : IntKind} {m : Int} {y : Nat} (h0 : 0 ≤ m) (h1 : m ≤ (y : Int)) (code : BoundsCode) (w : World) :
    (Instr.sliceBound (.int k m) y code).run P w = .ok m.toNat w := by
  simp [Instr.sliceBound, asIntOf, h0, h1]

theorem run_bounds2 {P : Program} {c : Cx} {H : Heap} {w : World} {s : Bool} {len cap cap' l h : Nat} {lo hi : Option AV} {lo' hi' : Option Value}
    (hl : RepOpt c H w lo lo') (hh : RepOpt c H w hi hi') (h1 : boundA hi len cap' = some h) (h2 : boundA lo 0 h = some l) (hc : cap' ≤ cap) :
    (Instr.sliceBounds s len cap lo' hi' none).run P w = .ok (l, h, cap) w := by
  cases hi with
  | none =>
    simp only [RepOpt] at hh; subst hh
    simp only [boundA] at h1; cases h1
    cases lo with
    | none =>
      simp only [RepOpt] at hl; subst hl
      simp only [boundA] at h2; cases h2
      simp [Instr.sliceBounds]
    | some x =>
      obtain ⟨v, rfl, hv⟩ := hl
      obtain ⟨k, m, rfl, g0, g1, rfl⟩ := boundA_int h2
      simp only [RepV] at hv; subst hv
      simp [Instr.sliceBounds, run_bound g0 g1]
  | some y =>
    obtain ⟨v, rfl, hv⟩ := hh
    obtain ⟨k, m, rfl, g0, g1, rfl⟩ := boundA_int h1
    simp only [RepV] at hv; subst hv
    have g1' : m ≤ (cap : Int) := by omega
    cases lo with
    | none =>
      simp only [RepOpt] at hl; subst hl
      simp only [boundA] at h2; cases h2
      simp [Instr.sliceBounds, run_bound g0 g1']
    | some x =>
      obtain ⟨v, rfl, hv⟩ := hl
      obtain ⟨k', m', rfl, f0, f1, rfl⟩ := boundA_int h2
      simp only [RepV] at hv; subst hv
      simp [Instr.sliceBounds, run_bound g0 g1', run_bound f0 f1]

theorem run_bounds3 {P : Program} {c : Cx} {H : Heap} {w : World} {s : Bool} {len cap cap' l h m : Nat} {lo : Option AV} {hi mx : AV} {lo' hi' mx' : Option Value}
    (hl : RepOpt c H w lo lo') (hh : RepOpt c H w (some hi) hi') (hm : RepOpt c H w (some mx) mx') (h0 : boundA (some mx) 0 cap' = some m) (h1 : boundA (some hi) 0 m = some h) (h2 : boundA lo 0 h = some l) (hc : cap' ≤ cap) :
    (Instr.sliceBounds s len cap lo' hi' mx').run P w = .ok (l, h, m) w := by
  obtain ⟨v, rfl, hv⟩ := hh
  obtain ⟨k, n, rfl, g0, g1, rfl⟩ := boundA_int h1
  simp only [RepV] at hv; subst hv
  obtain ⟨v, rfl, hv⟩ := hm
  obtain ⟨k2, n2, rfl, e0, e1, rfl⟩ := boundA_int h0
  simp only [RepV] at hv; subst hv
  have e1' : n2 ≤ (cap : Int) := by omega
  cases lo with
  | none =>
    simp only [RepOpt] at hl; subst hl
    simp only [boundA] at h2; cases h2
    simp [Instr.sliceBounds, run_bound g0 g1, run_bound e0 e1']
  | some x =>
    obtain ⟨v, rfl, hv⟩ := hl
    obtain ⟨k', m', rfl, f0, f1, rfl⟩ := boundA_int h2
    simp only [RepV] at hv; subst hv
    simp [Instr.sliceBounds, run_bound g0 g1, run_bound e0 e1', run_bound f0 f1]

/-- s[l:h], of a string. -/
def sliceStr (s : List UInt8) (lo hi : Option AV) : Option AV :=
  match boundA hi s.length s.length with
  | some h => match boundA lo 0 h with
    | some l => some (.str ((s.take h).drop l))
    | none => none
  | none => none

theorem sliceStr_run {P : Program} {c : Cx} {H : Heap} {w : World} {t : TypeId} {s : List UInt8} {lo hi : Option AV} {lo' hi' : Option Value} {r : AV}
    (hu : P.underlying t = some .string) (hl : RepOpt c H w lo lo') (hh : RepOpt c H w hi hi') (h : sliceStr s lo hi = some r) :
    ∃ v, (Instr.sliceAt t (.string ⟨s.toArray⟩) lo' hi' none).run P w = .ok v w ∧ RepV c H w r v := by
  unfold sliceStr at h
  split at h
  · rename_i k h1
    split at h
    · rename_i l h2
      cases h
      have hb := run_bounds2 (P := P) (s := false) (cap := s.length) hl hh h1 h2 (Nat.le_refl _)
      refine ⟨.string ((⟨s.toArray⟩ : ByteArray).extract l k), ?_, ?_⟩
      · simp [Instr.sliceAt, Instr.slice, run_underlying hu, size_mk, hb]
      · simp only [RepV]
        congr 1
        apply ByteArray.ext
        simp [List.extract_eq_take_drop, List.drop_take]
    · cases h
  · cases h

def fullA (mx : Option Nat) (full : Bool) (h len : Nat) : Bool :=
  match mx with
  | none => full && (h == len)
  | some m => m == h

/-- The slice of an object, or of elements that stay: from l to h; whole: no maximum is said; m: the maximum. -/
def sliceA (v : AV) (l h : Nat) (mx : Option Nat) : Option AV :=
  match v with
  | .own o lo len g full =>
    let f := fullA mx full h len
    if l = 0 then some (.own o lo h g f) else if l = h then some .esl else some (.own o (lo + l) (h - l) g f)
  | .vec full es =>
    let f := fullA mx full h es.length
    if l = 0 then some (.vec f (es.take h)) else if l = h then some .esl else some (.vec f ((es.take h).drop l))
  | .nilsl => some .nilsl
  | .esl => none
  | _ => none

def lenA : AV → Option Nat
  | .own _ _ len _ _ => some len
  | .vec _ es => some es.length
  | .bs _ l _ => some l.length
  | .vecF _ n _ => some n
  | .nilsl => some 0
  | .esl => some 0
  | _ => none

def validS (H : Heap) : AV → Bool
  | .own o _ _ g _ => validO H o g
  | _ => true

def szOK (H : Heap) (n : Nat) : AV → Bool
  | .own o _ _ _ _ => match H o with
    | some x => x.sz == n
    | none => false
  | .vec _ (e :: _) => e.cells.length == n
  | _ => true

def sliceBoundsA (v : AV) (lo hi mx : Option AV) : Option (Nat × Nat × Option Nat) :=
  match lenA v with
  | none => none
  | some len => match mx with
    | none => match boundA hi len len with
      | none => none
      | some h => match boundA lo 0 h with
        | none => none
        | some l => some (l, h, none)
    | some m => match hi with
      | none => none
      | some hi => match boundA (some m) 0 len with
        | none => none
        | some m => match boundA (some hi) 0 m with
          | none => none
          | some h => match boundA lo 0 h with
            | none => none
            | some l => some (l, h, some m)

theorem boundA_le {x : Option AV} {d hi n : Nat} (h : boundA x d hi = some n) : n = d ∨ n ≤ hi := by
  cases x with
  | none => simp only [boundA] at h; cases h; exact .inl rfl
  | some x => obtain ⟨k, m, _, h0, h1, rfl⟩ := boundA_int h; exact .inr (by omega)

/-- The values of a slice. -/
theorem slice_rep {c : Cx} {H : Heap} {w : World} {v : AV} {y : Value} (hv : RepV c H w v y) {len : Nat} (hl : lenA v = some len) (hg : validS H v = true) :
    ∃ a cap, y = .slice a len cap ∧ len ≤ cap := by
  cases v with
  | own o lo len' g full =>
    simp only [lenA] at hl; cases hl
    simp only [validS, validO] at hg
    simp only [RepV] at hv
    obtain ⟨x, hx, _, hv⟩ := hv
    rw [hx] at hg
    have hv := hv (by simpa using hg)
    split at hv
    · obtain ⟨rfl, rfl, rfl⟩ := hv; exact ⟨_, _, rfl, Nat.le_refl _⟩
    · obtain ⟨cap, e, n, rfl, hc, _⟩ := hv; exact ⟨_, _, rfl, hc⟩
  | vec full es =>
    simp only [lenA] at hl; cases hl
    simp only [RepV] at hv
    rcases hv with ⟨rfl, rfl⟩ | ⟨b, off, sz, cap, e, n, _, rfl, hc, _⟩
    · exact ⟨_, _, rfl, Nat.le_refl _⟩
    · exact ⟨_, _, rfl, hc⟩
  | bs k l room => simp only [lenA] at hl; cases hl; simp only [RepV] at hv; exact hv.slice
  | vecF k n f => simp only [lenA] at hl; cases hl; simp only [RepV] at hv; exact hv.slice
  | nilsl => simp only [lenA] at hl; cases hl; simp only [RepV] at hv; subst hv; exact ⟨_, _, rfl, Nat.le_refl _⟩
  | esl => simp only [lenA] at hl; cases hl; simp only [RepV] at hv; obtain ⟨a, c, rfl⟩ := hv; exact ⟨_, _, rfl, Nat.zero_le _⟩
  | _ => simp [lenA] at hl

theorem sliceBoundsA_run {P : Program} {c : Cx} {H : Heap} {w : World} {v : AV} {lo hi mx : Option AV} {lo' hi' mx' : Option Value} {l h len cap : Nat} {m : Option Nat}
    (hl : RepOpt c H w lo lo') (hh : RepOpt c H w hi hi') (hm : RepOpt c H w mx mx') (hlen : lenA v = some len) (hc : len ≤ cap) (hb : sliceBoundsA v lo hi mx = some (l, h, m)) :
    ∃ m', (Instr.sliceBounds true len cap lo' hi' mx').run P w = .ok (l, h, m') w ∧ l ≤ h ∧ h ≤ len ∧ h ≤ m' ∧ m' ≤ cap ∧ (match m with | none => m' = cap | some k => m' = k) := by
  unfold sliceBoundsA at hb
  rw [hlen] at hb
  cases mx with
  | none =>
    simp only [RepOpt] at hm; subst hm
    simp only at hb
    split at hb
    · cases hb
    · rename_i h1 e1
      split at hb
      · cases hb
      · rename_i l1 e2
        cases hb
        have := boundA_le e1
        have := boundA_le e2
        exact ⟨cap, run_bounds2 hl hh e1 e2 hc, by omega, by omega, by omega, Nat.le_refl _, rfl⟩
  | some mx =>
    simp only at hb
    cases hi with
    | none => simp at hb
    | some hi =>
      simp only at hb
      split at hb
      · cases hb
      · rename_i m1 e0
        split at hb
        · cases hb
        · rename_i h1 e1
          split at hb
          · cases hb
          · rename_i l1 e2
            cases hb
            have := boundA_le e0
            have := boundA_le e1
            have := boundA_le e2
            exact ⟨m1, run_bounds3 hl hh hm e0 e1 e2 hc, by omega, by omega, by omega, by omega, rfl⟩

theorem sliceA_run {P : Program} {c : Cx} {H : Heap} {w : World} {t e : TypeId} {sz : Nat} {v r : AV} {y : Value} {lo hi mx : Option AV} {lo' hi' mx' : Option Value} {l h : Nat} {m : Option Nat}
    (hu : P.underlying t = some (.slice e)) (hs : sizeT P e = some sz) (hg : validS H v = true) (hz : szOK H sz v = true)
    (hl : RepOpt c H w lo lo') (hh : RepOpt c H w hi hi') (hm : RepOpt c H w mx mx') (hv : RepV c H w v y) (hb : sliceBoundsA v lo hi mx = some (l, h, m)) (hr : sliceA v l h m = some r) :
    ∃ z, (Instr.sliceAt t y lo' hi' mx').run P w = .ok z w ∧ RepV c H w r z := by
  cases hlen : lenA v with
  | none => unfold sliceBoundsA at hb; rw [hlen] at hb; cases hb
  | some len =>
    obtain ⟨a, cap, rfl, hc⟩ := slice_rep hv hlen hg
    obtain ⟨m', hrun, h1, h2, h3, h4, h5⟩ := sliceBoundsA_run (P := P) hl hh hm hlen hc hb
    refine ⟨.slice (if m' = l then a else a.map (·.add (l * sz))) (h - l) (m' - l), by simp [Instr.sliceAt, Instr.slice, run_underlying hu, hrun, run_sizeT hs], ?_⟩
    have hf : ∀ full : Bool, (full = true → cap = len) → fullA m full h len = true → m' = h := by
      intro full hfull hq
      unfold fullA at hq
      cases m with
      | none => simp at hq h5; have := hfull hq.1; omega
      | some k => simp at hq h5; omega
    have h0 : (if m' = 0 then a else a.map (·.add (0 * sz))) = a := by
      split
      · rfl
      · cases a with
        | none => rfl
        | some a => simp [Addr.add]
    unfold sliceA at hr
    split at hr
    · rename_i o lo0 len0 g full
      simp only [lenA] at hlen; cases hlen
      simp only [validS, validO] at hg
      simp only [szOK] at hz
      simp only [RepV] at hv
      obtain ⟨x, hx, hgen, hv⟩ := hv
      rw [hx] at hg hz
      have hg : x.gen = g := by simpa using hg
      have hz : x.sz = sz := by simpa using hz
      have hv := hv hg
      dsimp only at hr
      cases hρ : c.ρ o with
      | none =>
        rw [hρ] at hv
        obtain ⟨rfl, rfl, hv⟩ := hv
        cases hv
        have e1 : l = 0 := by omega
        have e2 : h = 0 := by omega
        have e3 : m' = 0 := by omega
        subst e1 e2 e3
        simp at hr; subst hr
        simp only [RepV]
        exact ⟨x, hx, ⟨hgen.1, _, _, _, rfl⟩, fun _ => by rw [hρ]; simp⟩
      | some b =>
        rw [hρ] at hv
        obtain ⟨cap0, e0, n0, hv, hcc, hfull, hsh, hn⟩ := hv
        cases hv
        have hmul : (lo0 + m') * x.sz ≤ n0 := Nat.le_trans (Nat.mul_le_mul_right _ (by omega)) hn
        split at hr
        · rename_i e1
          subst e1
          cases hr
          rw [h0]
          simp only [RepV]
          refine ⟨x, hx, ⟨hgen.1, _, _, _, rfl⟩, fun _ => ?_⟩
          rw [hρ]
          exact ⟨m', e0, n0, rfl, h3, fun q => hf full hfull q, hsh, hmul⟩
        · split at hr
          · rename_i e1 e2
            cases hr
            subst e2
            simp only [RepV]
            exact ⟨_, _, by rw [Nat.sub_self]⟩
          · rename_i e1 e2
            cases hr
            have hne : ¬ m' = l := by omega
            simp only [hne, if_false, Option.map_some, add_eq, RepV]
            refine ⟨x, hx, ⟨hgen.1, _, _, _, rfl⟩, fun _ => ?_⟩
            rw [hρ]
            refine ⟨m' - l, e0, n0, by rw [Nat.add_mul, hz], by omega, fun q => ?_, hsh, ?_⟩
            · have := hf full hfull q; omega
            · rwa [show lo0 + l + (m' - l) = lo0 + m' by omega]
    · rename_i full es
      simp only [lenA] at hlen; cases hlen
      simp only [RepV] at hv
      dsimp only at hr
      rcases hv with ⟨rfl, hv⟩ | ⟨b, off, sz0, cap0, e0, n0, hF, hv, hcc, hfull, hsh, hn, hes⟩
      · cases hv
        have e1 : l = 0 := by simp at h2; omega
        have e2 : h = 0 := by simp at h2; omega
        have e3 : m' = 0 := by simp at h4; omega
        subst e1 e2 e3
        simp at hr; subst hr
        simp [RepV]
      · cases hv
        have hmul : off + m' * sz0 ≤ n0 := Nat.le_trans (Nat.add_le_add_left (Nat.mul_le_mul_right _ h4) _) hn
        split at hr
        · rename_i e1
          subst e1
          cases hr
          rw [h0]
          simp only [RepV]
          refine .inr ⟨b, off, sz0, m', e0, n0, hF, by simp [Nat.min_eq_left h2], by simp; omega, fun q => ?_, hsh, hmul, ?_⟩
          · have := hf full hfull q; simp; omega
          · rw [RepEs_iff] at hes ⊢
            intro i x hi
            rw [List.getElem?_take] at hi
            split at hi
            · exact hes i x hi
            · cases hi
        · split at hr
          · rename_i e1 e2
            cases hr
            subst e2
            simp only [RepV]
            exact ⟨_, _, by rw [Nat.sub_self]⟩
          · rename_i e1 e2
            cases hr
            have hne : ¬ m' = l := by omega
            have hsz : sz0 = sz := by
              cases es with
              | nil => simp at h2; omega
              | cons e es =>
                have := (RepEs_iff.1 hes 0 e rfl).1
                simp only [szOK, beq_iff_eq] at hz
                omega
            subst hsz
            simp only [hne, if_false, Option.map_some, add_eq, RepV]
            refine .inr ⟨b, off + l * sz0, sz0, m' - l, e0, n0, hF, ?_, ?_, fun q => ?_, hsh, ?_, ?_⟩
            · simp [Nat.min_eq_left h2]
            · simp; omega
            · have := hf full hfull q; simp; omega
            · have : off + l * sz0 + (m' - l) * sz0 = off + m' * sz0 := by rw [Nat.add_assoc, ← Nat.add_mul]; congr 2; omega
              omega
            · rw [RepEs_iff] at hes ⊢
              intro i x hi
              rw [List.getElem?_drop, List.getElem?_take] at hi
              split at hi
              · have := hes (l + i) x hi
                rwa [show off + (l + i) * sz0 = off + l * sz0 + i * sz0 by rw [Nat.add_mul]; omega] at this
              · cases hi
    · cases hr
      simp only [lenA] at hlen; cases hlen
      simp only [RepV] at hv; cases hv
      have e1 : l = 0 := by omega
      have e2 : h = 0 := by omega
      have e3 : m' = 0 := by omega
      subst e1 e2 e3
      simp [RepV]
    · cases hr
    · cases hr

end Go.AM
