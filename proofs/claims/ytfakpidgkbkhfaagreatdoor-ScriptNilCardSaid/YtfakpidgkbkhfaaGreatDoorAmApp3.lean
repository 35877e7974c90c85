/- The abstract machine: append, the operation. -/
import Derived.Test.YtfakpidgkbkhfaaGreatDoorAmApp2
namespace Go.AM

theorem oneC_flat {c : Cx} {H : Heap} {w : World} {es : List AV} {news : List Value} (hl : RepL c H w (flat es) news) (h : (flat es).all oneC = true) : ∀ v ∈ news, v.oneCell' = true := oneC_all hl h

theorem flat_len {sz : Nat} : ∀ {es : List AV}, (∀ e ∈ es, e.cells.length = sz) → (flat es).length = es.length * sz
  | [], _ => by simp [flat]
  | e :: es, h => by
    have := flat_len (es := es) (fun e he => h e (by simp [he]))
    simp only [flat, List.flatMap_cons, List.length_append, List.length_cons] at this ⊢
    rw [this, h e (by simp), Nat.add_mul]; omega

theorem append_ok {P : Program} {H : Heap} {T : List AV} {o : Oper} {t u : TypeId} {sx xx : Operand} {nx : Nat} {r : AV} {eff : Option (Nat × AObj)}
    (ho : o.op = .call { callee := .builtin .append, args := #[sx, xx], argTypes := #[t, u] }) (h : evalAppend P H nx t u (evalA T sx) (evalA T xx) = some (r, eff)) (hn : ∀ x, eff = some (nx, x) → H nx = none) :
    OpOK P o T H r (applyEff H eff) := by
  intro c w a hH hT next Q hnx _ _
  have hS := evalA_rep hT sx
  have hX := evalA_rep hT xx
  unfold evalAppend at h
  split at h
  · rename_i e ht
    split at h
    · cases h
    · rename_i i hi
      split at h
      · rename_i z es hz hap
        obtain ⟨hu, hes, news, hln, hlen, hfc⟩ := appArg_rep (P := P) hH hX hap
        have hsz : sizeT P e = some i.size := by simp [sizeT, hi]
        split at h
        · cases h
        · rename_i hzs
          have hzs : z.cells.size = i.size := by omega
          have fin : ∀ v w' c', (Builtin.append_ #[t, u] o.type #[a.eval sx, a.eval xx]).run P w = .ok v w' → RepH c' (applyEff H eff) w' → RepV c' (applyEff H eff) w' r v →
              Grow c H w c' (applyEff H eff) w' → o.wp P a w next Q ∨ (o.asks P a w ∧ LetsOut Q) := by
            intro v w' c' hr h1 h2 h3
            refine .inl ?_
            have : (execOp a.eval o).run P w = .ok (.value v) w' := by
              simp [execOp, ho, resolve, invoke, builtin, hr]
            rw [Oper.wp, this]
            exact hnx v c' w' h1 h2 h3
          split at h
          · rename_i h0
            split at h
            · rename_i hv
              cases h
              obtain ⟨len, hl⟩ := Option.isSome_iff_exists.1 hv.2
              obtain ⟨ba, cap, hy, hc⟩ := slice_rep hS hl hv.1
              rw [h0] at hlen hfc
              have hnews : news = [] := by
                have : es = [] := List.eq_nil_of_length_eq_zero h0
                subst this
                simpa [flat, RepL] using hln
              subst hnews
              refine fin _ w c (by rw [hy]; exact run_append_room' w t u o.type e i.size ht hu hsz _ ba len cap 0 [] hlen (hfc w rfl) (by omega) w (fun _ _ => rfl) (fun _ => rfl)) hH ?_ (Grow.refl c H w)
              rw [Nat.add_zero, ← hy]; exact hS
            · cases h
          · rename_i h0
            split at h
            · rename_i hs
              split at h
              · rename_i hb
                cases h
                rw [hs] at hS
                simp only [RepV] at hS
                obtain ⟨c', g1, g2, g3⟩ := grown_rep (n := nx) (g := 0) (st := false) (es0 := []) (es := es) (z := z) (e := e) (old := 0) (olds := []) (news := news) hH (fun x hx => by rw [hn _ rfl] at hx; cases hx) (by simp) hes rfl hln hzs
                simp only [List.length_nil, Nat.zero_add, List.nil_append] at g1 g2 g3
                refine fin _ _ c' ?_ g1 g2 g3
                rw [hS]
                have := run_append_grow' w t u o.type e i z ht hu hi hz (a.eval xx) none 0 0 es.length [] news hlen (hfc _ rfl) (by simp [Builtin.firstCells]) (by omega) (by omega) (by rw [Nat.zero_add]; exact hb.2)
                simpa using this
              · cases h
            · rename_i o' lo len g full hs
              split at h
              · cases h
              · rename_i ob hob
                split at h
                · rename_i hc
                  obtain ⟨hg, hosz, hll, h63, h47⟩ := hc
                  have hS' := hS
                  rw [hs] at hS
                  have hel : elems H (evalA T sx) = some ((ob.es.drop lo).take len) := by
                    rw [hs]; simp [elems, hob, hg, hll]
                  have hl0 : ((ob.es.drop lo).take len).length = len := by simp; omega
                  have hes0 : ∀ e ∈ (ob.es.drop lo).take len, e.cells.length = i.size ∨ ((ob.es.drop lo).take len) = [] := by
                    intro e' he'
                    left
                    simp only [RepV] at hS
                    obtain ⟨x2, hx2, _, hS⟩ := hS
                    rw [hob] at hx2; cases hx2
                    have hS := hS hg
                    cases hρ : c.ρ o' with
                    | none => rw [hρ] at hS; obtain ⟨_, rfl, _⟩ := hS; simp at he'
                    | some b =>
                      have ho2 := hH.obj o' ob hob
                      simp only [RepO, hρ] at ho2
                      obtain ⟨_, _, _, _, _, _, _, hes2⟩ := ho2
                      have hm : e' ∈ ob.es := List.mem_of_mem_drop (List.mem_of_mem_take he')
                      obtain ⟨k, hk, rfl⟩ := List.mem_iff_getElem.1 hm
                      rw [← hosz]
                      exact (RepEs_iff.1 hes2 k _ (List.getElem?_eq_getElem hk)).1
                  have hes0' : ∀ e ∈ (ob.es.drop lo).take len, e.cells.length = i.size := by
                    intro e' he'
                    rcases hes0 e' he' with h | h
                    · exact h
                    · rw [h] at he'; cases he'
                  obtain ⟨ba, cap, hy, hcap⟩ := slice_rep hS (len := len) (by simp [lenA]) (by simp [validS, validO, hob, hg])
                  obtain ⟨olds, hlo, hfo⟩ : ∃ olds : List Value, RepL c H w (flat ((ob.es.drop lo).take len)) olds ∧ (Builtin.firstCells i.size len (a.eval sx)).run P w.drew = .ok olds.toArray w.drew := by
                    rcases elems_rep hH hS' hel with ⟨h1, a1, cap1, hy1⟩ | ⟨b, off, sz0, cap1, e1, n1, hy1, hcc, hsh, hn1, hes1⟩
                    · have hlen0 : len = 0 := by rw [← hl0, h1]; rfl
                      subst hlen0
                      rw [h1]
                      refine ⟨[], rfl, ?_⟩
                      rw [hy1]
                      cases a1 with
                      | none => simp [Builtin.firstCells]
                      | some a1 => simpa [Builtin.firstCells] using run_loadCells_list (P := P) w.drew a1 [] (by simp)
                    · obtain ⟨g1, g2⟩ := hes1.flat
                      obtain ⟨vs, hlv, hcv⟩ := g1.vals
                      refine ⟨vs, hlv, ?_⟩
                      have hvl : vs.length = len * i.size := by
                        rw [hlv.length, flat_len hes0', hl0]
                      rw [hy1]
                      refine run_firstCells_some w.drew i.size len ⟨b, off, none⟩ _ cap1 vs hvl (fun j v hj => ?_)
                      have := hcv j v hj
                      rw [add_eq]
                      simp only [cellAt] at this
                      exact this
                  have grow : ∀ (n' g' : Nat) (st : Bool), (∀ x, H n' = some x → i.size = x.sz ∧ x.gen < g') → cap < len + es.length →
                      r = .own n' 0 (len + es.length) g' false → eff = some (n', ⟨i.size, g', st, (ob.es.drop lo).take len ++ es⟩) → o.wp P a w next Q ∨ (o.asks P a w ∧ LetsOut Q) := by
                    intro n' g' st hx hgr hr he
                    obtain ⟨c', g1, g2, g3⟩ := grown_rep (n := n') (g := g') (st := st) (es0 := (ob.es.drop lo).take len) (es := es) (z := z) (e := e) (old := cap) (olds := olds) (news := news) hH hx hes0' hes hlo hln hzs
                    rw [hl0] at g1 g2 g3
                    subst he hr
                    refine fin _ _ c' ?_ g1 g2 g3
                    rw [hy]
                    rw [hy] at hfo
                    exact run_append_grow' w t u o.type e i z ht hu hi hz (a.eval xx) ba len cap es.length olds news hlen (hfc _ rfl) hfo hgr h63 h47
                  split at h
                  · rename_i hfull
                    subst hfull
                    cases h
                    refine grow nx 0 false (fun x hx => by rw [hn _ rfl] at hx; cases hx) ?_ rfl rfl
                    simp only [RepV] at hS
                    obtain ⟨x2, hx2, _, hS⟩ := hS
                    rw [hob] at hx2; cases hx2
                    have hS := hS hg
                    cases hρ : c.ρ o' with
                    | none => rw [hρ] at hS; obtain ⟨_, rfl, h2⟩ := hS; rw [h2] at hy; cases hy; omega
                    | some b => rw [hρ] at hS; obtain ⟨cap2, e2, n2, h2, _, h3, _⟩ := hS; rw [h2] at hy; cases hy; have := h3 (by simp); omega
                  · split at h
                    · rename_i hlo0
                      obtain ⟨rfl, hone⟩ := hlo0
                      cases h
                      by_cases hroom : len + es.length ≤ cap
                      · simp only [RepV] at hS
                        obtain ⟨x2, hx2, hS0, hS⟩ := hS
                        rw [hob] at hx2; cases hx2
                        have hS := hS hg
                        cases hρ : c.ρ o' with
                        | none => rw [hρ] at hS; obtain ⟨_, rfl, h2⟩ := hS; rw [h2] at hy; cases hy; omega
                        | some b =>
                          rw [hρ] at hS
                          obtain ⟨cap2, e2, n2, h2, hc2, _, hsh, hn2⟩ := hS
                          rw [h2] at hy
                          simp only [Value.slice.injEq] at hy
                          obtain ⟨hba, _, rfl⟩ := hy
                          rw [Nat.zero_mul] at hba
                          subst hba
                          rw [Nat.zero_mul] at h2
                          rw [Nat.zero_add] at hn2 hll
                          obtain ⟨w', hst, g1, g2⟩ := room_ok (P := P) hH hob hρ hll hsh hn2 hroom (by rw [hosz]; exact hes) hln (oneC_flat hln hone)
                          subst hg
                          refine fin (.slice (some ⟨b, 0, none⟩) (len + es.length) cap2) w' c ?_ g1 ?_ g2
                          · rw [h2]
                            exact run_append_room' w t u o.type e i.size ht hu hsz _ _ len cap2 es.length news hlen (hfc w rfl) hroom w' (fun a' ha => by cases ha; rw [add_eq, Nat.zero_add, ← hosz]; exact hst) (fun h => by cases h)
                          · simp only [RepV, applyEff]
                            refine ⟨_, Heap.set_same .., ⟨Nat.le_refl _, _, _, _, rfl⟩, fun _ => ?_⟩
                            rw [hρ]
                            exact ⟨cap2, e2, n2, by rw [Nat.zero_mul], hroom, (fun h => by cases h), g2.shp _ _ hsh, by rw [Nat.zero_add]; exact hn2⟩
                      · refine grow o' (g + 1) ob.st (fun x hx => ?_) (by omega) rfl ?_
                        · rw [hob] at hx; cases hx; exact ⟨hosz.symm, by omega⟩
                        · rw [List.drop_zero, ← hosz]
                    · cases h
                · cases h
            · rename_i es0 hs
              split at h
              · rename_i hb
                obtain ⟨h63, h47, hall⟩ := hb
                cases h
                have hes0 : ∀ e ∈ es0, e.cells.length = i.size := fun e he => by simpa using List.all_eq_true.1 hall e he
                have hel : elems H (evalA T sx) = some es0 := by rw [hs]; rfl
                have hS' := hS
                rw [hs] at hS
                obtain ⟨olds, hlo, ba, hy, hfo⟩ : ∃ olds : List Value, RepL c H w (flat es0) olds ∧ ∃ ba, a.eval sx = .slice ba es0.length es0.length ∧ (Builtin.firstCells i.size es0.length (a.eval sx)).run P w.drew = .ok olds.toArray w.drew := by
                  simp only [RepV] at hS
                  rcases hS with ⟨rfl, hy⟩ | ⟨b, off, sz0, cap1, e1, n1, _, hy1, hcc, hfull, hsh, hn1, hes1⟩
                  · refine ⟨[], rfl, none, hy, ?_⟩
                    rw [hy]; simp [Builtin.firstCells]
                  · have := hfull (by simp)
                    subst this
                    obtain ⟨g1, g2⟩ := hes1.flat
                    obtain ⟨vs, hlv, hcv⟩ := g1.vals
                    refine ⟨vs, hlv, _, hy1, ?_⟩
                    have hvl : vs.length = es0.length * i.size := by
                      rw [hlv.length, flat_len hes0]
                    rw [hy1]
                    refine run_firstCells_some w.drew i.size es0.length ⟨b, off, none⟩ _ _ vs hvl (fun j v hj => ?_)
                    have := hcv j v hj
                    rw [add_eq]
                    simp only [cellAt] at this
                    exact this
                obtain ⟨c', g1, g2, g3⟩ := grown_rep (n := nx) (g := 0) (st := false) (es0 := es0) (es := es) (z := z) (e := e) (old := es0.length) (olds := olds) (news := news) hH (fun x hx => by rw [hn _ rfl] at hx; cases hx) hes0 hes hlo hln hzs
                refine fin _ _ c' ?_ g1 g2 g3
                rw [hy]
                rw [hy] at hfo
                exact run_append_grow' w t u o.type e i z ht hu hi hz (a.eval xx) ba es0.length es0.length es.length olds news hlen (hfc _ rfl) hfo (by omega) h63 h47
              · cases h
            · cases h
      · cases h
  · cases h

end Go.AM
