/- The abstract machine: a command as an argument. -/
import Derived.Test.YtfakpidgkbkhfaaGreatDoorAmRow
namespace Go.AM

theorem cell_int {P : Program} {w : World} {r : Reach} {base : Nat} {t : TypeId} {k : IntKind} {v : Value} (hu : P.underlying t = some (.int k)) (h : Cell.okWide P w r base t v) : ∃ n, v = .int k n := by
  unfold Cell.okWide Cell.ok at h
  rw [hu] at h
  cases v <;> simp at h
  obtain ⟨rfl, _⟩ := h
  exact ⟨_, rfl⟩
theorem cell_string {P : Program} {w : World} {r : Reach} {base : Nat} {t : TypeId} {v : Value} (hu : P.underlying t = some .string) (h : Cell.okWide P w r base t v) : ∃ s : List UInt8, v = .string ⟨s.toArray⟩ := by
  unfold Cell.okWide Cell.ok at h
  rw [hu] at h
  cases v <;> simp at h
  rename_i s
  exact ⟨s.data.toList, by simp⟩
theorem cell_slice {P : Program} {w : World} {r : Reach} {base : Nat} {t e : TypeId} {v : Value} (hu : P.underlying t = some (.slice e)) (h : Cell.okWide P w r base t v) : ∃ a l k, v = .slice a l k := by
  unfold Cell.okWide Cell.ok at h
  rw [hu] at h
  cases v <;> simp at h
  exact ⟨_, _, _, rfl⟩

theorem agg_cells {P : Program} {w : World} {r : Reach} {base : Nat} {t : TypeId} {v : Value} {fs : Array Field} {ts : List TypeId} (h : Value.okWide P w r base t v) (hu : P.underlying t = some (.struct fs))
    (hc : P.cellTypes P.depth t = some ts) (hn : P.cellsOf t = ts.length) :
    ∃ vs : List Value, v = .agg vs.toArray ∧ vs.length = ts.length ∧ ∀ (i : Nat) u x, ts[i]? = some u → vs[i]? = some x → Cell.okWide P w r base u x := by
  unfold Value.okWide at h
  rw [hu] at h
  obtain ⟨cs, rfl, hs, ts', h1, _, h3⟩ := h
  rw [hc] at h1
  obtain rfl := Option.some.inj h1
  refine ⟨cs.toList, by simp, by simp [hs, hn], fun i u x hi hx => ?_⟩
  obtain ⟨u', hu', hk⟩ := h3 i x (by simpa using hx)
  have hlt : i < ts.length := (List.getElem?_eq_some_iff.1 hi).1
  rw [Nat.mod_eq_of_lt hlt, hi] at hu'
  obtain rfl := Option.some.inj hu'
  exact hk

/-- A command, its texts and its bytes within bounds. -/
def cmdA (m t x d : AV) : AV := .agg [.intR .i64 none none, m, t, .intR .i64 none none, .intR .i64 none none, x, d, .intR .i64 none none, .intR .i64 none none]

/-- A module's name that is too long. -/
def cmd0 : AV := cmdA (.strR 301 none) (.strR 0 none) (.strR 0 none) (.slR 0 none)
/-- Else a type's. -/
def cmd1 : AV := cmdA (.strR 0 (some 300)) (.strR 301 none) (.strR 0 none) (.slR 0 none)
/-- Else a text. -/
def cmd2 : AV := cmdA (.strR 0 (some 300)) (.strR 0 (some 300)) (.strR 3001 none) (.slR 0 none)
/-- Else bytes. -/
def cmd3 : AV := cmdA (.strR 0 (some 300)) (.strR 0 (some 300)) (.strR 0 (some 3000)) (.slR 3001 none)
/-- Not too great. -/
def cmd4 : AV := cmdA (.strR 0 (some 300)) (.strR 0 (some 300)) (.strR 0 (some 3000)) (.slR 0 (some 3000))
/-- Each command is one of these. -/
def cmdCases : List AV := [cmd0, cmd1, cmd2, cmd3, cmd4]

theorem cmd_cases {P : Program} {w : World} {r : Reach} {base : Nat} {t i s b e : TypeId} {v : Value} {fs : Array Field} (h : Value.okWide P w r base t v) (hu : P.underlying t = some (.struct fs))
    (hc : P.cellTypes P.depth t = some [i, s, s, i, i, s, b, i, i]) (hn : P.cellsOf t = 9) (hi : P.underlying i = some (.int .i64)) (hs : P.underlying s = some .string) (hb : P.underlying b = some (.slice e))
    (c : Cx) (H : Heap) : ∃ a ∈ cmdCases, RepV c H w a v := by
  obtain ⟨vs, rfl, hl, hk⟩ := agg_cells h hu hc hn
  match vs, hl with
  | [v0, v1, v2, v3, v4, v5, v6, v7, v8], _ =>
    obtain ⟨n0, rfl⟩ := cell_int hi (hk 0 _ _ rfl rfl)
    obtain ⟨s1, rfl⟩ := cell_string hs (hk 1 _ _ rfl rfl)
    obtain ⟨s2, rfl⟩ := cell_string hs (hk 2 _ _ rfl rfl)
    obtain ⟨n3, rfl⟩ := cell_int hi (hk 3 _ _ rfl rfl)
    obtain ⟨n4, rfl⟩ := cell_int hi (hk 4 _ _ rfl rfl)
    obtain ⟨s5, rfl⟩ := cell_string hs (hk 5 _ _ rfl rfl)
    obtain ⟨a6, l6, k6, rfl⟩ := cell_slice hb (hk 6 _ _ rfl rfl)
    obtain ⟨n7, rfl⟩ := cell_int hi (hk 7 _ _ rfl rfl)
    obtain ⟨n8, rfl⟩ := cell_int hi (hk 8 _ _ rfl rfl)
    have int : ∀ n : Int, RepV c H w (.intR .i64 none none) (.int .i64 n) := fun n => by
      simp only [RepV]; exact ⟨n, rfl, (fun _ h => by cases h), (fun _ h => by cases h)⟩
    have str : ∀ (s : List UInt8) (lo : Nat) (hi : Option Nat), lo ≤ s.length → (∀ m, hi = some m → s.length ≤ m) → RepV c H w (.strR lo hi) (.string ⟨s.toArray⟩) := fun s lo hi h1 h2 => by
      simp only [RepV]; exact ⟨s, rfl, h1, h2⟩
    have sli : ∀ (lo : Nat) (hi : Option Nat), lo ≤ l6 → (∀ m, hi = some m → l6 ≤ m) → RepV c H w (.slR lo hi) (.slice a6 l6 k6) := fun lo hi h1 h2 => by
      simp only [RepV]; exact ⟨a6, l6, k6, rfl, h1, h2⟩
    have any : ∀ s : List UInt8, RepV c H w (.strR 0 none) (.string ⟨s.toArray⟩) := fun s => str s 0 none (Nat.zero_le _) (fun _ h => by cases h)
    have mk : ∀ {m t x d : AV}, RepV c H w m (.string ⟨s1.toArray⟩) → RepV c H w t (.string ⟨s2.toArray⟩) → RepV c H w x (.string ⟨s5.toArray⟩) → RepV c H w d (.slice a6 l6 k6) →
        RepV c H w (cmdA m t x d) (.agg [.int .i64 n0, .string ⟨s1.toArray⟩, .string ⟨s2.toArray⟩, .int .i64 n3, .int .i64 n4, .string ⟨s5.toArray⟩, .slice a6 l6 k6, .int .i64 n7, .int .i64 n8].toArray) := by
      intro m t x d h1 h2 h3 h4
      simp only [cmdA, RepV, RepL]
      refine ⟨_, rfl, _, _, rfl, ?_, _, _, rfl, h1, _, _, rfl, h2, _, _, rfl, ?_, _, _, rfl, ?_, _, _, rfl, h3, _, _, rfl, h4, _, _, rfl, ?_, _, _, rfl, ?_, rfl⟩
      · simpa only [RepV] using int n0
      · simpa only [RepV] using int n3
      · simpa only [RepV] using int n4
      · simpa only [RepV] using int n7
      · simpa only [RepV] using int n8
    by_cases c1 : s1.length ≤ 300
    · by_cases c2 : s2.length ≤ 300
      · by_cases c5 : s5.length ≤ 3000
        · by_cases c6 : l6 ≤ 3000
          · exact ⟨_, by simp [cmdCases, cmd0, cmd1, cmd2, cmd3, cmd4], mk (str s1 0 (some 300) (Nat.zero_le _) (fun _ h => by cases h; exact c1)) (str s2 0 (some 300) (Nat.zero_le _) (fun _ h => by cases h; exact c2)) (str s5 0 (some 3000) (Nat.zero_le _) (fun _ h => by cases h; exact c5)) (sli 0 (some 3000) (Nat.zero_le _) (fun _ h => by cases h; exact c6))⟩
          · exact ⟨_, by simp [cmdCases, cmd0, cmd1, cmd2, cmd3, cmd4], mk (str s1 0 (some 300) (Nat.zero_le _) (fun _ h => by cases h; exact c1)) (str s2 0 (some 300) (Nat.zero_le _) (fun _ h => by cases h; exact c2)) (str s5 0 (some 3000) (Nat.zero_le _) (fun _ h => by cases h; exact c5)) (sli 3001 none (by omega) (fun _ h => by cases h))⟩
        · exact ⟨_, by simp [cmdCases, cmd0, cmd1, cmd2, cmd3, cmd4], mk (str s1 0 (some 300) (Nat.zero_le _) (fun _ h => by cases h; exact c1)) (str s2 0 (some 300) (Nat.zero_le _) (fun _ h => by cases h; exact c2)) (str s5 3001 none (by omega) (fun _ h => by cases h)) (sli 0 none (Nat.zero_le _) (fun _ h => by cases h))⟩
      · exact ⟨_, by simp [cmdCases, cmd0, cmd1, cmd2, cmd3, cmd4], mk (str s1 0 (some 300) (Nat.zero_le _) (fun _ h => by cases h; exact c1)) (str s2 301 none (by omega) (fun _ h => by cases h)) (any s5) (sli 0 none (Nat.zero_le _) (fun _ h => by cases h))⟩
    · exact ⟨_, by simp [cmdCases, cmd0, cmd1, cmd2, cmd3, cmd4], mk (str s1 301 none (by omega) (fun _ h => by cases h)) (any s2) (any s5) (sli 0 none (Nat.zero_le _) (fun _ h => by cases h))⟩

/-- A slice as an argument: of so many elements at most, or of more. -/
theorem slice_cases {P : Program} {w : World} {r : Reach} {base : Nat} {t e : TypeId} {v : Value} (h : Value.okWide P w r base t v) (hu : P.underlying t = some (.slice e)) (n : Nat)
    (c : Cx) (H : Heap) : RepV c H w (.slR 0 (some n)) v ∨ RepV c H w (.slR (n + 1) none) v := by
  unfold Value.okWide at h
  rw [hu] at h
  obtain ⟨a, l, k, rfl⟩ := cell_slice hu h
  by_cases hl : l ≤ n
  · left; simp only [RepV]; exact ⟨a, l, k, rfl, Nat.zero_le _, fun _ h => by cases h; exact hl⟩
  · right; simp only [RepV]; exact ⟨a, l, k, rfl, by omega, fun _ h => by cases h⟩

theorem RepV.weak {c : Cx} {H : Heap} {w : World} {lo : Nat} {hi : Option Nat} {v : Value} (h : RepV c H w (.slR lo hi) v) : RepV c H w (.slR 0 none) v := by
  simp only [RepV] at h ⊢
  obtain ⟨a, l, k, hv, _⟩ := h
  exact ⟨a, l, k, hv, Nat.zero_le _, fun _ h => by cases h⟩

end Go.AM
