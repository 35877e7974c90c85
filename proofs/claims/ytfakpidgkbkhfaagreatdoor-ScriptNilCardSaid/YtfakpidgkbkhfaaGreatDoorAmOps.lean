/- The abstract machine: each operation that changes no heap. -/
import Derived.Test.YtfakpidgkbkhfaaGreatDoorAmPure
namespace Go.AM

def validO (H : Heap) (o g : Nat) : Bool := match H o with
  | some x => x.gen == g
  | none => false

theorem valid_ptr {H : Heap} {o i off g : Nat} {c : Cx} {w : World} {y : Value} (h : validO H o g = true) (hv : RepV c H w (.ptr o i off g) y) :
    ∃ x b, H o = some x ∧ x.gen = g ∧ c.ρ o = some b ∧ y = .pointer (some ⟨b, i * x.sz + off, none⟩) := by
  simp only [RepV] at hv
  obtain ⟨x, hx, _, hv⟩ := hv
  simp only [validO, hx, beq_iff_eq] at h
  obtain ⟨b, hb, rfl⟩ := hv h
  exact ⟨x, b, hx, h, hb, rfl⟩

def fieldA (H : Heap) (off' : Nat) : AV → Option AV
  | .ptr o i off g => if validO H o g = true then some (.ptr o i (off + off') g) else none
  | .cptr cs => some (.cptr (cs.drop off'))
  | _ => none

theorem fieldA_run {P : Program} {s : TypeId} {f off' n : Nat} {ft : TypeId} {H : Heap} {v r : AV} (hf : fieldT P s f = some (off', ft)) (hn : sizeT P ft = some (n + 1))
    (h : fieldA H off' v = some r) {c : Cx} {w : World} {y : Value} (hv : RepV c H w v y) :
    ∃ z, (Instr.fieldAt s y f).run P w = .ok z w ∧ RepV c H w r z := by
  unfold fieldT at hf
  split at hf
  · rename_i fs hu
    obtain ⟨fd, hfd, he⟩ := Option.map_eq_some_iff.1 hf
    cases he
    have hrun : ∀ b o, (Instr.fieldAt s (.pointer (some ⟨b, o, none⟩)) f).run P w = .ok (.pointer (some ⟨b, o + fd.offset, none⟩)) w := by
      intro b o
      simp [Instr.fieldAt, run_underlying hu, hfd, Instr.sureAddr, fieldPlace, run_sizeT hn, add_eq]
    unfold fieldA at h
    split at h
    · split at h
      · rename_i hg
        cases h
        obtain ⟨x, b, hx, hxg, hb, rfl⟩ := valid_ptr hg hv
        refine ⟨_, hrun _ _, x, hx, ⟨by omega, _, rfl⟩, fun _ => ⟨b, hb, ?_⟩⟩
        rw [Nat.add_assoc]
      · cases h
    · cases h
      simp only [RepV] at hv
      obtain ⟨b, off, hF, rfl, hc⟩ := hv
      exact ⟨_, hrun _ _, b, _, hF, rfl, hc.drop _⟩
    · cases h
  · cases hf

/-! ### Integers -/

def cmpI (op : BinOp) (a b : Int) : Option Bool :=
  match op with
  | .eql => some (a == b)
  | .neq => some (a != b)
  | .lss => some (decide (a < b))
  | .leq => some (decide (a ≤ b))
  | .gtr => some (decide (a > b))
  | .geq => some (decide (a ≥ b))
  | _ => none

def binI (op : BinOp) (k : IntKind) (a b : Int) : Option AV :=
  match op with
  | .add => some (.int k (k.wrap (a + b)))
  | .sub => some (.int k (k.wrap (a - b)))
  | .mul => some (.int k (k.wrap (a * b)))
  | .quo => if b = 0 then none else some (.int k (k.wrap (a.tdiv b)))
  | .rem => if b = 0 then none else some (.int k (a.tmod b))
  | .and => some (.int k (k.wrap (BitVec.ofInt k.bits a &&& BitVec.ofInt k.bits b).toNat))
  | .or => some (.int k (k.wrap (BitVec.ofInt k.bits a ||| BitVec.ofInt k.bits b).toNat))
  | .xor => some (.int k (k.wrap (BitVec.ofInt k.bits a ^^^ BitVec.ofInt k.bits b).toNat))
  | .andNot => some (.int k (k.wrap (BitVec.ofInt k.bits a &&& ~~~BitVec.ofInt k.bits b).toNat))
  | .shl | .shr => none
  | op => (cmpI op a b).map .bool

theorem binI_run {P : Program} {op : BinOp} {k : IntKind} {a b : Int} {r : AV} (h : binI op k a b = some r) (t : TypeId) (c : Cx) (H : Heap) (w : World) :
    ∃ v, (binOp op t (.int k a) (.int k b)).run P w = .ok v w ∧ RepV c H w r v := by
  cases op <;> simp [binI, cmpI] at h <;> first
    | (subst h; exact ⟨_, rfl, rfl⟩)
    | (obtain ⟨h1, rfl⟩ := h; refine ⟨_, ?_, rfl⟩; simp [binOp, Op.intDiv, h1])
    | (subst h; exact ⟨_, by simp [binOp, Op.intArith, Op.intBits, Op.intCmp], rfl⟩)

def shiftI (op : BinOp) (k : IntKind) (a b : Int) : Option AV :=
  if b < 0 then none else
  match op with
  | .shl => some (.int k (k.wrap (a * 2 ^ (min b.toNat k.bits))))
  | .shr => some (.int k (a.fdiv (2 ^ (min b.toNat k.bits))))
  | _ => none

theorem shiftI_run {P : Program} {op : BinOp} {k yk : IntKind} {a b : Int} {r : AV} (h : shiftI op k a b = some r) (t : TypeId) (c : Cx) (H : Heap) (w : World) :
    ∃ v, (binOp op t (.int k a) (.int yk b)).run P w = .ok v w ∧ RepV c H w r v := by
  unfold shiftI at h
  split at h
  · cases h
  · rename_i hb
    cases op <;> simp at h <;> (subst h; exact ⟨_, by simp [binOp, Op.shift, hb], rfl⟩)

/-! ### Strings -/

def binS (op : BinOp) (a b : List UInt8) : Option AV :=
  match op with
  | .add => if a.length + b.length ≤ 9223372036854775807 then some (.str (a ++ b)) else none
  | .eql => some (.bool (a == b))
  | .neq => some (.bool (!(a == b)))
  | .lss => some (.bool (Op.bytesLess a b))
  | .leq => some (.bool (Op.bytesLess a b || a == b))
  | .gtr => some (.bool (!(Op.bytesLess a b || a == b)))
  | .geq => some (.bool (!Op.bytesLess a b))
  | _ => none

theorem toList_mk (s : List UInt8) : (⟨s.toArray⟩ : ByteArray).toList = s := by
  have h : ∀ (b : ByteArray), b.toList = b.data.toList := fun b => by
    have hl : ∀ (n i : Nat) (r : List UInt8), b.size - i = n → ByteArray.toList.loop b i r = r.reverse ++ b.data.toList.drop i := by
      intro n
      induction n with
      | zero =>
        intro i r hn
        have hge : ¬ i < b.size := by omega
        unfold ByteArray.toList.loop
        rw [if_neg hge]
        have : b.data.toList.drop i = [] := by
          apply List.drop_eq_nil_of_le
          simp only [Array.length_toList]
          have : b.size = b.data.size := rfl
          omega
        simp [this]
      | succ n ih =>
        intro i r hn
        have hlt : i < b.size := by omega
        unfold ByteArray.toList.loop
        rw [if_pos hlt, ih (i + 1) _ (by omega)]
        have hlt' : i < b.data.toList.length := by simpa using hlt
        have e : b.data.toList.drop i = b.data.toList[i] :: b.data.toList.drop (i + 1) := by rw [List.drop_eq_getElem_cons hlt']
        have eg : b.get! i = b.data.toList[i] := by
          have hs : i < b.data.size := hlt
          simp only [ByteArray.get!, Array.getElem_toList]
          exact getElem!_pos b.data i hs
        rw [e, eg]
        simp
    have := hl b.size 0 [] (by omega)
    simpa [ByteArray.toList] using this
  rw [h]

theorem size_mk (s : List UInt8) : (⟨s.toArray⟩ : ByteArray).size = s.length := by simp [ByteArray.size]

theorem i64_max : IntKind.i64.max = 9223372036854775807 := by decide

theorem binS_run {P : Program} {op : BinOp} {a b : List UInt8} {r : AV} (h : binS op a b = some r) (t : TypeId) (c : Cx) (H : Heap) (w : World) :
    ∃ v, (binOp op t (.string ⟨a.toArray⟩) (.string ⟨b.toArray⟩)).run P w = .ok v w ∧ RepV c H w r v := by
  cases op <;> simp only [binS] at h
  case add =>
    split at h
    · rename_i h1
      cases h
      have hn : ¬ (9223372036854775807 < ((a.length + b.length : Nat) : Int)) := by omega
      refine ⟨.string (⟨a.toArray⟩ ++ ⟨b.toArray⟩), ?_, ?_⟩
      · simp only [binOp, Op.stringOp, size_mk, i64_max, gt_iff_lt, hn, if_false, Sem.run_pure]
      · simp only [RepV]
        congr 1
    · cases h
  all_goals first
    | (cases h; done)
    | (cases h; exact ⟨_, by simp only [binOp, Op.stringOp, toList_mk]; rfl, rfl⟩)

end Go.AM
