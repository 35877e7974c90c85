/- The abstract machine: all operations that change no heap, as one function. -/
import Derived.Test.YtfakpidgkbkhfaaGreatDoorAmQuiet
namespace Go.AM

/-- A conversion that makes no memory. -/
def convQ (P : Program) (H : Heap) (src dst : TypeId) (v : AV) : Option AV :=
  match P.underlying src, P.underlying dst, v with
  | some _, some (.int k), .int _ n => some (.int k (k.wrap n))
  | some _, some .string, .str s => some (.str s)
  | some (.slice e), some .string, .bs _ l _ => match P.underlying e with
    | some (.int .u8) => some (.str l)
    | _ => none
  | some (.slice e), some .string, v => match P.underlying e, elems H v with
    | some (.int .u8), some es => (bytesOf es).map .str
    | _, _ => none
  | _, _, _ => none

theorem convQ_run {P : Program} {c : Cx} {H : Heap} {w : World} {src dst : TypeId} {v r : AV} {y : Value} (hH : RepH c H w) (hv : RepV c H w v y) (h : convQ P H src dst v = some r) :
    ∃ z, (convert src dst y).run P w = .ok z w ∧ RepV c H w r z := by
  unfold convQ at h
  split at h
  · rename_i d k k' n hs hd
    cases h
    simp only [RepV] at hv; subst hv
    exact ⟨_, by simp [convert, run_underlying hs, run_underlying hd, Conv.intToInt], rfl⟩
  · rename_i d s hs hd
    cases h
    simp only [RepV] at hv; subst hv
    exact ⟨_, by simp [convert, run_underlying hs, run_underlying hd], rfl⟩
  · rename_i e k l room hs hd
    split at h
    · rename_i he
      cases h
      have hrun := bytesStr_run (P := P) hH hv (show elems H (.bs k l room) = some _ from rfl) (bytesOf_u8 l)
      simp only [RepV] at hv
      obtain ⟨a, cap, rfl, _⟩ := hv.slice
      exact ⟨_, by rw [run_convert_bytes_string w src dst e a l.length cap hs he hd, hrun], rfl⟩
    · cases h
  · rename_i e hs hd hne hne2
    split at h
    · rename_i es he hel
      obtain ⟨bs, hb, rfl⟩ := Option.map_eq_some_iff.1 h
      have hrun := bytesStr_run (P := P) hH hv hel hb
      have : ∃ a l cc, y = .slice a l cc := by
        rcases elems_rep hH hv hel with ⟨_, a, cap, rfl⟩ | ⟨b, off, sz, cap, e, n, rfl, _⟩
        · exact ⟨_, _, _, rfl⟩
        · exact ⟨_, _, _, rfl⟩
      obtain ⟨a, l, cc, rfl⟩ := this
      exact ⟨_, by rw [run_convert_bytes_string w src dst e a l cc hs he hd, hrun], rfl⟩
    · cases h
  · cases h

def mm (mx : Bool) (x y : Int) : Int := if mx then (if y > x then y else x) else (if y < x then y else x)

def mmGo (mx : Bool) (x : Int) : List AV → Option Int
  | [] => some x
  | .int _ y :: r => mmGo mx (mm mx x y) r
  | _ => none

def minmaxA (mx : Bool) : List AV → Option AV
  | .int k x :: r => (mmGo mx x r).map fun n => .int k n
  | _ => none

theorem max_go {P : Program} {c : Cx} {H : Heap} {w : World} {k : IntKind} : ∀ {xs : List AV} {ys : List Value} {x n : Int}, mmGo true x xs = some n → RepL c H w xs ys →
    (ys.foldlM Builtin.max2 (.int k x)).run P w = .ok (.int k n) w
  | [], ys, x, n, h, hl => by
    simp only [mmGo] at h; cases h
    simp only [RepL] at hl; subst hl; rfl
  | v :: xs, ys, x, n, h, hl => by
    simp only [RepL] at hl
    obtain ⟨y, ys, rfl, hy, hl⟩ := hl
    cases v with
    | int k' m =>
      simp only [mmGo] at h
      simp only [RepV] at hy; subst hy
      have := max_go (P := P) (k := k) h hl
      simp only [List.foldlM_cons, Sem.run_bind, Builtin.max2, Sem.run_pure, Result.andThen_ok]
      simpa [mm] using this
    | _ => simp [mmGo] at h

theorem min_go {P : Program} {c : Cx} {H : Heap} {w : World} {k : IntKind} : ∀ {xs : List AV} {ys : List Value} {x n : Int}, mmGo false x xs = some n → RepL c H w xs ys →
    (ys.foldlM Builtin.min2 (.int k x)).run P w = .ok (.int k n) w
  | [], ys, x, n, h, hl => by
    simp only [mmGo] at h; cases h
    simp only [RepL] at hl; subst hl; rfl
  | v :: xs, ys, x, n, h, hl => by
    simp only [RepL] at hl
    obtain ⟨y, ys, rfl, hy, hl⟩ := hl
    cases v with
    | int k' m =>
      simp only [mmGo] at h
      simp only [RepV] at hy; subst hy
      have := min_go (P := P) (k := k) h hl
      simp only [List.foldlM_cons, Sem.run_bind, Builtin.min2, Sem.run_pure, Result.andThen_ok]
      simpa [mm] using this
    | _ => simp [mmGo] at h

def unA (op : UnOp) (v : AV) : Option AV :=
  match op, v with
  | .not, .bool b => some (.bool (!b))
  | .neg, .int k n => some (.int k (k.wrap (0 - n)))
  | .xor, .int k n => some (.int k (k.wrap (BitVec.ofInt k.bits (if k.signed then -1 else k.max) ^^^ BitVec.ofInt k.bits n).toNat))
  | _, _ => none

theorem unA_run {P : Program} {c : Cx} {H : Heap} {w : World} {op : UnOp} {v r : AV} {y : Value} (hv : RepV c H w v y) (h : unA op v = some r) :
    ∃ z, (Op.unary op y).run P w = .ok z w ∧ RepV c H w r z := by
  unfold unA at h
  split at h
  · cases h; simp only [RepV] at hv; subst hv; exact ⟨_, rfl, rfl⟩
  · cases h; simp only [RepV] at hv; subst hv; exact ⟨_, by simp [Op.unary, Op.intArith], rfl⟩
  · cases h; simp only [RepV] at hv; subst hv; exact ⟨_, by simp [Op.unary, Op.intBits], rfl⟩
  · cases h

def nilChk (H : Heap) : AV → Option AV
  | .ptr o i off g => if validO H o g = true then some (.ptr o i off g) else none
  | .cptr cs => some (.cptr cs)
  | .fn f caps => some (.fn f caps)
  | _ => none

def fnOf : Fn → Option FuncId
  | .func f => some f
  | _ => none

/-- An operation that changes no heap: its value. -/
def evalQ (P : Program) (H : Heap) (T : List AV) (op : Op) : Option AV :=
  match op with
  | .move x | .assign x => some (evalA T x)
  | .pick c a b => match evalA T c with
    | .bool t => some (if t then evalA T a else evalA T b)
    | _ => none
  | .load t a => match cellsOf H (evalA T a) with
    | some cs => loadC P t cs
    | none => none
  | .nilCheck x => nilChk H (evalA T x)
  | .binOp op t x y _ => evalBin P H op t x y (evalA T x) (evalA T y)
  | .unOp op _ x => unA op (evalA T x)
  | .convert s d x => convQ P H s d (evalA T x)
  | .makeInterface t x => match P.underlying t with
    | some (.interface _) => none
    | some _ => some (.iface t (evalA T x))
    | none => none
  | .makeFunc f first caps => match fnOf f with
    | some f => if first.size = 0 then some (.fn f (caps.toList.map (evalA T))) else none
    | none => none
  | .slice t x lo hi mx => match P.underlying t, evalA T x with
    | some .string, .str s => if mx.isNone then sliceStr s (lo.map (evalA T)) (hi.map (evalA T)) else none
    | some (.slice e), v => match sizeT P e, sliceBoundsA v (lo.map (evalA T)) (hi.map (evalA T)) (mx.map (evalA T)) with
      | some sz, some (l, h, m) => if validS H v = true ∧ szOK H sz v = true then sliceA v l h m else none
      | _, _ => none
    | _, _ => none
  | .fieldAddr s x f => match fieldT P s f with
    | some (off, ft) => match sizeT P ft with
      | some (_ + 1) => fieldA H off (evalA T x)
      | _ => none
    | none => none
  | .field s x f => match fieldT P s f, evalA T x with
    | some (off, ft), .agg cs => partC P ft off cs
    | _, _ => none
  | .indexAddr t x i => match P.underlying t, evalA T i with
    | some (.slice e), .int _ n => match sizeT P e with
      | some sz => indexAddrA H sz (evalA T x) n
      | none => none
    | some (.array len e), .int _ n => match sizeT P e with
      | some sz => indexArrA H len sz (evalA T x) n
      | none => none
    | _, _ => none
  | .index t x i => match evalA T i with
    | .int _ n => indexA P t (evalA T x) n
    | _ => none
  | .extract t i => match evalA T t with
    | .tup vs => vs[i]?
    | _ => none
  | .call { callee := .builtin .len, args, argTypes } => match args.toList, argTypes.toList with
    | [x], [t] => match lenR P t (evalA T x) with
      | some r => some r
      | none => (lenB P H t (evalA T x)).map fun (n : Nat) => AV.int .i64 (n : Int)
    | _, _ => none
  | .call { callee := .builtin .max, args, .. } => minmaxA true (args.toList.map (evalA T))
  | .call { callee := .builtin .min, args, .. } => minmaxA false (args.toList.map (evalA T))
  | _ => none

theorem RepL_map {c : Cx} {H : Heap} {w : World} {T : List AV} {a : Act} (h : RepT c H w T a.tmps) : ∀ xs : List Operand, RepL c H w (xs.map (evalA T)) (xs.map a.eval)
  | [] => rfl
  | x :: xs => ⟨_, _, rfl, evalA_rep h x, RepL_map h xs⟩

theorem evalQ_ok {P : Program} {H : Heap} {T : List AV} {o : Oper} {r : AV} (h : evalQ P H T o.op = some r) : OpOK P o T H r H := by
  refine OpOK.pure fun c w a hH hT => ?_
  have E := fun x => evalA_rep hT x
  unfold evalQ at h
  split at h
  case h_1 x ho => cases h; exact ⟨_, by simp [execOp, ho], E x⟩
  case h_2 x ho => cases h; exact ⟨_, by simp [execOp, ho], E x⟩
  case h_3 cc x y ho =>
    split at h
    · rename_i t hc
      cases h
      have := E cc
      rw [hc] at this
      simp only [RepV] at this
      refine ⟨if t then a.eval x else a.eval y, by simp [execOp, ho, this, asBool], ?_⟩
      cases t
      · exact E y
      · exact E x
    · cases h
  case h_4 t x ho =>
    split at h
    · rename_i cs hc
      obtain ⟨b, off, hy, hat⟩ := cellsOf_rep hc hH (E x)
      obtain ⟨v, hv, hr⟩ := loadC_run h hat
      exact ⟨v, by simp [execOp, ho, Instr.loadAt, hy, Instr.sureAddr, hv], hr⟩
    · cases h
  case h_5 x ho =>
    have := E x
    unfold nilChk at h
    split at h
    · rename_i hx
      rw [hx] at this
      split at h
      · rename_i hg
        cases h
        obtain ⟨x', b, _, _, _, hy⟩ := valid_ptr hg this
        exact ⟨a.eval x, by simp [execOp, ho, hy], this⟩
      · cases h
    · rename_i hx
      cases h
      rw [hx] at this
      have h2 := this
      simp only [RepV] at h2
      obtain ⟨b, off, _, hy, _⟩ := h2
      exact ⟨a.eval x, by simp [execOp, ho, hy], this⟩
    · rename_i hx
      cases h
      rw [hx] at this
      have h2 := this
      simp only [RepV] at h2
      obtain ⟨vs, hy, _⟩ := h2
      exact ⟨a.eval x, by simp [execOp, ho, hy], this⟩
    · cases h
  case h_6 op t x y yt ho =>
    obtain ⟨v, hv, hr⟩ := evalBin_run (P := P) h (E x) (E y)
    refine ⟨v, ?_, hr⟩
    simp only [execOp, ho]
    rw [Sem.run_bind, hv]
    simp
  case h_7 op t x ho =>
    obtain ⟨v, hv, hr⟩ := unA_run (P := P) (E x) h
    exact ⟨v, by simp [execOp, ho, hv], hr⟩
  case h_8 s d x ho =>
    obtain ⟨v, hv, hr⟩ := convQ_run hH (E x) h
    exact ⟨v, by simp [execOp, ho, hv], hr⟩
  case h_9 t x ho =>
    split at h
    · cases h
    · rename_i d hne hu
      cases h
      refine ⟨.iface t (a.eval x), ?_, _, rfl, E x⟩
      cases d <;> first
        | exact absurd rfl (hne _)
        | simp [execOp, ho, Instr.makeInterface, run_underlying hu]
    · cases h
  case h_10 f first caps ho =>
    split at h
    · rename_i f' hf
      split at h
      · rename_i hs
        cases h
        cases f with
        | func g =>
          simp only [fnOf, Option.some.injEq] at hf
          subst hf
          refine ⟨.func (.func g) #[] (caps.map a.eval), ?_, (caps.toList.map a.eval), ?_, RepL_map hT _⟩
          · have : first = #[] := Array.eq_empty_of_size_eq_zero hs
            simp [execOp, ho, Instr.makeFunc, this]
          · congr 1
            apply Array.ext'
            simp
        | _ => simp [fnOf] at hf
      · cases h
    · cases h
  case h_11 t x lo hi mx ho =>
    have hx := E x
    split at h
    · rename_i s hu hs
      split at h
      · rename_i hm
        rw [hs] at hx
        simp only [RepV] at hx
        obtain ⟨v, hv, hr⟩ := sliceStr_run (P := P) hu (RepOpt.map hT lo) (RepOpt.map hT hi) h
        have hm' : mx = none := by simpa using hm
        exact ⟨v, by simp [execOp, ho, hx, hm', hv], hr⟩
      · cases h
    · rename_i e v hu
      split at h
      · rename_i sz l hh m hs hb
        split at h
        · rename_i hc
          obtain ⟨v, hv, hr⟩ := sliceA_run (P := P) hu hs hc.1 hc.2 (RepOpt.map hT lo) (RepOpt.map hT hi) (RepOpt.map hT mx) hx hb h
          exact ⟨v, by simp [execOp, ho, hv], hr⟩
        · cases h
      · cases h
    · cases h
  case h_12 s x f ho =>
    split at h
    · rename_i off ft hf
      split at h
      · rename_i n hn
        obtain ⟨v, hv, hr⟩ := fieldA_run (P := P) hf hn h (E x)
        exact ⟨v, by simp [execOp, ho, hv], hr⟩
      · cases h
    · cases h
  case h_13 s x f ho =>
    split at h
    · rename_i off ft cs hf hx
      have := E x
      rw [hx] at this
      simp only [RepV] at this
      obtain ⟨vs, hy, hl⟩ := this
      obtain ⟨v, hv, hr⟩ := partC_run h hl
      unfold fieldT at hf
      split at hf
      · rename_i fs hu
        obtain ⟨fd, hfd, he⟩ := Option.map_eq_some_iff.1 hf
        cases he
        exact ⟨v, by simp [execOp, ho, Instr.field, run_underlying hu, hfd, hy, asAgg, hv], hr⟩
      · cases hf
    · cases h
  case h_14 t x i ho =>
    have hi := E i
    split at h
    · rename_i e k n hu hn
      rw [hn] at hi
      simp only [RepV] at hi
      split at h
      · rename_i sz hs
        obtain ⟨v, hv, hr⟩ := indexAddrA_run (P := P) (k := k) hu hs (E x) h
        exact ⟨v, by simp [execOp, ho, hi, hv], hr⟩
      · cases h
    · rename_i len e k n hu hn
      rw [hn] at hi
      simp only [RepV] at hi
      split at h
      · rename_i sz hs
        obtain ⟨v, hv, hr⟩ := indexArrA_run (P := P) (k := k) hu hs (E x) h
        exact ⟨v, by simp [execOp, ho, hi, hv], hr⟩
      · cases h
    · cases h
  case h_15 t x i ho =>
    have hi := E i
    split at h
    · rename_i k n hn
      rw [hn] at hi
      simp only [RepV] at hi
      obtain ⟨v, hv, hr⟩ := indexA_run (P := P) (k := k) (E x) h
      exact ⟨v, by simp [execOp, ho, hi, hv], hr⟩
    · cases h
  case h_16 t i ho =>
    have ht := E t
    split at h
    · rename_i vs hvs
      rw [hvs] at ht
      simp only [RepV] at ht
      obtain ⟨ys, hy, hl⟩ := ht
      have hl := RepL_iff.1 hl
      have hlt : i < ys.length := by have := (List.getElem?_eq_some_iff.1 h).1; omega
      refine ⟨ys[i], ?_, hl.2 i r _ h (List.getElem?_eq_getElem hlt)⟩
      simp [execOp, ho, hy, Instr.extract, hlt]
    · cases h
  case h_17 args argTypes ho =>
    split at h
    · rename_i x t hx ht
      have ha : args = #[x] := by apply Array.ext'; simpa using hx
      have hb : argTypes = #[t] := by apply Array.ext'; simpa using ht
      split at h
      · rename_i q hq
        cases h
        obtain ⟨z, hz, hr⟩ := lenR_run (P := P) (ty := o.type) (E x) hq
        exact ⟨z, by simp [execOp, ho, resolve, invoke, builtin, ha, hb, hz], hr⟩
      obtain ⟨n, hn, rfl⟩ := Option.map_eq_some_iff.1 h
      refine ⟨.int .i64 (n : Int), ?_, rfl⟩
      have := lenB_run (P := P) (ty := o.type) (E x) hn
      simp [execOp, ho, resolve, invoke, builtin, ha, hb, this]
    · cases h
  case h_18 args argTypes ho =>
    have hl := RepL_map hT args.toList
    cases hargs : args.toList.map (evalA T) with
    | nil => rw [hargs] at h; simp [minmaxA] at h
    | cons v vs =>
      rw [hargs] at h hl
      cases v <;> simp only [minmaxA] at h <;> first | cases h | skip
      rename_i k n
      obtain ⟨m, hm, rfl⟩ := Option.map_eq_some_iff.1 h
      simp only [RepL] at hl
      obtain ⟨y, ys, hys, hy, hl⟩ := hl
      simp only [RepV] at hy; subst hy
      refine ⟨.int k m, ?_, rfl⟩
      have := max_go (P := P) (k := k) hm hl
      simp [execOp, ho, resolve, invoke, builtin, Builtin.max_, hys, this]
  case h_19 args argTypes ho =>
    have hl := RepL_map hT args.toList
    cases hargs : args.toList.map (evalA T) with
    | nil => rw [hargs] at h; simp [minmaxA] at h
    | cons v vs =>
      rw [hargs] at h hl
      cases v <;> simp only [minmaxA] at h <;> first | cases h | skip
      rename_i k n
      obtain ⟨m, hm, rfl⟩ := Option.map_eq_some_iff.1 h
      simp only [RepL] at hl
      obtain ⟨y, ys, hys, hy, hl⟩ := hl
      simp only [RepV] at hy; subst hy
      refine ⟨.int k m, ?_, rfl⟩
      have := min_go (P := P) (k := k) hm hl
      simp [execOp, ho, resolve, invoke, builtin, Builtin.min_, hys, this]
  case h_20 => cases h

end Go.AM
