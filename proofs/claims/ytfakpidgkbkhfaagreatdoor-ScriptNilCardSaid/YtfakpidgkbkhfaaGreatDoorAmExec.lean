/- The abstract machine: the evaluator of code and calls. -/
import Derived.Test.YtfakpidgkbkhfaaGreatDoorAmRun
namespace Go.AM

abbrev CallF := FuncId → List AV → TH → Option (AV × TH)

def evalOp (P : Program) (call : CallF) (T : List AV) (h : TH) (op : Op) : Option (AV × TH) :=
  match op with
  | .call { callee := .value fo, args, .. } =>
    match evalA T fo with
    | .fn g caps => match P.funcs[g]? with
      | some fn => if fn.body.isNone = true then none else call g (args.toList.map (evalA T) ++ caps) h
      | none => none
    | _ => none
  | op => match evalE P h.den h.nx T op with
    | some (r, eff) => match h.apply eff with
      | some h' => some (r, h')
      | none => none
    | none => none

def evalOps (P : Program) (call : CallF) (ops : Array Oper) : List Nat → List AV → TH → Option (List AV × TH)
  | [], T, h => some (T, h)
  | i :: l, T, h =>
    match ops[i]? with
    | none => none
    | some o => match wantedA ops T o with
      | none => none
      | some true => match evalOp P call T h o.op with
        | some (r, h') => evalOps P call ops l (putT T o.dst r) h'
        | none => none
      | some false => evalOps P call ops l (putT T o.dst (.tup [])) h

def iter (step : List AV → TH → Option (Exit × List AV × TH)) : Nat → List AV → TH → Option (Exit × List AV × TH)
  | 0, _, _ => none
  | n + 1, T, h => match step T h with
    | some (.normal, T1, h1) => iter step n T1 h1
    | r => r

/-- Is the order of a region that draws without meaning? -/
abbrev DrawF := Array Oper → List AV → TH → Option (List AV × TH)

def execC (P : Program) (call : CallF) (draw : DrawF) (lf : Nat) : Code → List AV → TH → Option (Exit × List AV × TH)
  | .skip, T, h => some (.normal, T, h)
  | .label _, T, h => some (.normal, T, h)
  | .ret, T, h => some (.ret, T, h)
  | .exit id, T, h => some (.exit id, T, h)
  | .seq a b, T, h => match execC P call draw lf a T h with
    | some (.normal, T1, h1) => execC P call draw lf b T1 h1
    | r => r
  | .cond c a b, T, h => match evalA T c with
    | .bool true => execC P call draw lf a T h
    | .bool false => execC P call draw lf b T h
    | _ => none
  | .block id a, T, h => match execC P call draw lf a T h with
    | some (e, T1, h1) => some (Exit.blocked id e, T1, h1)
    | none => none
  | .loop a, T, h => iter (fun T h => execC P call draw lf a T h) lf T h
  | .region _ ops dr, T, h =>
    match (if dr then draw ops T h else evalOps P call ops (List.range ops.size) T h) with
    | some (T1, h1) => some (.normal, T1, h1)
    | none => none
  | _, _, _ => none

def callN (P : Program) (draw : CallF → DrawF) (lf : Nat) : Nat → CallF
  | 0, _, _, _ => none
  | n + 1, f, args, h =>
    match P.funcs[f]? with
    | none => none
    | some fn => match fn.body with
      | none => none
      | some c => match execC P (callN P draw lf n) (draw (callN P draw lf n)) lf c (entryT fn args) h with
        | some (e, T, h') => if Exit.ends e = true then match resultsL P h'.den T fn.results.toList with
            | some vs => some (oneOf vs, h')
            | none => none
          else none
        | none => none

end Go.AM
