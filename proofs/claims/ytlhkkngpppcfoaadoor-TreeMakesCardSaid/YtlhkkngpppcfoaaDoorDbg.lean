import Derived.Test.YtlhkkngpppcfoaaDoorRange
open Lean Elab Tactic Meta
namespace Go.Sl
def codeHead (e : Lean.Expr) : MetaM MessageData := do
  match e.getAppFn.constName?, e.getAppArgs with
  | some ``Go.Code.seq, #[a, _] => return m!"seq ({a.getAppFn}..) .."
  | some ``Go.Code.region, #[i, _, d] => return m!"region {i} draw:{d}"
  | some ``Go.Code.block, #[i, c] => return m!"block {i} ({c.getAppFn})"
  | _, _ => return m!"{e.getAppFn}"
def slots (e : Lean.Expr) : MetaM MessageData := do
  let mut l := e
  let mut out : Array MessageData := #[]
  let mut k := 0
  while l.isAppOfArity ``List.cons 3 && k < 9 do
    let p := l.getAppArgs[1]!
    out := out.push (if p.isAppOf ``Prod.mk then m!"{p.getAppArgs[2]!}: {p.getAppArgs[3]!}" else m!"{p}")
    l := l.getAppArgs[2]!
    k := k + 1
  return MessageData.joinSep out.toList " · "
/-- prints the open goals, short -/
elab "tst" : tactic => do
  let mut k := 0
  let gs ← getGoals
  logInfo m!"== {gs.length} goals"
  for g in gs do
    k := k + 1
    if k > 4 then break
    g.withContext do
      let mut hyps : Array MessageData := #[]
      for d in ← getLCtx do
        if d.isImplementationDetail then continue
        let ty ← instantiateMVars d.type
        if ← Meta.isProp ty then hyps := hyps.push m!"{d.userName} : {ty}"
      let t := (← instantiateMVars (← g.getType)).consumeMData
      let a := t.getAppArgs
      let tgt ← match t.getAppFn.constName? with
        | some ``T => do
          let rest := a[3]!
          let hd : MessageData ← if rest.isAppOfArity ``List.cons 3 then do
              let o := rest.getAppArgs[1]!
              let oa := o.getAppArgs
              pure (if o.isAppOf ``Go.Oper.mk then m!"dst {oa[0]!} op {oa[1]!} pos {oa[3]!} guard {oa[5]!}" else m!"{o}")
            else pure m!"{rest}"
          pure m!"T: {hd}\n   s := {← slots a[5]!}\n   M := {a[6]!}"
        | some ``TQ => do
          let rest := a[3]!
          let hd : MessageData ← if rest.isAppOfArity ``List.cons 3 then do
              let o := rest.getAppArgs[1]!
              let oa := o.getAppArgs
              pure (if o.isAppOf ``Go.Oper.mk then m!"dst {oa[0]!} op {oa[1]!} pos {oa[3]!} guard {oa[5]!}" else m!"{o}")
            else pure m!"{rest}"
          pure m!"TQ: {hd}\n   s := {← slots a[5]!}\n   M := {a[6]!}"
        | some ``TS => do
          let rest := a[4]!
          let hd : MessageData ← if rest.isAppOfArity ``List.cons 3 then do
              let o := rest.getAppArgs[1]!
              let oa := o.getAppArgs
              pure (if o.isAppOf ``Go.Oper.mk then m!"dst {oa[0]!} op {oa[1]!} pos {oa[3]!} guard {oa[5]!}" else m!"{o}")
            else pure m!"{rest}"
          pure m!"TS: {hd}\n   s := {← slots a[6]!}\n   M := {a[7]!}"
        | some ``TL => do
          let rest := a[6]!
          let hd : MessageData ← if rest.isAppOfArity ``List.cons 3 then do
              let o := rest.getAppArgs[1]!
              let oa := o.getAppArgs
              pure (if o.isAppOf ``Go.Oper.mk then m!"dst {oa[0]!} op {oa[1]!} pos {oa[3]!} guard {oa[5]!}" else m!"{o}")
            else pure m!"{rest}"
          pure m!"TL: {a[5]!} {hd}\n   s := {← slots a[8]!}\n   M := {a[9]!}"
        | some ``TF => do
          let rest := a[5]!
          let hd : MessageData ← if rest.isAppOfArity ``List.cons 3 then do
              let o := rest.getAppArgs[1]!
              let oa := o.getAppArgs
              pure (if o.isAppOf ``Go.Oper.mk then m!"dst {oa[0]!} op {oa[1]!} pos {oa[3]!} guard {oa[5]!}" else m!"{o}")
            else pure m!"{rest}"
          pure m!"TF: {hd}\n   s := {← slots a[7]!}\n   M := {a[8]!}"
        | some ``TC => do pure m!"TC: {← codeHead a[1]!}\n   s := {← slots a[4]!}\n   M := {a[5]!}"
        | some ``TX => do pure m!"TX: Q {a[0]!.getAppFn} .. exit {a[1]!}\n   s := {← slots a[3]!}\n   M := {a[4]!}"
        | _ => pure m!"{t}"
      logInfo m!"{k}.\n{MessageData.joinSep (hyps.toList.drop (hyps.size - 7)) "\n"}\n⊢ {tgt}"
end Go.Sl
