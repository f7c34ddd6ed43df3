/- The machine of values: what a call leaves, and the machine itself. No conditions. -/
import Derived.Test.YtifgifhbefhkmaaVMv
namespace Go.Proofs.Ytifgifhbefhkmaa.VM
set_option linter.unusedSimpArgs false
set_option linter.unusedVariables false
open Go Go.RowKit
noncomputable section

/-! Results. -/
def resV (P : Program) (t : List V) (H : Heap) : ResultVar → Option V
  | .tmp i => some (nth t i)
  | .cell a ty => loadV P H ty (nth t a)
def resultsV (P : Program) (fn : Func) (t : List V) (H : Heap) : Option V :=
  match mapO (resV P t H) fn.results.toList with
  | some [v] => some v
  | some vs => some (.tup vs)
  | none => none

/-- What a call on its own hands back: values without blocks. -/
def exportI (H : Heap) (v : V) : Option (V × List Blk) :=
  match reify H true 60 v with
  | some (v', _) => some (v', [])
  | none => none

/-! Results whose rows may be written on: their blocks go along. -/
def topIds : V → List (Nat × Nat × Nat × Nat)
  | .slB b off ver n => [(b, off, ver, n)]
  | .agg cs => cs.filterMap fun | .slB b off ver n => some (b, off, ver, n) | _ => none
  | _ => []
def allIds : V → List (Nat × Nat × Nat × Nat)
  | .tup vs => vs.flatMap topIds
  | v => topIds v
def idxN : List Nat → Nat → Nat → Option Nat
  | [], _, _ => none
  | a :: r, b, j => if a = b then some j else idxN r b (j + 1)
def expC (L : Heap) (ids : List Nat) (base : Nat) : V → Option V
  | .slB b _ _ n => (idxN ids b 0).map fun j => .slB (base + j) 0 0 n
  | v => (reify L true 60 v).map (·.1)
def expT (L : Heap) (ids : List Nat) (base : Nat) : V → Option V
  | .agg cs => (mapO (expC L ids base) cs).map .agg
  | v => expC L ids base v
def expV (L : Heap) (ids : List Nat) (base : Nat) : V → Option V
  | .tup vs => (mapO (expT L ids base) vs).map .tup
  | v => expT L ids base v
def expB (H L : Heap) : Nat × Nat × Nat × Nat → Option Blk
  | (b, off, ver, n) => match hget H b with
    | some blk => if blk.ver = ver ∧ blk.fz = false ∧ off + n * blk.k ≤ blk.cells.length then
        match mapRL (reify L true 60) ((blk.cells.drop off).take (n * blk.k)) with
        | some (cs, _) => some ⟨cs, blk.k, 0, false⟩
        | none => none else none
    | none => none
def nodupB : List Nat → Bool
  | [] => true
  | a :: r => !r.contains a && nodupB r
def exportT (H : Heap) (base : Nat) (v : V) : Option (V × List Blk) :=
  let qs := allIds v
  let ids := qs.map (·.1)
  if nodupB ids = true then
    let L := hrem H ids
    match expV L ids base v, mapO (expB H L) qs with
    | some v', some blks => some (v', blks)
    | _, _ => none
  else none

structure St where
  t : List V
  H : Heap
  nx : Nat
inductive Ex where
  | normal | exit (id : Nat) | ret
abbrev ExecF := Code → St → Option (Ex × St)

def bodyOf (P : Program) (f : FuncId) : Option (Func × Code) :=
  match P.funcs[f]? with
  | some fn => match fn.body with
    | some c => some (fn, c)
    | none => none
  | none => none
def frame (fn : Func) (vs : List V) : List V := vs ++ List.replicate (fn.ntmps - vs.length) (.tup [])
def callI (P : Program) (cf : Cfg) (ih : ExecF) : CallF := fun f base vs =>
  match cf.ext f with
  | some g => g base vs
  | none => match bodyOf P f with
    | some (fn, c) => match ih c ⟨frame fn vs, [], 0⟩ with
      | some (.exit _, _) => none
      | some (_, st) => match resultsV P fn st.t st.H with
        | some v => if cf.thaw f then exportT st.H base v else exportI st.H v
        | none => none
      | none => none
    | none => none
def callS (P : Program) (ih : ExecF) : ShareF := fun f vs H nx =>
  match bodyOf P f with
  | some (fn, c) => match ih c ⟨frame fn vs, H, nx⟩ with
    | some (.exit _, _) => none
    | some (_, st) => match resultsV P fn st.t st.H with
      | some v => some (v, st.H, st.nx)
      | none => none
    | none => none
  | none => none
def stepOp (P : Program) (cf : Cfg) (call : CallF) (sh : ShareF) (ops : List Oper) (st : St) (o : Oper) : Option St :=
  if wantedV ops st.t o then
    match sharedV P cf st.t o with
    | some (f, vs) => match sh f vs st.H st.nx with
      | some (v, H', nx') => some ⟨putV st.t o.dst v, H', nx'⟩
      | none => none
    | none => match opE P call st.H st.nx st.t o with
      | some eff => some ⟨putV st.t o.dst eff.v, applyL st.H st.nx eff, st.nx + eff.new.length⟩
      | none => none
  else some ⟨putV st.t o.dst (.tup []), st.H, st.nx⟩
def bindO {α β : Type} (x : Option α) (f : α → Option β) : Option β :=
  match x with
  | some a => f a
  | none => none
def runSeq (P : Program) (cf : Cfg) (call : CallF) (sh : ShareF) (ops l : List Oper) (st : St) : Option St :=
  List.rec (motive := fun _ => St → Option St) some (fun o _ ih st => bindO (stepOp P cf call sh ops st o) ih) l st
theorem runSeq_cons (P : Program) (cf : Cfg) (call : CallF) (sh : ShareF) (ops : List Oper) (o : Oper) (r : List Oper) (st : St) : runSeq P cf call sh ops (o :: r) st = (match stepOp P cf call sh ops st o with
    | some st' => runSeq P cf call sh ops r st'
    | none => none) := by
  show bindO (stepOp P cf call sh ops st o) (runSeq P cf call sh ops r) = _
  unfold bindO
  cases stepOp P cf call sh ops st o <;> rfl
/-- On, if it went through. -/
def onward (r : Option (Ex × St)) (f : St → Option (Ex × St)) : Option (Ex × St) :=
  match r with
  | some (.normal, st') => f st'
  | r => r
def iterN (f : St → Option (Ex × St)) (n : Nat) (st : St) : Option (Ex × St) :=
  Nat.rec (motive := fun _ => St → Option (Ex × St)) (fun _ => none) (fun _ ih st => onward (f st) ih) n st
def execRegion (P : Program) (cf : Cfg) (ih : ExecF) (ops : Array Oper) (draw : Bool) (st : St) : Option (Ex × St) :=
  if draw then match runDraw P cf (callI P cf ih) (callS P ih) ops.toList st.t st.H st.nx with
    | some (t, H, nx) => some (.normal, ⟨t, H, nx⟩)
    | none => none
  else match runSeq P cf (callI P cf ih) (callS P ih) ops.toList ops.toList st with
    | some st' => some (.normal, st')
    | none => none
def execCond (ih : ExecF) (c : Operand) (x y : Code) (st : St) : Option (Ex × St) :=
  match evalV st.t c with
  | some (.bool b) => ih (if b then x else y) st
  | _ => none
def execBlock (ih : ExecF) (id : Nat) (body : Code) (st : St) : Option (Ex × St) :=
  match ih body st with
  | some (.exit id', st') => if id' = id then some (.normal, st') else some (.exit id', st')
  | r => r
def execStep (P : Program) (cf : Cfg) (n : Nat) (ih : ExecF) : ExecF := fun c st =>
  match c with
  | .skip => some (.normal, st)
  | .label _ => some (.normal, st)
  | .region _ ops draw => execRegion P cf ih ops draw st
  | .seq x y => onward (ih x st) (ih y)
  | .cond c x y => execCond ih c x y st
  | .block id body => execBlock ih id body st
  | .loop body => iterN (ih body) n st
  | .scope body => ih body st
  | .exit id => some (.exit id, st)
  | .ret => some (.ret, st)
  | _ => none
def exec (P : Program) (cf : Cfg) : Nat → ExecF := fun n => Nat.rec (fun _ _ => none) (fun n ih => execStep P cf n ih) n
/-- A call on its own. -/
def vcall (P : Program) (cf : Cfg) (n : Nat) : CallF := callI P cf (exec P cf n)
end
end Go.Proofs.Ytifgifhbefhkmaa.VM
