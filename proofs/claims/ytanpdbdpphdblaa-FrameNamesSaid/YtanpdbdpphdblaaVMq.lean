/- The machine of values: regions whose order is open. No conditions. -/
import Derived.Test.YtanpdbdpphdblaaVMp
namespace Go.Proofs.Ytanpdbdpphdblaa.VM
set_option linter.unusedSimpArgs false
set_option linter.unusedVariables false
open Go Go.RowKit

def putV (t : List V) (d : Option Tmp) (v : V) : List V :=
  match d with
  | some d => setn t d v
  | none => t
def wantedV (ops : List Oper) (t : List V) (o : Oper) : Bool :=
  match o.guard with
  | none => true
  | some (j, want) => match (ops[j]?).bind (·.dst) with
    | some d => match nth t d with
      | .bool b => b == want
      | _ => false
    | none => false
theorem wantedV_eq {E : Env} {t : List V} {a : Act} (ht : RelL E t a.tmps.toList) (ops : Array Oper) (o : Oper) : Region.wanted o (yielded ops a.tmps) = wantedV ops.toList t o := by
  unfold Region.wanted wantedV
  cases hg : o.guard with
  | none => rfl
  | some p =>
    obtain ⟨j, want⟩ := p
    simp only [yielded]
    have hj : ops.toList[j]? = ops[j]? := by simp
    rw [hj]
    cases hd : (ops[j]?).bind (·.dst) with
    | none => rfl
    | some d =>
      simp only [Option.bind_some]
      have hr := nth_rel ht d
      rw [nth_eq] at hr ⊢
      rw [Array.getD_eq_getD_getElem?] at hr
      cases hq : a.tmps[d]? with
      | none =>
        rw [hq] at hr
        simp only [Option.getD_none] at hr
        generalize hv : t.getD d (.tup []) = v at hr ⊢
        generalize hu : undef = u at hr
        cases hr <;> first | rfl | (unfold undef at hu; cases hu)
      | some c =>
        rw [hq] at hr
        simp only [Option.getD_some] at hr
        generalize hv : t.getD d (.tup []) = v at hr ⊢
        cases hr <;> first | rfl | (rename_i b; cases b <;> cases want <;> rfl)

/-- The values that an operation looks at decide what it does. -/
theorem evalL_congr {t t' : List V} : ∀ {xs : List Operand}, (∀ x ∈ xs, evalV t x = evalV t' x) → evalL t xs = evalL t' xs
  | [], _ => rfl
  | x :: r, h => by rw [evalL, evalL, h x (List.mem_cons_self ..), evalL_congr fun y hy => h y (List.mem_cons_of_mem _ hy)]
theorem evalParts_congr {t t' : List V} : ∀ {xs : List (Nat × Operand)}, (∀ x ∈ xs, evalV t x.2 = evalV t' x.2) → evalParts t xs = evalParts t' xs
  | [], _ => rfl
  | (i, x) :: r, h => by rw [evalParts, evalParts, h (i, x) (List.mem_cons_self ..), evalParts_congr fun y hy => h y (List.mem_cons_of_mem _ hy)]
theorem optV_congr {t t' : List V} {x : Option Operand} (h : ∀ y, x = some y → evalV t y = evalV t' y) : optV t x = optV t' x := by
  cases x with
  | none => rfl
  | some y => rw [optV, optV, h y rfl]
theorem pureOp_congr {P : Program} {t t' : List V} {o : Oper} (h : ∀ x ∈ o.op.operands, evalV t x = evalV t' x) : pureOp P t o = pureOp P t' o := by
  have h1 : ∀ x ∈ o.op.operands, ρOf t x = ρOf t' x := fun x hx => by unfold ρOf; rw [h x hx]
  have h2 : o.op.operands.toList.all (fun x => ((evalV t x).bind toVal).isSome) = o.op.operands.toList.all (fun x => ((evalV t' x).bind toVal).isSome) := by
    rw [Bool.eq_iff_iff, List.all_eq_true, List.all_eq_true]
    constructor
    · intro q x hx
      rw [← h x (by simpa using hx)]
      exact q x hx
    · intro q x hx
      rw [h x (by simpa using hx)]
      exact q x hx
  unfold pureOp
  rw [h2]
  split
  · split
    · rfl
    · rename_i hs
      rw [execOp_congr o (fun cs b e => hs cs b e) h1]
  · rfl
theorem opE_congr {P : Program} {call : CallF} {L : Heap} {base : Nat} {t t' : List V} {o : Oper} (h : ∀ x ∈ o.op.operands, evalV t x = evalV t' x) : opE P call L base t o = opE P call L base t' o := by
  have hp := pureOp_congr (P := P) h
  obtain ⟨dst, op, type, pos, after, guard⟩ := o
  cases op <;> simp only [Op.operands] at h <;> simp only [opE, hp]
  case move x => rw [h x (by simp)]
  case assign x => rw [h x (by simp)]
  case pick c x y => rw [h c (by simp), h x (by simp), h y (by simp)]
  case box ty x => rw [h x (by simp)]
  case build ty ps =>
    have := evalParts_congr (t := t) (t' := t') (xs := ps.toList) fun x hx => h x.2 (by simp; exact ⟨x.1, by simpa using hx⟩)
    simp only [buildV, this]
  case buildSlice ty n ps =>
    have := evalParts_congr (t := t) (t' := t') (xs := ps.toList) fun x hx => h x.2 (by simp; exact ⟨x.1, by simpa using hx⟩)
    simp only [buildSliceV, this]
  case load ty x => rw [h x (by simp)]
  case store ty x y => rw [h x (by simp), h y (by simp)]
  case nilCheck x => rw [h x (by simp)]
  case convert s d x => rw [h x (by simp)]
  case makeInterface ty x => rw [h x (by simp)]
  case makeFunc fn f c => rw [evalL_congr (xs := f.toList) fun x hx => h x (by simp; exact .inl (by simpa using hx)), evalL_congr (xs := c.toList) fun x hx => h x (by simp; exact .inr (by simpa using hx))]
  case makeSlice ty x y => rw [h x (by simp), h y (by simp)]
  case slice ty x lo hi mx =>
    rw [h x (by simp), optV_congr (x := lo) fun y hy => h y (by simp [hy]), optV_congr (x := hi) fun y hy => h y (by simp [hy]), optV_congr (x := mx) fun y hy => h y (by simp [hy])]
  case fieldAddr s x f => rw [h x (by simp)]
  case field s x f => rw [h x (by simp)]
  case indexAddr s x y => rw [h x (by simp), h y (by simp)]
  case index s x y => rw [h x (by simp), h y (by simp)]
  case extract x i => rw [h x (by simp)]
  case binOp op ty x y tz => simp only [nilCmp]; rw [h x (by simp), h y (by simp)]
  case call c =>
    obtain ⟨cal, args, ats⟩ := c
    have hargs : ∀ x ∈ args.toList, evalV t x = evalV t' x := fun x hx => h x (by simp [Call.operands]; exact .inr (by simpa using hx))
    cases cal with
    | builtin b =>
      simp only [builtinE, hp]
      split <;> simp_all
    | value f => simp only [resolveV, evalL_congr hargs, h f (by simp [Call.operands])]
    | invoke r m => simp only [resolveV, evalL_congr hargs, h r (by simp [Call.operands])]
end Go.Proofs.Ytanpdbdpphdblaa.VM
