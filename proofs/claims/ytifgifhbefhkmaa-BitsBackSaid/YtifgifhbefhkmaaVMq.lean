/- The machine of values: regions whose order is open. No conditions. -/
import Derived.Test.YtifgifhbefhkmaaVMp
namespace Go.Proofs.Ytifgifhbefhkmaa.VM
set_option linter.unusedSimpArgs false
set_option linter.unusedVariables false
open Go Go.RowKit
noncomputable section

def putV (t : List V) (d : Option Tmp) (v : V) : List V :=
  match d with
  | some d => setn t d v
  | none => t
def wantedV (ops : List Oper) (t : List V) (o : Oper) : Bool :=
  match o.guard with
  | none => true
  | some (j, want) => match (ops[j]?).bind (·.dst) with
    | some d => match nth t d with
      | .bool b => b == want
      | _ => false
    | none => false
theorem wantedV_eq {E : Env} {t : List V} {a : Act} (ht : RelL E t a.tmps.toList) (ops : Array Oper) (o : Oper) : Region.wanted o (yielded ops a.tmps) = wantedV ops.toList t o := by
  unfold Region.wanted wantedV
  cases hg : o.guard with
  | none => rfl
  | some p =>
    obtain ⟨j, want⟩ := p
    simp only [yielded]
    have hj : ops.toList[j]? = ops[j]? := by simp
    rw [hj]
    cases hd : (ops[j]?).bind (·.dst) with
    | none => rfl
    | some d =>
      simp only [Option.bind_some]
      have hr := nth_rel ht d
      rw [nth_eq] at hr ⊢
      rw [Array.getD_eq_getD_getElem?] at hr
      cases hq : a.tmps[d]? with
      | none =>
        rw [hq] at hr
        simp only [Option.getD_none] at hr
        generalize hv : t.getD d (.tup []) = v at hr ⊢
        generalize hu : undef = u at hr
        cases hr <;> first | rfl | (unfold undef at hu; cases hu)
      | some c =>
        rw [hq] at hr
        simp only [Option.getD_some] at hr
        generalize hv : t.getD d (.tup []) = v at hr ⊢
        cases hr <;> first | rfl | (rename_i b; cases b <;> cases want <;> rfl)

/-- The values that an operation looks at decide what it does. -/
theorem evalL_congr {t t' : List V} : ∀ {xs : List Operand}, (∀ x ∈ xs, evalV t x = evalV t' x) → evalL t xs = evalL t' xs
  | [], _ => rfl
  | x :: r, h => by rw [evalL, evalL, h x (List.mem_cons_self ..), evalL_congr fun y hy => h y (List.mem_cons_of_mem _ hy)]
theorem evalParts_congr {t t' : List V} : ∀ {xs : List (Nat × Operand)}, (∀ x ∈ xs, evalV t x.2 = evalV t' x.2) → evalParts t xs = evalParts t' xs
  | [], _ => rfl
  | (i, x) :: r, h => by rw [evalParts, evalParts, h (i, x) (List.mem_cons_self ..), evalParts_congr fun y hy => h y (List.mem_cons_of_mem _ hy)]
theorem optV_congr {t t' : List V} {x : Option Operand} (h : ∀ y, x = some y → evalV t y = evalV t' y) : optV t x = optV t' x := by
  cases x with
  | none => rfl
  | some y => rw [optV, optV, h y rfl]
theorem pureOp_congr {P : Program} {t t' : List V} {o : Oper} (h : ∀ x ∈ o.op.operands, evalV t x = evalV t' x) : pureOp P t o = pureOp P t' o := by
  have h1 : ∀ x ∈ o.op.operands, ρOf t x = ρOf t' x := fun x hx => by unfold ρOf; rw [h x hx]
  have h2 : o.op.operands.toList.all (fun x => ((evalV t x).bind toVal).isSome) = o.op.operands.toList.all (fun x => ((evalV t' x).bind toVal).isSome) := by
    rw [Bool.eq_iff_iff, List.all_eq_true, List.all_eq_true]
    constructor
    · intro q x hx
      rw [← h x (by simpa using hx)]
      exact q x hx
    · intro q x hx
      rw [h x (by simpa using hx)]
      exact q x hx
  unfold pureOp
  rw [h2]
  split
  · split
    · rfl
    · rename_i hs
      rw [execOp_congr o (fun cs b e => hs cs b e) h1]
  · rfl
theorem opS_congr {P : Program} {call : CallF} {L : Heap} {base : Nat} {t t' : List V} {o : Oper} (h : ∀ x ∈ o.op.operands, evalV t x = evalV t' x) : opS P call L base t o = opS P call L base t' o := by
  have hp := pureOp_congr (P := P) h
  obtain ⟨dst, op, type, pos, after, guard⟩ := o
  cases op <;> simp only [Op.operands] at h <;> simp only [opS, hp]
  case move x => rw [h x (by simp)]
  case assign x => rw [h x (by simp)]
  case pick c x y => rw [h c (by simp), h x (by simp), h y (by simp)]
  case box ty x => rw [h x (by simp)]
  case build ty ps =>
    have := evalParts_congr (t := t) (t' := t') (xs := ps.toList) fun x hx => h x.2 (by simp; exact ⟨x.1, by simpa using hx⟩)
    simp only [buildV, this]
  case buildSlice ty n ps =>
    have := evalParts_congr (t := t) (t' := t') (xs := ps.toList) fun x hx => h x.2 (by simp; exact ⟨x.1, by simpa using hx⟩)
    simp only [buildSliceV, this]
  case load ty x => rw [h x (by simp)]
  case store ty x y => rw [h x (by simp), h y (by simp)]
  case nilCheck x => rw [h x (by simp)]
  case convert s d x => rw [h x (by simp)]
  case makeInterface ty x => rw [h x (by simp)]
  case makeFunc fn f c => rw [evalL_congr (xs := f.toList) fun x hx => h x (by simp; exact .inl (by simpa using hx)), evalL_congr (xs := c.toList) fun x hx => h x (by simp; exact .inr (by simpa using hx))]
  case makeSlice ty x y => rw [h x (by simp), h y (by simp)]
  case slice ty x lo hi mx =>
    rw [h x (by simp), optV_congr (x := lo) fun y hy => h y (by simp [hy]), optV_congr (x := hi) fun y hy => h y (by simp [hy]), optV_congr (x := mx) fun y hy => h y (by simp [hy])]
  case fieldAddr s x f => rw [h x (by simp)]
  case field s x f => rw [h x (by simp)]
  case indexAddr s x y => rw [h x (by simp), h y (by simp)]
  case index s x y => rw [h x (by simp), h y (by simp)]
  case extract x i => rw [h x (by simp)]
  case binOp op ty x y tz => simp only [nilCmp]; rw [h x (by simp), h y (by simp)]
  case call c =>
    obtain ⟨cal, args, ats⟩ := c
    have hargs : ∀ x ∈ args.toList, evalV t x = evalV t' x := fun x hx => h x (by simp [Call.operands]; exact .inr (by simpa using hx))
    cases cal with
    | builtin b =>
      simp only [builtinE, hp]
      split <;> simp_all
    | value f => simp only [resolveV, evalL_congr hargs, h f (by simp [Call.operands])]
    | invoke r m => simp only [resolveV, evalL_congr hargs, h r (by simp [Call.operands])]
/-! The same, by a shorter way for what is done most. -/
def fastBin (op : BinOp) (k l : IntKind) (a b : Int) : Option V :=
  match op with
  | .shr => if b < 0 then none else some (.int k (a.fdiv (2 ^ min b.toNat k.bits)))
  | .shl => if b < 0 then none else some (.int k (k.wrap (a * 2 ^ min b.toNat k.bits)))
  | op => if k = l then match op with
    | .add => some (.int k (k.wrap (a + b)))
    | .sub => some (.int k (k.wrap (a - b)))
    | .mul => some (.int k (k.wrap (a * b)))
    | .and => some (.int k (k.wrap (((a % 2 ^ k.bits).toNat &&& (b % 2 ^ k.bits).toNat : Nat) : Int)))
    | .or => some (.int k (k.wrap (((a % 2 ^ k.bits).toNat ||| (b % 2 ^ k.bits).toNat : Nat) : Int)))
    | .xor => some (.int k (k.wrap (((a % 2 ^ k.bits).toNat ^^^ (b % 2 ^ k.bits).toNat : Nat) : Int)))
    | .eql => some (.bool (a == b))
    | .neq => some (.bool (a != b))
    | .lss => some (.bool (decide (a < b)))
    | .leq => some (.bool (decide (a ≤ b)))
    | .gtr => some (.bool (decide (a > b)))
    | .geq => some (.bool (decide (a ≥ b)))
    | _ => none
    else none
def fastE (P : Program) (L : Heap) (t : List V) (o : Oper) : Option Eff :=
  match o.op with
  | .move x => (evalV t x).map Eff.pure
  | .assign x => (evalV t x).map Eff.pure
  | .binOp op _ x y _ => match evalV t x, evalV t y with
    | some (.int k a), some (.int l b) => (fastBin op k l a b).map Eff.pure
    | _, _ => none
  | .convert s d x => match evalV t x, P.underlying s, P.underlying d with
    | some (.int _ n), some _, some (.int k) => some (Eff.pure (.int k (k.wrap n)))
    | _, _, _ => none
  | .load ty x => match evalV t x with
    | some p => (loadV P L ty p).map Eff.pure
    | none => none
  | .indexAddr s x y => match evalV t x, evalV t y with
    | some p, some (.int _ i) => (idxAddr P L s p i).map Eff.pure
    | _, _ => none
  | .store ty x y => match evalV t x, evalV t y with
    | some p, some v => storeV P L ty p v
    | _, _ => none
  | .fieldAddr s x f => match evalV t x, fieldOff P s f with
    | some p, some (off, _) => (ptrAdd L p off).map Eff.pure
    | _, _ => none
  | _ => none
def opE (P : Program) (call : CallF) (L : Heap) (base : Nat) (t : List V) (o : Oper) : Option Eff :=
  match fastE P L t o with
  | some e => some e
  | none => opS P call L base t o
theorem fastBin_run {P : Program} {op : BinOp} {k l : IntKind} {a b : Int} {v : V} (h : fastBin op k l a b = some v) {t : List V} {o : Oper} {ty : TypeId} {x y : Operand} {z : TypeId} (ho : o.op = .binOp op ty x y z)
    (hx : evalV t x = some (.int k a)) (hy : evalV t y = some (.int l b)) : pureOp P t o = some (Eff.pure v) := by
  have h1 : o.op.operands.toList.all (fun x => ((evalV t x).bind toVal).isSome) = true := by
    rw [ho]
    simp [Op.operands, hx, hy, toVal, toAg, toSc]
  have rx : ρOf t x = .int k a := by simp [ρOf, hx, toVal, toAg, toSc]
  have ry : ρOf t y = .int l b := by simp [ρOf, hy, toVal, toAg, toSc]
  unfold pureOp
  rw [if_pos h1]
  simp only [ho]
  unfold execOp
  simp only [ho, rx, ry]
  unfold fastBin at h
  have hbv : ∀ (i : Int) (n : Nat), (BitVec.ofInt n i).toNat = (i % 2 ^ n).toNat := fun i n => by rw [BitVec.toNat_ofInt]; simp
  cases op <;> simp only [] at h
  all_goals (split at h <;> rename_i hq <;> simp only [Option.some.injEq, reduceCtorEq] at h)
  all_goals subst h
  all_goals (try subst hq)
  all_goals (simp [eqGuard, binOp, Op.shift, Op.intArith, Op.intBits, Op.intCmp, hbv]; try simp only [hq, if_false])
  all_goals rfl
theorem pureRun_bind {α β : Type} {P : Program} : ∀ (x : Sem α) (f : α → Sem β), pureRun P (x >>= f) = (pureRun P x).bind fun a => pureRun P (f a)
  | .pure a, f => rfl
  | .program k, f => pureRun_bind (k P) f
  | .mark _ k, f => pureRun_bind k f
  | .load .., f => rfl
  | .store .., f => rfl
  | .new .., f => rfl
  | .shape .., f => rfl
  | .freeze .., f => rfl
  | .frozen .., f => rfl
  | .getObj .., f => rfl
  | .setObj .., f => rfl
  | .choose .., f => rfl
  | .sys .., f => rfl
  | .halt .., f => rfl
theorem fastE_eq {P : Program} {call : CallF} {L : Heap} {base : Nat} {t : List V} {o : Oper} {e : Eff} (h : fastE P L t o = some e) : opS P call L base t o = some e := by
  unfold fastE at h
  unfold opS
  split at h <;> rename_i ho <;> (try simp only [ho]) <;> try exact h
  · rename_i op ty x y z
    split at h
    · rename_i hx hy
      obtain ⟨v, h1, rfl⟩ := map_some h
      have hn : nilCmp P L t op ty x y = none := by
        unfold nilCmp
        rw [hy]
        split <;> first | rfl | (rename_i h3; cases h3)
      rw [hn]
      exact fastBin_run h1 ho hx hy
    · cases h
  · rename_i s d x
    split at h
    · rename_i kk n ds k hx hs hd
      cases h
      have h1 : o.op.operands.toList.all (fun x => ((evalV t x).bind toVal).isSome) = true := by
        rw [ho]
        simp [Op.operands, hx, toVal, toAg, toSc]
      have rx : ρOf t x = .int kk n := by simp [ρOf, hx, toVal, toAg, toSc]
      have hp : pureOp P t o = some (Eff.pure (.int k (k.wrap n))) := by
        unfold pureOp
        rw [if_pos h1]
        simp only [ho]
        unfold execOp
        simp only [ho, rx]
        have hu : ∀ {tt : TypeId} {dd : TypeDesc}, P.underlying tt = some dd → pureRun P (underlying tt) = some dd := by
          intro tt dd hh
          show pureRun P (match P.underlying tt with | some d => pure d | none => stuck "no such type") = _
          rw [hh]; rfl
        have hcv : pureRun P (convert s d (.int kk n)) = some (.int k (k.wrap n)) := by
          unfold convert
          rw [pureRun_bind, hu hs]
          simp only [Option.bind_some]
          rw [pureRun_bind, hu hd]
          simp only [Option.bind_some]
          rfl
        rw [pureRun_bind, hcv]
        rfl
      simp only [hx, hs, hd]
      exact hp
    · cases h
  · cases h
theorem opE_eq (P : Program) (call : CallF) (L : Heap) (base : Nat) (t : List V) (o : Oper) : opE P call L base t o = opS P call L base t o := by
  unfold opE
  split
  · rename_i h; exact (fastE_eq h).symm
  · rfl
theorem opE_sound {P : Program} {E : Env} {L : Heap} {a : Act} {o : Oper} {base : Nat} {t : List V} {call : CallF} (hc : CallOK P call) (hR : HRel E) (hL : Sub L E) (ht : RelL E t a.tmps.toList) {eff : Eff}
    (h : opE P call L base t o = some eff) (hfresh : ∀ b, base ≤ b → b < base + eff.new.length → E.ρ b = none) : OpSound P E a o base eff :=
  opS_sound hc hR hL ht (by rwa [opE_eq] at h) hfresh
theorem opE_congr {P : Program} {call : CallF} {L : Heap} {base : Nat} {t t' : List V} {o : Oper} (h : ∀ x ∈ o.op.operands, evalV t x = evalV t' x) : opE P call L base t o = opE P call L base t' o := by
  rw [opE_eq, opE_eq, opS_congr h]
end
end Go.Proofs.Ytifgifhbefhkmaa.VM
