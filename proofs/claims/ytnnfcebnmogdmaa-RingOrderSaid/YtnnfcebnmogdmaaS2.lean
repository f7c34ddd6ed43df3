/- Values with labels: structs that are compared. No conditions. -/
import Derived.Test.YtnnfcebnmogdmaaS1
import Derived.ChangeArms
import Derived.DataReads
import Derived.WideShapes
/- Values with labels: structs that are compared. No conditions. -/
namespace Go.Proofs.Ytnnfcebnmogdmaa.VM
set_option linter.unusedSimpArgs false
set_option linter.unusedVariables false
open Go Go.RowKit
noncomputable section
section
variable {P : Program} {ε : Nat → Option BE}

theorem SB.and_holds (a b : SB) : (a.and b).holds ↔ a.holds ∧ b.holds := by
  cases a with
  | lit a => cases a <;> simp [SB.and, SB.holds]
  | sym p => cases b with
    | lit b => cases b <;> simp [SB.and, SB.holds]
    | sym q => simp [SB.and, SB.holds]
theorem SB.same_holds (a b : SB) : (a.same b).holds ↔ (a.holds ↔ b.holds) := by
  cases a with
  | lit a => cases b with
    | lit b => cases a <;> cases b <;> simp [SB.same, SB.holds]
    | sym q => simp [SB.same, SB.holds]
  | sym p => simp [SB.same, SB.holds]
/-- A scalar with a label, and the model's value. -/
def CS (s : SV) (c : Value) : Prop := ∃ v, RV ε s v ∧ isSc s = true ∧ toSc v = some c
inductive CL : List SV → List Value → Prop
  | nil : CL [] []
  | cons {s : SV} {c : Value} {l : List SV} {cs : List Value} : CS (ε := ε) s c → CL l cs → CL (s :: l) (c :: cs)
theorem CL.length {l : List SV} {cs : List Value} (h : CL (ε := ε) l cs) : l.length = cs.length := by
  induction h with
  | nil => rfl
  | cons _ _ ih => simp [ih]
theorem CL.drop {l : List SV} {cs : List Value} (h : CL (ε := ε) l cs) : ∀ n, CL (ε := ε) (l.drop n) (cs.drop n) := by
  induction h with
  | nil => intro n; simp; exact .nil
  | cons a b ih => intro n; cases n with
    | zero => exact .cons a b
    | succ n => exact ih n
theorem CL.take {l : List SV} {cs : List Value} (h : CL (ε := ε) l cs) : ∀ n, CL (ε := ε) (l.take n) (cs.take n) := by
  induction h with
  | nil => intro n; simp; exact .nil
  | cons a b ih => intro n; cases n with
    | zero => exact .nil
    | succ n => exact .cons a (ih n)
theorem sc_of {s : SV} {v : V} (r : RV ε s v) (h : isSc s = true) : ∃ c, toSc v = some c := by
  cases r <;> first | exact ⟨_, rfl⟩ | cases h
theorem allSc_of : ∀ {l : List SV} {vs : List V}, RL ε l vs → allSc l = true → ∃ cs, mapO toSc vs = some cs ∧ CL (ε := ε) l cs
  | _, _, .nil, _ => ⟨[], rfl, .nil⟩
  | s :: l, _, .cons r q, h => by
    have h' : (bif isSc s then allSc l else false) = true := h
    cases hs : isSc s with
    | false => rw [hs] at h'; cases h'
    | true =>
      rw [hs] at h'
      obtain ⟨c, hc⟩ := sc_of r hs
      obtain ⟨cs, h1, h2⟩ := allSc_of q h'
      exact ⟨c :: cs, by simp [mapO, hc, h1], .cons ⟨_, r, hs, hc⟩ h2⟩
/-- A value of a type: scalar, or cells. -/
def CV (s : SV) (c : Value) : Prop := CS (ε := ε) s c ∨ ∃ l cs, s = .agg l ∧ c = .agg cs.toArray ∧ CL (ε := ε) l cs
theorem pr_underlying {t : TypeId} {d : TypeDesc} (h : P.underlying t = some d) : pureRun P (underlying t) = some d := by
  show pureRun P (match P.underlying t with | some d => pure d | none => stuck "no such type") = _
  rw [h]; rfl
theorem pr_pure {α : Type} (a : α) : pureRun P (pure a) = some a := rfl
theorem pr_program : pureRun P program = some P := rfl
theorem part_of {t : TypeId} {l : List SV} {cs : List Value} (h : CL (ε := ε) l cs) {off : Nat} {s : SV} (hp : partO P t l off = some s) : ∃ c, pureRun P (part t cs.toArray off) = some c ∧ CV (ε := ε) s c := by
  unfold partO at hp
  cases hz : tySz P t with
  | none => rw [hz] at hp; cases hp
  | some q =>
    obtain ⟨g, n⟩ := q
    rw [hz] at hp
    have hz' := hz
    unfold tySz at hz
    cases h1 : P.underlying t with
    | none => rw [h1] at hz; cases hz
    | some d =>
      cases h2 : P.info? t with
      | none => rw [h1, h2] at hz; cases hz
      | some i =>
        rw [h1, h2] at hz
        simp only [Option.some.injEq, Prod.mk.injEq] at hz
        have hagg : pureRun P (isAgg t) = some g := by
          unfold isAgg
          rw [pureRun_bind, pr_underlying h1]
          rw [← hz.1]
          cases d <;> rfl
        have hsz : pureRun P (sizeOf t) = some n := by
          unfold sizeOf
          rw [pureRun_bind]
          have : pureRun P (typeInfo t) = some i := by
            unfold typeInfo
            rw [pureRun_bind, pr_program]
            simp only [Option.bind_some, h2]
            rfl
          rw [this]
          simp only [Option.bind_some]
          rw [pr_pure, hz.2]
        unfold part
        rw [pureRun_bind, hagg]
        simp only [Option.bind_some]
        cases g with
        | true =>
          simp only at hp
          cases hp
          simp only [if_true]
          rw [pureRun_bind, hsz]
          refine ⟨_, rfl, .inr ⟨_, (cs.drop off).take n, rfl, ?_, ?_⟩⟩
          · simp only [Value.agg.injEq]
            apply Array.ext'
            simp
          · rw [stake_eq, sdrop_eq]
            exact (h.drop off).take n
        | false =>
          simp only [Bool.false_eq_true, if_false]
          simp only at hp
          rw [sdrop_eq] at hp
          have hd := h.drop off
          cases hq : l.drop off with
          | nil => rw [hq] at hp; cases hp
          | cons v r =>
            rw [hq] at hp hd
            cases hp
            cases hq2 : cs.drop off with
            | nil => rw [hq2] at hd; cases hd
            | cons c r2 =>
              rw [hq2] at hd
              cases hd with
              | cons a b =>
                have := congrArg (·[0]?) hq2
                simp only [List.getElem?_drop, Nat.add_zero, List.getElem?_cons_zero] at this
                refine ⟨c, ?_, .inl a⟩
                have h3 : cs.toArray[off]? = some c := by simpa using this
                rw [h3]
                rfl
theorem pr_for (g : Field → Sem Bool) (r : Field → Bool) : ∀ (l : List Field), (∀ f ∈ l, f.name ≠ "_" → pureRun P (g f) = some (r f)) →
    pureRun P (forIn l ((none, ()) : Option Bool × Unit) fun f _ => if f.name ≠ "_" then do
        let b ← g f
        if (!b) = true then pure (ForInStep.done (some false, ())) else pure (ForInStep.yield (none, ()))
      else pure (ForInStep.yield (none, ()))) = some (if l.all (fun f => f.name == "_" || r f) = true then (none, ()) else (some false, ()))
  | [], _ => rfl
  | f :: l, h => by
    have ih := pr_for g r l fun x hx => h x (List.mem_cons_of_mem _ hx)
    rw [List.forIn_cons, pureRun_bind]
    by_cases hn : f.name ≠ "_"
    · rw [if_pos hn, pureRun_bind, h f (List.mem_cons_self ..) hn]
      simp only [Option.bind_some]
      cases hr : r f with
      | true =>
        simp only [Bool.not_true, Bool.false_eq_true, if_false, pr_pure, Option.bind_some]
        rw [ih]
        simp [hr]
      | false =>
        simp only [Bool.not_false, if_true, pr_pure, Option.bind_some]
        simp [hr, hn]
    · rw [if_neg hn]
      simp only [pr_pure, Option.bind_some]
      rw [ih]
      simp only [ne_eq, Decidable.not_not] at hn
      simp [hn]
theorem eqS_of : ∀ (d D : Nat) (t : TypeId) (x y : SV) (cx cy : Value) (s : SB), d ≤ D → eqS P d t x y = some s → CV (ε := ε) x cx → CV (ε := ε) y cy → ∃ b, pureRun P (Op.equalIn D t cx cy) = some b ∧ (b = true ↔ s.holds)
  | 0, _, _, _, _, _, _, _, _, h, _, _ => by cases h
  | d + 1, 0, _, _, _, _, _, _, hle, _, _, _ => by omega
  | d + 1, D + 1, t, x, y, cx, cy, s, hle, h, hx, hy => by
    unfold eqS at h
    rw [Op.equalIn]
    split at h
    · rename_i a b hu
      cases h
      rw [pureRun_bind, pr_underlying hu]
      rcases hx with ⟨v, r, _, hv⟩ | ⟨l, cs, q, _⟩
      · rcases hy with ⟨w, r2, _, hw⟩ | ⟨l, cs, q, _⟩
        · cases r with
          | bool _ p hp => cases r2 with
            | bool _ q hq =>
              cases hv
              cases hw
              refine ⟨p == q, rfl, ?_⟩
              rw [SB.same_holds, ← hp, ← hq]
              cases p <;> cases q <;> simp
        · cases q
      · cases q
    · rename_i k a l b hu
      split at h
      · rename_i hk
        subst hk
        cases h
        rw [pureRun_bind, pr_underlying hu]
        rcases hx with ⟨v, r, _, hv⟩ | ⟨l, cs, q, _⟩
        · rcases hy with ⟨w, r2, _, hw⟩ | ⟨l, cs, q, _⟩
          · cases r with
            | int _ _ p hp => cases r2 with
              | int _ _ q hq =>
                cases hv
                cases hw
                subst hp hq
                simp only [Option.bind_some]
                refine ⟨a.val == b.val, ?_, ?_⟩
                · rw [if_pos trivial]; rfl
                · rw [SI.eq_holds]; simp
          · cases q
        · cases q
      · cases h
    · rename_i fs xs ys hu
      cases hc : allSc xs && allSc ys && !P.stoodInHeld t with
      | false => rw [hc] at h; cases h
      | true =>
        rw [hc] at h
        simp only [cond_true] at h
        obtain ⟨_, hst⟩ := andT hc
        have hst : P.stoodInHeld t = false := by simpa using hst
        rcases hx with ⟨v, r, q, hv⟩ | ⟨l1, cs1, q1, rfl, hl1⟩
        · cases q
        · rcases hy with ⟨v, r, q, hv⟩ | ⟨l2, cs2, q2, rfl, hl2⟩
          · cases q
          · cases q1
            cases q2
            rw [pureRun_bind, pr_underlying hu]
            simp only [Option.bind_some]
            rw [pureRun_bind, pr_program]
            simp only [Option.bind_some, hst, Bool.false_eq_true, if_false]
            -- the fields, one by one
            let g : Field → Sem Bool := fun f => do
                let a ← part f.type cs1.toArray f.offset
                let b ← part f.type cs2.toArray f.offset
                Op.equalIn D f.type a b
            let r : Field → Bool := fun f => (pureRun P (g f)).getD false
            have fields : ∀ (l : List Field) (s : SB), eqF (eqS P d) P xs ys l = some s → (∀ f ∈ l, f.name ≠ "_" → pureRun P (g f) = some (r f)) ∧ ((l.all fun f => f.name == "_" || r f) = true ↔ s.holds) := by
              intro l
              induction l with
              | nil => intro s hs; cases hs; exact ⟨fun f hf => (by cases hf), by simp [SB.holds]⟩
              | cons f l ih =>
                intro s hs
                unfold eqF at hs
                by_cases hn : f.name ≠ "_"
                · rw [if_pos hn] at hs
                  cases ha : partO P f.type xs f.offset with
                  | none => rw [ha] at hs; cases hs
                  | some a =>
                    cases hb : partO P f.type ys f.offset with
                    | none => rw [ha, hb] at hs; cases hs
                    | some b =>
                      rw [ha, hb] at hs
                      simp only at hs
                      cases he : eqS P d f.type a b with
                      | none => rw [he] at hs; cases hs
                      | some p =>
                        cases hr : eqF (eqS P d) P xs ys l with
                        | none => rw [he, hr] at hs; cases hs
                        | some q =>
                          rw [he, hr] at hs
                          cases hs
                          obtain ⟨ih1, ih2⟩ := ih q hr
                          obtain ⟨c1, k1, k2⟩ := part_of hl1 ha
                          obtain ⟨c2, k3, k4⟩ := part_of hl2 hb
                          obtain ⟨z, k5, k6⟩ := eqS_of d D f.type a b c1 c2 p (by omega) he k2 k4
                          have hg : pureRun P (g f) = some z := by
                            show pureRun P (do
                              let a ← part f.type cs1.toArray f.offset
                              let b ← part f.type cs2.toArray f.offset
                              Op.equalIn D f.type a b) = some z
                            rw [pureRun_bind, k1]
                            simp only [Option.bind_some]
                            rw [pureRun_bind, k3]
                            simp only [Option.bind_some]
                            exact k5
                          have hrz : r f = z := by show (pureRun P (g f)).getD false = z; rw [hg]; rfl
                          refine ⟨fun x hx hxn => ?_, ?_⟩
                          · rcases List.mem_cons.1 hx with rfl | hx
                            · rw [hg, hrz]
                            · exact ih1 x hx hxn
                          · rw [SB.and_holds, ← ih2, ← k6, List.all_cons, Bool.and_eq_true, hrz]
                            have : (f.name == "_") = false := by simpa using hn
                            rw [this, Bool.false_or]
                · rw [if_neg hn] at hs
                  obtain ⟨ih1, ih2⟩ := ih s hs
                  refine ⟨fun x hx hxn => ?_, ?_⟩
                  · rcases List.mem_cons.1 hx with rfl | hx
                    · exact absurd hxn hn
                    · exact ih1 x hx hxn
                  · simp only [ne_eq, Decidable.not_not] at hn
                    rw [← ih2, List.all_cons, hn]
                    simp
            obtain ⟨f1, f2⟩ := fields fs.toList s h
            have hfor := pr_for (P := P) g r fs.toList f1
            refine ⟨fs.toList.all (fun f => f.name == "_" || r f), ?_, f2⟩
            rw [pureRun_bind, ← Array.forIn_toList]
            have hbody : ∀ (f : Field) (u : Option Bool × Unit), (if f.name ≠ "_" then do
                  let a ← part f.type cs1.toArray f.offset
                  let b ← part f.type cs2.toArray f.offset
                  let c ← Op.equalIn D f.type a b
                  if (!c) = true then pure (ForInStep.done (some false, ())) else pure (ForInStep.yield (none, ()))
                else pure (ForInStep.yield (none, ())) : Sem (ForInStep (Option Bool × Unit))) = (if f.name ≠ "_" then do
                  let b ← g f
                  if (!b) = true then pure (ForInStep.done (some false, ())) else pure (ForInStep.yield (none, ()))
                else pure (ForInStep.yield (none, ()))) := by
              intro f u
              split
              · show _ = (do
                    let a ← part f.type cs1.toArray f.offset
                    let b ← part f.type cs2.toArray f.offset
                    Op.equalIn D f.type a b) >>= _
                simp only [bind_assoc]
              · rfl
            have hfor' : pureRun P (forIn fs.toList ((none, ()) : Option Bool × Unit) (fun f _ => if f.name ≠ "_" then do
                  let a ← part f.type cs1.toArray f.offset
                  let b ← part f.type cs2.toArray f.offset
                  let c ← Op.equalIn D f.type a b
                  if (!c) = true then pure (ForInStep.done (some false, ())) else pure (ForInStep.yield (none, ()))
                else pure (ForInStep.yield (none, ())))) = some (if fs.toList.all (fun f => f.name == "_" || r f) = true then (none, ()) else (some false, ())) := by
              rw [← hfor]
              congr 1
              congr 1
              funext f u
              exact hbody f u
            refine (congrArg (fun z => Option.bind z _) hfor').trans ?_
            simp only [Option.bind_some]
            cases hall : fs.toList.all (fun f => f.name == "_" || r f) with
            | true => rfl
            | false => rfl
    · cases h
theorem aggEq_run {op : BinOp} {ty tz : TypeId} {x y : Operand} {o : Oper} {tv : List V} {xs ys : List SV} {vx vy : List V} {s : SB} (hg : P.eqGuardType P.depth ty = false) (hs : eqS P 9 ty (.agg xs) (.agg ys) = some s) (hx : RL ε xs vx) (hy : RL ε ys vy) (ax : allSc xs = true) (ay : allSc ys = true)
    (ho : o.op = .binOp op ty x y tz) (ex : evalV tv x = some (.agg vx)) (ey : evalV tv y = some (.agg vy)) : ∃ c : Bool, (c = true ↔ s.holds) ∧ (op = .eql → pureOp P tv o = some (Eff.pure (.bool c))) ∧ (op = .neq → pureOp P tv o = some (Eff.pure (.bool !c))) := by
  obtain ⟨cx, h1, h2⟩ := allSc_of hx ax
  obtain ⟨cy, h3, h4⟩ := allSc_of hy ay
  obtain ⟨c, h5, h6⟩ := eqS_of (P := P) 9 (9999 + 1) ty (.agg xs) (.agg ys) (.agg cx.toArray) (.agg cy.toArray) s (by omega) hs (.inr ⟨_, _, rfl, rfl, h2⟩) (.inr ⟨_, _, rfl, rfl, h4⟩)
  have hall : o.op.operands.toList.all (fun x => ((evalV tv x).bind toVal).isSome) = true := by
    rw [ho]
    simp [Op.operands, ex, ey, toVal, toAg, h1, h3]
  have rx : ρOf tv x = .agg cx.toArray := by simp [ρOf, ex, toVal, toAg, h1]
  have ry : ρOf tv y = .agg cy.toArray := by simp [ρOf, ey, toVal, toAg, h3]
  have heq : pureRun P (Op.equal ty (.agg cx.toArray) (.agg cy.toArray)) = some c := h5
  have hgd : ∀ op, op = .eql ∨ op = .neq → pureRun P (eqGuard op ty x y (.agg cx.toArray) (.agg cy.toArray)) = some () := by
    intro op hop
    have e1 : eqGuard op ty x y (.agg cx.toArray) (.agg cy.toArray) = (do
        if !(← program).eqGuardType (← program).depth ty then return
        if ← Op.eqGuardIn Op.maxDepth ty (.agg cx.toArray) (.agg cy.toArray) then unsupported (.noEntry "binop/eql: two nil values of an interface type with methods, in a part of a struct or an array")) := by
      rcases hop with rfl | rfl <;> rfl
    rw [e1, pureRun_bind, pr_program]
    simp only [Option.bind_some]
    rw [pureRun_bind, pr_program]
    simp only [Option.bind_some]
    rw [if_pos (by rw [hg]; rfl)]
    rfl
  have run : ∀ (f : Bool → Value), pureRun P (do pure (f (← Op.equal ty (.agg cx.toArray) (.agg cy.toArray)))) = some (f c) := by
    intro f
    rw [pureRun_bind, heq]
    rfl
  refine ⟨c, h6, fun q => ?_, fun q => ?_⟩
  · subst q
    unfold pureOp
    rw [if_pos hall]
    simp only [ho]
    unfold execOp
    simp only [ho, rx, ry]
    rw [pureRun_bind, pureRun_bind, hgd _ (.inl rfl)]
    simp only [Option.bind_some]
    rw [show binOp .eql ty (.agg cx.toArray) (.agg cy.toArray) = (do pure (.bool (← Op.equal ty (.agg cx.toArray) (.agg cy.toArray)))) from rfl, run fun b => .bool b]
    rfl
  · subst q
    unfold pureOp
    rw [if_pos hall]
    simp only [ho]
    unfold execOp
    simp only [ho, rx, ry]
    rw [pureRun_bind, pureRun_bind, hgd _ (.inr rfl)]
    simp only [Option.bind_some]
    rw [show binOp .neq ty (.agg cx.toArray) (.agg cy.toArray) = (do pure (.bool (!(← Op.equal ty (.agg cx.toArray) (.agg cy.toArray))))) from rfl, run fun b => .bool (!b)]
    rfl
end
end
end Go.Proofs.Ytnnfcebnmogdmaa.VM
/- Values with labels: every operation tells what is carried out. No conditions. -/
namespace Go.Proofs.Ytnnfcebnmogdmaa.VM
set_option linter.unusedSimpArgs false
set_option linter.unusedVariables false
open Go Go.RowKit
noncomputable section
section
variable {P : Program} {ε : Nat → Option BE} {H : SHeap} {L : Heap} {t : List SV} {tv : List V} {base vbase : Nat} {cx : SCfg}

theorem not_run {a : Bool} {t : List V} {o : Oper} {ty : TypeId} {x : Operand} (ho : o.op = .unOp .not ty x) (hx : evalV t x = some (.bool a)) : pureOp P t o = some (Eff.pure (.bool !a)) := by
  have h1 : o.op.operands.toList.all (fun x => ((evalV t x).bind toVal).isSome) = true := by
    rw [ho]
    simp [Op.operands, hx, toVal, toAg, toSc]
  have rx : ρOf t x = .bool a := by simp [ρOf, hx, toVal, toAg, toSc]
  unfold pureOp
  rw [if_pos h1]
  simp only [ho]
  unfold execOp
  simp only [ho, rx]
  rfl
theorem compl_run {k : IntKind} {n : Int} {t : List V} {o : Oper} {ty : TypeId} {x : Operand} (ho : o.op = .unOp .xor ty x) (hx : evalV t x = some (.int k n)) : pureOp P t o = some (Eff.pure (.int k (complI k n))) := by
  have h1 : o.op.operands.toList.all (fun x => ((evalV t x).bind toVal).isSome) = true := by
    rw [ho]
    simp [Op.operands, hx, toVal, toAg, toSc]
  have rx : ρOf t x = .int k n := by simp [ρOf, hx, toVal, toAg, toSc]
  unfold pureOp
  rw [if_pos h1]
  simp only [ho]
  unfold execOp
  simp only [ho, rx]
  rfl
theorem boolTy_of {ty : TypeId} (h : boolTy P ty = true) : P.underlying ty = some .bool := by
  unfold boolTy at h
  split at h
  · assumption
  · cases h
theorem nilCmp_none {op : BinOp} {ty : TypeId} {x y : Operand} {v : V} (hy : evalV tv y = some v) (hn : v ≠ .nilSl) : nilCmp P L tv op ty x y = none := by
  unfold nilCmp
  rw [hy]
  split
  · rename_i h; cases h; exact absurd rfl hn
  · rfl
/-- The statement of an operation. -/
def OpR (P : Program) (C : Nat → CallF) (ε : Nat → Option BE) (H : SHeap) (L : Heap) (tv : List V) (base vbase : Nat) (o : Oper) (K : SEff → Prop) : Prop :=
  ∃ se e ε', K se ∧ (∃ N, ∀ n, N ≤ n → opS P (C n) L vbase tv o = some e) ∧ ER ε ε' H L base vbase se e
theorem OpR.val {C : Nat → CallF} {o : Oper} {K : SEff → Prop} {s : SV} {v : V} (hK : K (SEff.pure s)) (h : ∀ call, opS P call L vbase tv o = some (Eff.pure v)) (r : RV ε s v) : OpR P C ε H L tv base vbase o K :=
  ⟨_, _, _, hK, ⟨0, fun n _ => h _⟩, ER.pure r⟩

theorem pureOpR {C : Nat → CallF} {o : Oper} {K : SEff → Prop} (ht : RL ε t tv) (h : pureS P t o K) (hp : ∀ call e, pureOp P tv o = some e → opS P call L vbase tv o = some e) : OpR P C ε H L tv base vbase o K := by
  obtain ⟨s, v, h1, h2, h3⟩ := pureS_of (call := C 0) ht h
  exact OpR.val h1 (fun call => hp call _ h2) h3
theorem binOpS_of {C : Nat → CallF} {o : Oper} {op : BinOp} {ty tz : TypeId} {x y : Operand} {K : SEff → Prop} (ht : RL ε t tv) (ho : o.op = .binOp op ty x y tz) {a b : SV} (ha : evalS t x = some a) (hb : evalS t y = some b) (h : binOpS P t o op ty a b K) : OpR P C ε H L tv base vbase o K := by
  obtain ⟨va, ea, ra⟩ := evalS_rel ht ha
  obtain ⟨vb, eb, rb⟩ := evalS_rel ht hb
  have hop : ∀ (call : CallF) (v : V), pureOp P tv o = some (Eff.pure v) → vb ≠ .nilSl → opS P call L vbase tv o = some (Eff.pure v) := by
    intro call v hv hn
    simp only [opS, ho]
    rw [nilCmp_none eb hn]
    exact hv
  have pure' : pureS P t o K → OpR P C ε H L tv base vbase o K := by
    intro hp
    obtain ⟨s, v, h1, h2, h3⟩ := pureS_of (call := C 0) ht hp
    refine OpR.val h1 (fun call => ?_) h3
    simp only [opS, ho]
    have hn : nilCmp P L tv op ty x y = none := by
      -- what is written out is no row of its own
      unfold nilCmp
      split
      · rename_i v hu hv1 hv2
        have hl : v = .nilSl ∨ nilV L v = none := by
          have hall : o.op.operands.toList.all (fun x => ((evalS t x).bind (toV 9)).isSome) = true := by
            unfold pureS at hp
            exact (bif_of hp).1
          have := List.all_eq_true.1 hall x (by rw [ho]; simp [Op.operands])
          rw [ha] at this
          simp only [Option.bind_some] at this
          obtain ⟨w, hw⟩ := Option.isSome_iff_exists.1 this
          have e1 := toV_eq 9 hw ra
          rw [ea] at hv1
          cases hv1
          subst e1
          have hshape : ∀ (n : Nat) (s : SV) (w : V), toV n s = some w → w = .nilSl ∨ nilV L w = none := by
            intro n s w hq
            cases n with
            | zero => cases hq
            | succ n =>
              cases s <;> simp only [toV] at hq <;> try (cases hq; done)
              case int k i => cases i <;> cases hq; exact .inr rfl
              case bool b => cases b <;> cases hq; exact .inr rfl
              case str => cases hq; exact .inr rfl
              case agg cs => obtain ⟨r, _, rfl⟩ := map_some hq; exact .inr rfl
              case iface t v => obtain ⟨r, _, rfl⟩ := map_some hq; exact .inr rfl
              all_goals (cases hq; first | exact .inl rfl | exact .inr rfl)
          exact hshape _ _ _ hw
        rcases hl with rfl | hl
        · simp [nilV]
        · rw [hl]
      · rfl
    rw [hn]
    exact h2
  cases a <;> cases b <;> simp only [binOpS] at h <;> try exact pure' h
  case int.int k a l b =>
    cases ra with
    | int _ _ m hm =>
      cases rb with
      | int _ _ m' hm' =>
        subst hm hm'
        obtain ⟨s, v, h1, h2, h3⟩ := binS_of (P := P) (ε := ε) h ho ea eb
        exact OpR.val h1 (fun call => hop call _ h2 (fun q => by cases q)) h3
  case bool.bool p q =>
    cases ra with
    | bool _ c hc =>
      cases rb with
      | bool _ d hd =>
        have main : ∀ (r : Prop) (e : Bool), K (SEff.pure (.bool (.sym r))) → pureOp P tv o = some (Eff.pure (.bool e)) → (e = true ↔ r) → OpR P C ε H L tv base vbase o K :=
          fun r e hK he hr => OpR.val hK (fun call => hop call _ he (fun q => by cases q)) (.bool _ _ hr)
        have hbe : ((c == d) = true) ↔ (p.holds ↔ q.holds) := by rw [← hc, ← hd]; cases c <;> cases d <;> simp
        have hbn : ((c != d) = true) ↔ ¬ (p.holds ↔ q.holds) := by rw [← hc, ← hd]; cases c <;> cases d <;> simp
        have both : ∀ (r : Prop), (r ↔ (p.holds ↔ q.holds)) → boolTy P ty = true → ((op = .eql ∧ K (SEff.pure (.bool (.sym r)))) ∨ (op = .neq ∧ K (SEff.pure (.bool (.sym (¬ r)))))) → OpR P C ε H L tv base vbase o K := by
          intro r hr hbt hh
          rcases hh with ⟨rfl, hK⟩ | ⟨rfl, hK⟩
          · exact main _ _ hK (boolEq_run (.inl ⟨rfl, rfl⟩) ho (boolTy_of hbt) ea eb) (hbe.trans hr.symm)
          · exact main _ _ hK (boolEq_run (.inr ⟨rfl, rfl⟩) ho (boolTy_of hbt) ea eb) (hbn.trans (not_congr hr.symm))
        cases p with
        | sym p =>
          obtain ⟨hbt, h⟩ := bif_of h
          refine both (p ↔ q.holds) Iff.rfl hbt ?_
          cases op <;> simp only [] at h <;> first | exact .inl ⟨rfl, h⟩ | exact .inr ⟨rfl, h⟩ | cases h
        | lit p =>
          cases q with
          | lit q => exact pure' h
          | sym q =>
            obtain ⟨hbt, h⟩ := bif_of h
            refine both (p = true ↔ q) Iff.rfl hbt ?_
            cases op <;> simp only [] at h <;> first | exact .inl ⟨rfl, h⟩ | exact .inr ⟨rfl, h⟩ | cases h
  case agg.agg xs ys =>
    cases hg : P.eqGuardType P.depth ty || !(allSc xs && allSc ys) with
    | true => rw [hg] at h; cases h
    | false =>
      rw [hg] at h
      simp only [cond_false] at h
      simp only [Bool.or_eq_false_iff, Bool.not_eq_false', Bool.and_eq_true] at hg
      split at h
      · rename_i s hs
        cases ra with
        | agg qa => cases rb with
          | agg qb =>
            obtain ⟨c, hc, hr⟩ := aggEq_run (P := P) hg.1 hs qa qb hg.2.1 hg.2.2 ho ea eb
            cases op <;> simp only [] at h <;> try (cases h; done)
            · exact OpR.val h (fun call => hop call _ (hr.1 rfl) (fun q => by cases q)) (.bool _ _ hc)
            · refine OpR.val h (fun call => hop call _ (hr.2 rfl) (fun q => by cases q)) (.bool _ _ ?_)
              rw [SB.not_holds, ← hc]
              cases c <;> simp
      · cases h
  case slI.nilSl fr cs n tight =>
    obtain ⟨hty, h⟩ := bif_of h
    have hsl : ∃ el, P.underlying ty = some (.slice el) := by
      unfold sliceTy at hty
      split at hty
      · rename_i el he; exact ⟨el, he⟩
      · cases hty
    obtain ⟨el, hel⟩ := hsl
    have key : ∀ {Q : Prop}, nonE cs n Q → Q ∧ nilV L va = some false := by
      intro Q hq
      have ne : Q ∧ 0 < n.val ∧ (∀ vs, RL ε cs.list vs → COK cs → vs ≠ []) := by
        unfold nonE at hq
        split at hq
        · refine ⟨hq, Nat.succ_pos _, fun vs hr _ e => ?_⟩
          subst e; cases hr
        · rename_i e k d fl xs n
          obtain ⟨hk, h1, h2, h3⟩ := bif_of hq
          refine ⟨h3, h1, fun vs hr hc e => ?_⟩
          subst e
          have hl := hr.length
          cases xs with
          | nil => cases h2
          | cons x xs =>
            have := (hc x).1
            simp only [SC.list, List.flatMap_cons, List.length_append, this, List.length_nil] at hl
            simp only [Nat.blt_eq] at hk
            omega
        · cases hq
      obtain ⟨h1, h2, h3⟩ := ne
      refine ⟨h1, ?_⟩
      cases ra with
      | slI q1 q2 q3 q4 q5 =>
        rename_i fr' tight' cs' m
        cases cs' with
        | nil => exact absurd rfl (h3 _ q4 q5)
        | cons w ws => simp only [nilV]; rw [if_neg (by omega)]
      | slIn q1 q2 => omega
      | slI0 q1 q2 q3 q4 => omega
    cases rb
    cases op <;> simp only [] at h <;> try (cases h; done)
    · obtain ⟨hK, hn⟩ := key h
      refine OpR.val hK (fun call => ?_) (.bool _ false (by simp [SB.holds]))
      simp only [opS, ho, nilCmp, hel, ea, eb, hn]
    · obtain ⟨hK, hn⟩ := key h
      refine OpR.val hK (fun call => ?_) (.bool _ true (by simp [SB.holds]))
      simp only [opS, ho, nilCmp, hel, ea, eb, hn]
  all_goals (
    have texts : ∀ {a b : SV}, RV ε a va → RV ε b vb → ((op = .eql ∧ textEqS a b fun p => K (SEff.pure (.bool (.sym p)))) ∨ (op = .neq ∧ textEqS a b fun p => K (SEff.pure (.bool (.sym (¬ p)))))) → OpR P C ε H L tv base vbase o K := by
      intro a b ra rb hh
      rcases hh with ⟨rfl, hK⟩ | ⟨rfl, hK⟩
      · obtain ⟨p, x', y', h1, rfl, rfl, h2⟩ := textEqS_of ra rb hK
        exact OpR.val h1 (fun call => hop call _ (strEq_run (.inl ⟨rfl, rfl⟩) ho ea eb) (fun q => by cases q)) (.bool _ _ h2)
      · obtain ⟨p, x', y', h1, rfl, rfl, h2⟩ := textEqS_of ra rb hK
        refine OpR.val h1 (fun call => hop call _ (strEq_run (.inr ⟨rfl, rfl⟩) ho ea eb) (fun q => by cases q)) (.bool _ _ ?_)
        simp only [Bool.not_eq_true', SB.holds, ← h2]
        exact (Bool.not_eq_true _).symm ▸ Iff.rfl
    refine texts ra rb ?_
    cases op <;> simp only [] at h <;> first | exact .inl ⟨rfl, h⟩ | exact .inr ⟨rfl, h⟩ | cases h)
end
end
end Go.Proofs.Ytnnfcebnmogdmaa.VM
/- Values with labels: every operation. No conditions. -/
namespace Go.Proofs.Ytnnfcebnmogdmaa.VM
set_option linter.unusedSimpArgs false
set_option linter.unusedVariables false
open Go Go.RowKit
noncomputable section
section
variable {P : Program} {ε : Nat → Option BE} {H : SHeap} {L : Heap} {t : List SV} {tv : List V} {base vbase : Nat} {cx : SCfg}

theorem OpR.eff {C : Nat → CallF} {o : Oper} {K : SEff → Prop} {se : SEff} {e : Eff} {ε' : Nat → Option BE} (hK : K se) (h : ∀ call, opS P call L vbase tv o = some e) (r : ER ε ε' H L base vbase se e) : OpR P C ε H L tv base vbase o K :=
  ⟨_, _, _, hK, ⟨0, fun n _ => h _⟩, r⟩
theorem new_rv {k : Nat} {m : SN} (hf : ε base = none) : RV (updF ε base ⟨0, some (vbase, 0)⟩) (.slB base (.lit 0) k 0 m) (.slB vbase 0 0 m.val) :=
  .slB (e := ⟨0, some (vbase, 0)⟩) (by simp [updF]) (Nat.le_refl _) (fun _ => .inl ⟨vbase, 0, rfl, by simp⟩) rfl
theorem new_pv (hf : ε base = none) : RV (updF ε base ⟨0, some (vbase, 0)⟩) (.ptrB base (.lit 0) 0 0 0) (.ptrB vbase 0 0) :=
  .ptrB (e := ⟨0, some (vbase, 0)⟩) (by simp [updF]) (Nat.le_refl _) (fun _ => ⟨vbase, 0, rfl, by simp⟩) rfl

theorem isU8_of {e : TypeId} (h : isU8 P e = true) : P.underlying e = some (.int .u8) := by
  unfold isU8 at h
  split at h
  · assumption
  · cases h
theorem textS_of {c : SC} {A : List V} (hr : RL ε c.list A) {K : SV → Prop} (h : textS c K) : ∃ ns s, bytesN A = some ns ∧ K s ∧ RV ε s (.str (strOfNums ns)) := by
  unfold textS at h
  split at h
  · rename_i l
    split at h
    · rename_i ns b hns
      have := sints_of (show RL ε l A from hr) hns
      refine ⟨ns, _, this, h, ?_⟩
      cases b with
      | true => exact .str _
      | false => exact .strS _
    · cases h
  · obtain ⟨ns, e1, e2⟩ := h
    rw [e1] at hr
    exact ⟨ns, _, bytesC_of hr, e2, .strS _⟩
theorem convS_of {C : Nat → CallF} {o : Oper} {K : SEff → Prop} {src dst : TypeId} {x : Operand} {ds dd : TypeDesc} {s : SV} (ht : RL ε t tv) (hH : RH ε H L) (hf0 : ε base = none) (ho : o.op = .convert src dst x)
    (hs : P.underlying src = some ds) (hd : P.underlying dst = some dd) (hx : evalS t x = some s) (h : convS P H base src dst ds dd s K) : OpR P C ε H L tv base vbase o K := by
  obtain ⟨v, h1, h2⟩ := evalS_rel ht hx
  unfold convS at h
  split at h
  · rename_i k
    split at h
    · rename_i kk n
      cases h2 with
      | int _ _ m hm =>
        subst hm
        refine OpR.val (v := .int k (k.wrap n.val)) h (fun call => fastE_eq ?_) (.int _ _ _ ?_)
        · simp only [fastE, ho, h1, hs, hd]
        · cases n <;> rfl
    · cases h
  · split at h
    · rename_i e
      split at h
      · cases h
      · rename_i hns
        obtain ⟨hu, h⟩ := bif_of h
        have hu8 := isU8_of hu
        obtain ⟨c, n, A, g1, g2, g3, g4, g5, g6⟩ := rowS_of hH h2 h
        obtain ⟨ns, s', k1, k2, k3⟩ := textS_of g4 g1
        refine OpR.val k2 (fun call => ?_) k3
        have hv : ∀ x, v ≠ .str x := by
          rcases g6 with ⟨y, rfl⟩ | g6
          · exact absurd rfl (hns y)
          · exact g6
        cases v with
        | str x => exact absurd rfl (hv x)
        | _ => simp only [opS, ho, hs, hd, h1, hu8, g2, k1]; rfl
    · cases h
  · rename_i e'
    split at h
    · split at h
      · rename_i s
        obtain ⟨hu, h⟩ := bif_of h
        have hu8 := isU8_of hu
        cases h2
        refine OpR.eff h (fun call => ?_) (ER.new1 hf0 trivial (strCells_rel s) (by have := new_rv (vbase := vbase) (k := 1) (m := .lit s.size) hf0; exact this))
        simp only [opS, ho, hs, hd, h1, hu8, SN.val_lit]
      · cases h
    · rename_i e
      split at h
      · rename_i v0 cs n tight
        obtain ⟨hu, h⟩ := bif_of h
        obtain ⟨hu, hsd⟩ := andT hu
        have hu8 := isU8_of hu
        have hsd := beqT hsd
        have hw : ∃ c cs' m tt, v = .slI true (c :: cs') m tt := by
          cases h2 with
          | slI q1 q2 q3 q4 q5 =>
            have := q1 rfl
            subst this
            cases q4 with
            | cons r s => exact ⟨_, _, _, _, rfl⟩
          | slIn q1 q2 => cases q1
          | slI0 q1 q2 q3 q4 => cases q3
        obtain ⟨c, cs', m, tt, rfl⟩ := hw
        refine OpR.val h (fun call => ?_) h2
        simp only [opS, ho, hs, hd, h1, hu8]
        rw [if_pos hsd]
      · cases h
    · cases h
  · cases h
theorem SC.over_of {cs : SC} {k : Nat} {e cnt : SN} {new : SC} {K : SC → Prop} (h : cs.over k e cnt new K) {A B : List V} (hc : COK cs) (hr : RL ε cs.list A) (hn : RL ε new.list B) (hnl : new.list.length ≥ cnt.val * k) :
    ∃ c, K c ∧ COK c ∧ e.val * k + cnt.val * k ≤ A.length ∧ RL ε c.list (setCells A (e.val * k) (B.take (cnt.val * k))) := by
  have hl := hr.length
  have hnb := hn.length
  unfold SC.over at h
  split at h
  · rename_i l
    split at h
    · rename_i e c m
      obtain ⟨h0, h⟩ := bif_of h
      obtain ⟨h1, h2⟩ := andT h0
      have h1 := bleT h1
      rw [slen_eq] at h1
      refine ⟨_, h, trivial, by rw [← Nat.add_mul]; exact Nat.le_trans h1 (Nat.le_of_eq hl), ?_⟩
      show RL ε (ssetCells l (e * k) (stake m (c * k))) _
      rw [stake_eq]
      exact ssetCells_rel _ (hn.take _) hr
    · cases h
  · rename_i α r k' d fl xs
    obtain ⟨h0, h'⟩ := bif_of h
    clear h
    have hk := beqT h0
    subst hk
    obtain ⟨h1, ys, h2, h3, h4⟩ := req_of h'
    rw [SN.le_holds, SN.add_val] at h1
    simp only [SN.val_sym] at h1
    have hys : RL ε (ys.flatMap r) B := by
      split at h2
      · exact sles_rel h2 hn
      · rw [h2] at hn; exact hn
    have hlA : A.length = xs.length * k' := by rw [← hl]; exact flat_len hc.len
    have hlB : B.length = ys.length * k' := by rw [← hys.length]; exact flat_len hc.len
    have hb1 : e.val * k' + cnt.val * k' ≤ A.length := by rw [← Nat.add_mul, hlA]; exact Nat.mul_le_mul_right _ h1
    have hb2 : cnt.val * k' ≤ B.length := by rw [hlB]; exact Nat.mul_le_mul_right _ h3
    refine ⟨_, h4, hc, hb1, ?_⟩
    show RL ε ((xs.take e.val ++ ys.take cnt.val ++ xs.drop (e.val + cnt.val)).flatMap r) _
    rw [List.flatMap_append, List.flatMap_append, setCells_eq _ _ _ (by rw [List.length_take]; omega), ← flat_take hc.len, ← flat_take hc.len, ← flat_drop hc.len, List.length_take, Nat.min_eq_left hb2, ← Nat.add_mul]
    exact ((RL.take hr _).append (hys.take _)).append (RL.drop hr _)
/-- A block of the call's own is written over. -/
theorem wr_block (hH : RH ε H L) {b : Nat} {blk : SBlk} {e0 : BE} {b' v0 : Nat} {ablk : Blk} (hb : sget H b = some blk) (g1 : ε b = some e0) (g2 : e0.act = some (b', v0)) (g3 : e0.sv = blk.ver) (g5 : hget L b' = some ablk) (g6 : ablk.ver = v0) (g7 : ablk.k = blk.k) (g8 : blk.fz = false → ablk.fz = false)
    {c : SC} {cells : List V} (hc : COK c) (hr : RL ε c.list cells) {s : SV} {v : V} (hv : RV ε s v) : ER ε (updF ε b ⟨blk.ver, some (b', ablk.ver)⟩) H L base vbase ⟨s, [(b, blk.with c)], []⟩ ⟨v, [(b', { ablk with cells := cells })], []⟩ := by
  have hself : updF ε b ⟨blk.ver, some (b', ablk.ver)⟩ = ε := by
    apply updF_self'
    rw [g1]
    cases e0 with
    | mk sv act => simp only at g2 g3; rw [g2, g3, g6]
  exact ER.wr1 (blk := blk) (e0 := e0) (v0 := v0) (nblk := blk.with c) (nab := { ablk with cells := cells }) hb g1 g2 g5 (.inl ⟨g3.symm, g6⟩) g7 g8 hc hr (by show RV (updF ε b ⟨blk.ver, some (b', ablk.ver)⟩) s v; rw [hself]; exact hv)
theorem copyS_of (hH : RH ε H L) {e : TypeId} {d x : SV} {dv xv : V} (rd : RV ε d dv) (rx : RV ε x xv) {K : SEff → Prop} (h : copyS P H e d x K) : ∃ se ef ε', K se ∧ copyV P L e dv xv = some ef ∧ ER ε ε' H L base vbase se ef := by
  unfold copyS at h
  split at h
  · rename_i g k b o k' ver n hz
    split at h
    · rename_i blk hb
      obtain ⟨h0, h⟩ := bif_of h
      obtain ⟨h0, hlz⟩ := andT h0
      obtain ⟨h0, hk⟩ := andT h0
      obtain ⟨hver, hfz⟩ := andT h0
      have hfz : blk.fz = false := by simpa using hfz
      have hlz : blk.lz = false := by simpa using hlz
      have hk := beqT hk
      subst hk
      obtain ⟨c, m, A, g1, g2, g3, g4, g5, _⟩ := rowS_of hH rx h
      obtain ⟨hone, g1⟩ := bif_of g1
      obtain ⟨e0, k1, k3, gc, hq⟩ := slB_at' hH hb hver rd
      rcases hq with ⟨b', v0, ablk, q2, rfl, q5, q6, q7, q8, q9⟩ | ⟨q1, _⟩
      · have hmin : (SN.min m n).val = min m.val n.val := by cases m <;> cases n <;> rfl
        obtain ⟨c2, j1, j2, j3, j4⟩ := SC.over_of g1 gc q9 g4 (by rw [g5, hmin]; exact Nat.mul_le_mul_right _ (Nat.min_le_left _ _))
        rw [hmin] at j3 j4
        refine ⟨_, _, _, j1, ?_, wr_block (cells := setCells ablk.cells (o.val * k') (A.take (min m.val n.val * k'))) hH hb k1 q2 k3 q5 q6 q7 q8 j2 j4 (.int .i64 _ ((min m.val n.val : Nat) : Int) (by rw [SN.toI_val, hmin]))⟩
        simp only [copyV, hz, g2, lenV, q5]
        rw [if_pos ⟨q6, q8 hfz, j3, ones_rel hone g3 g4⟩]
      · rw [q1] at hlz; cases hlz
    · cases h
  · cases h
theorem clearS_of (hH : RH ε H L) {e : TypeId} {d : SV} {dv : V} (rd : RV ε d dv) {K : SEff → Prop} (h : clearS P H e d K) : ∃ se ef ε', K se ∧ clearV P L e dv = some ef ∧ ER ε ε' H L base vbase se ef := by
  unfold clearS at h
  split at h
  · rename_i g k z b o k' ver n hz hzs
    split at h
    · rename_i blk hb
      obtain ⟨h0, h⟩ := bif_of h
      obtain ⟨h0, hzo⟩ := andT h0
      obtain ⟨h0, hzk⟩ := andT h0
      obtain ⟨h0, hlz⟩ := andT h0
      obtain ⟨h0, hk⟩ := andT h0
      obtain ⟨hver, hfz⟩ := andT h0
      have hfz : blk.fz = false := by simpa using hfz
      have hlz : blk.lz = false := by simpa using hlz
      have hk := beqT hk
      have hzk := beqT hzk
      rw [slen_eq] at hzk
      subst hk
      obtain ⟨zv, hzv, rz⟩ := zeroS_of (ε := ε) hzs
      have hzl : zv.length = k' := by rw [← rz.length]; exact hzk
      obtain ⟨e0, k1, k3, gc, hq⟩ := slB_at' hH hb hver rd
      rcases hq with ⟨b', v0, ablk, q2, rfl, q5, q6, q7, q8, q9⟩ | ⟨q1, _⟩
      · have fin : ∀ (c2 : SC), K ⟨.tup [], [(b, blk.with c2)], []⟩ → COK c2 → o.val * k' + n.val * k' ≤ ablk.cells.length → RL ε c2.list (setCells ablk.cells (o.val * k') (zerosV zv n.val)) →
            ∃ se ef ε', K se ∧ clearV P L e (.slB b' (o.val * k') v0 n.val) = some ef ∧ ER ε ε' H L base vbase se ef := by
          intro c2 j1 j2 j3 j4
          refine ⟨_, _, _, j1, ?_, wr_block (cells := setCells ablk.cells (o.val * k') (zerosV zv n.val)) hH hb k1 q2 k3 q5 q6 q7 q8 j2 j4 undef_rv⟩
          simp only [clearV, hz, hzv, lenV, q5]
          rw [if_pos ⟨q6, q8 hfz, j3, hzl, sones_rel rz hzo⟩]
        have htk : (zerosV zv n.val).take (n.val * k') = zerosV zv n.val := List.take_of_length_le (by rw [zerosV_len, hzl]; exact Nat.le_refl _)
        split at h
        · rename_i l hl
          rw [hl] at gc q9
          cases n with
          | lit n =>
            obtain ⟨c2, j1, j2, j3, j4⟩ := SC.over_of h gc q9 (szeros_rel rz n) (by
              have := (szeros_rel rz n).length
              rw [zerosV_len, hzl] at this
              exact Nat.le_of_eq this.symm)
            simp only [SN.val_lit] at j4 htk
            rw [htk] at j4
            exact fin c2 j1 j2 j3 j4
          | sym n => cases h
        · rename_i α r k'' d fl xs hl
          rw [hl] at gc q9
          obtain ⟨y, h1, h2⟩ := h
          have hrep : RL ε (SC.rows r k'' d fl (List.replicate n.val y)).list (zerosV zv n.val) := by
            show RL ε ((List.replicate n.val y).flatMap r) _
            have hy := sles_rel h1 rz
            clear h2 fin htk
            induction n.val with
            | zero => exact .nil
            | succ m ih => rw [List.replicate_succ, List.flatMap_cons]; exact hy.append ih
          obtain ⟨c2, j1, j2, j3, j4⟩ := SC.over_of h2 gc q9 hrep (by
              have := hrep.length
              rw [zerosV_len, hzl] at this
              exact Nat.le_of_eq this.symm)
          rw [htk] at j4
          exact fin c2 j1 j2 j3 j4
      · rw [q1] at hlz; cases hlz
    · cases h
  · cases h
theorem minmax_run {mx : Bool} {t : List V} {o : Oper} {c : Call} {x y : Operand} {k l : IntKind} {a b : Int} (ho : o.op = .call c) (hb : c.callee = .builtin (if mx then .max else .min)) (hargs : c.args.toList = [x, y]) (hx : evalV t x = some (.int k a)) (hy : evalV t y = some (.int l b)) :
    pureOp P t o = some (Eff.pure (.int k (if mx then (if b > a then b else a) else if b < a then b else a))) := by
  obtain ⟨cal, args, ats⟩ := c
  simp only at hb hargs
  subst hb
  have ha : args = #[x, y] := by
    have := congrArg List.toArray hargs
    simpa using this
  subst ha
  have h1 : o.op.operands.toList.all (fun x => ((evalV t x).bind toVal).isSome) = true := by
    rw [ho]
    cases mx <;> simp [Op.operands, Call.operands, hx, hy, toVal, toAg, toSc]
  have rx : ρOf t x = .int k a := by simp [ρOf, hx, toVal, toAg, toSc]
  have ry : ρOf t y = .int l b := by simp [ρOf, hy, toVal, toAg, toSc]
  unfold pureOp
  rw [if_pos h1]
  simp only [ho]
  unfold execOp
  simp only [ho]
  cases mx
  · simp [resolve, invoke, builtin, rx, ry, Builtin.min_, Builtin.min2]; rfl
  · simp [resolve, invoke, builtin, rx, ry, Builtin.max_, Builtin.max2]; rfl
theorem builtinS_of {C : Nat → CallF} {o : Oper} {K : SEff → Prop} {c : Call} {b : Builtin} (ht : RL ε t tv) (hH : RH ε H L) (hf0 : ε base = none) (ho : o.op = .call c) (hb : c.callee = .builtin b)
    (h : builtinS cx P H base t o b c.args.toList c.argTypes K) : OpR P C ε H L tv base vbase o K := by
  have hop : ∀ call, opS P call L vbase tv o = builtinE P L vbase tv o b c.args.toList c.argTypes := fun call => by simp only [opS, ho, hb]
  unfold builtinS at h
  split at h
  · rename_i x y ty tyx hargs hats
    split at h
    · rename_i e d s v hu hux hx hy
      obtain ⟨sv, g1, g2⟩ := evalS_rel ht hx
      obtain ⟨xv, g3, g4⟩ := evalS_rel ht hy
      obtain ⟨se, ef, ε', k1, k2, k3⟩ := appendS_of (vbase := vbase) hH g2 g4 hf0 h
      exact OpR.eff k1 (fun call => by rw [hop]; simp only [builtinE, hargs, hats, hu, hux, g1, g3, k2]) k3
    · cases h
  · rename_i x y ty rest hargs hats
    split at h
    · rename_i e d v hu hx hy
      obtain ⟨sv, g1, g2⟩ := evalS_rel ht hx
      obtain ⟨xv, g3, g4⟩ := evalS_rel ht hy
      obtain ⟨se, ef, ε', k1, k2, k3⟩ := copyS_of (base := base) (vbase := vbase) hH g2 g4 h
      exact OpR.eff k1 (fun call => by rw [hop]; simp only [builtinE, hargs, hats, hu, g1, g3, k2]) k3
    · cases h
  · rename_i x ty rest hargs hats
    split at h
    · rename_i e d hu hx
      obtain ⟨sv, g1, g2⟩ := evalS_rel ht hx
      obtain ⟨se, ef, ε', k1, k2, k3⟩ := clearS_of (base := base) (vbase := vbase) hH g2 h
      exact OpR.eff k1 (fun call => by rw [hop]; simp only [builtinE, hargs, hats, hu, g1, k2]) k3
    · cases h
  · rename_i x ty hargs hats
    split at h
    · rename_i e s hu hx
      obtain ⟨v, g1, g2⟩ := evalS_rel ht hx
      split at h
      · rename_i n hn
        obtain ⟨g3, g4⟩ := lenS_of hH g2 hn
        refine OpR.val (v := .int .i64 (n.val : Int)) h (fun call => ?_) (.int _ _ _ (SN.toI_val n).symm)
        rw [hop]
        simp only [builtinE, hargs, hats, hu, g1]
        cases v with
        | str x => exact absurd rfl (g4 x)
        | _ => simp only [g3, Option.map_some]
      · cases h
    · rename_i s hu hx
      obtain ⟨s', v, h1, h2, h3⟩ := pureS_of (call := C 0) ht h
      refine OpR.val h1 (fun call => ?_) h3
      rw [hop]
      simp only [builtinE, hargs, hats, hu]
      exact h2
    · cases h
  · rename_i x y _ hargs
    split at h
    · rename_i k a l b hx hy
      obtain ⟨vx, g1, g2⟩ := evalS_rel ht hx
      obtain ⟨vy, g3, g4⟩ := evalS_rel ht hy
      cases g2 with
      | int _ _ m hm => cases g4 with
        | int _ _ m' hm' =>
          subst hm hm'
          refine OpR.val (v := .int k (if b.val < a.val then b.val else a.val)) h (fun call => ?_) (.int _ _ _ (by cases a <;> cases b <;> rfl))
          rw [hop]
          simp only [builtinE, hargs]
          exact minmax_run (mx := false) ho hb hargs g1 g3
    · cases h
  · rename_i x y _ hargs
    split at h
    · rename_i k a l b hx hy
      obtain ⟨vx, g1, g2⟩ := evalS_rel ht hx
      obtain ⟨vy, g3, g4⟩ := evalS_rel ht hy
      cases g2 with
      | int _ _ m hm => cases g4 with
        | int _ _ m' hm' =>
          subst hm hm'
          refine OpR.val (v := .int k (if b.val > a.val then b.val else a.val)) h (fun call => ?_) (.int _ _ _ (by cases a <;> cases b <;> rfl))
          rw [hop]
          simp only [builtinE, hargs]
          exact minmax_run (mx := true) ho hb hargs g1 g3
    · cases h
  · cases h

theorem sop_of {call : SCall} {C : Nat → CallF} (hC : SCallOK call C) (hH : RH ε H L) (ht : RL ε t tv) (hf : ∀ b, base ≤ b → ε b = none) {o : Oper} {K : SEff → Prop} (h : sop cx P call H base t o K) :
    OpR P C ε H L tv base vbase o K := by
  have hf0 := hf base (Nat.le_refl _)
  have pure' : pureS P t o K → (∀ call e, pureOp P tv o = some e → opS P call L vbase tv o = some e) → OpR P C ε H L tv base vbase o K := fun h1 h2 => pureOpR ht h1 h2
  unfold sop at h
  cases ho : o.op <;> simp only [ho] at h
  case move x =>
    split at h
    · rename_i s hs
      obtain ⟨v, h1, h2⟩ := evalS_rel ht hs
      exact OpR.val h (fun call => by simp only [opS, ho, h1]; rfl) h2
    · cases h
  case assign x =>
    split at h
    · rename_i s hs
      obtain ⟨v, h1, h2⟩ := evalS_rel ht hs
      exact OpR.val h (fun call => by simp only [opS, ho, h1]; rfl) h2
    · cases h
  case pick c x y =>
    split at h
    · rename_i b s1 s2 hc hx hy
      obtain ⟨vc, g1, g2⟩ := evalS_rel ht hc
      obtain ⟨v1, g3, g4⟩ := evalS_rel ht hx
      obtain ⟨v2, g5, g6⟩ := evalS_rel ht hy
      cases g2 with
      | bool _ cb hb =>
        rcases bra_of h with ⟨q1, q2⟩ | ⟨q1, q2⟩
        · have := hb.2 q1
          subst this
          exact OpR.val q2 (fun call => by simp only [opS, ho, g1, g3, g5]; rfl) g4
        · have hc0 : cb = false := by cases cb with | false => rfl | true => exact absurd (hb.1 rfl) q1
          subst hc0
          exact OpR.val q2 (fun call => by simp only [opS, ho, g1, g3, g5]; rfl) g6
    · cases h
  case alloc ty =>
    split at h
    · rename_i z hz
      obtain ⟨zv, h1, h2⟩ := zeroS_of (ε := ε) hz
      exact OpR.eff h (fun call => by simp only [opS, ho, h1]) (ER.new1 hf0 trivial h2 (new_pv hf0))
    · cases h
  case box ty x =>
    split at h
    · rename_i s hs
      obtain ⟨hone, h⟩ := bif_of h
      obtain ⟨v, h1, h2⟩ := evalS_rel ht hs
      have rc := cellsV_rel h2 hone
      exact OpR.eff h (fun call => by simp only [opS, ho, h1]; rw [if_pos (sones_rel rc hone)]) (ER.new1 hf0 trivial rc (new_pv hf0))
    · cases h
  case build ty parts =>
    split at h
    · rename_i s hs
      obtain ⟨v, h1, h2⟩ := buildS_of ht hs
      exact OpR.val h (fun call => by simp only [opS, ho, h1]; rfl) h2
    · cases h
  case buildSlice ty len parts =>
    split at h
    · rename_i s hs
      obtain ⟨v, h1, h2⟩ := buildSliceS_of ht hs
      exact OpR.val h (fun call => by simp only [opS, ho, h1]) h2
    · cases h
  case load ty x =>
    split at h
    · rename_i p hp
      obtain ⟨v, h1, h2⟩ := evalS_rel ht hp
      obtain ⟨s, w, g1, g2, g3⟩ := loadS_of hH h2 h
      exact OpR.val g1 (fun call => by simp only [opS, ho, h1, g2]; rfl) g3
    · cases h
  case store ty x y =>
    split at h
    · rename_i p s hp hs
      obtain ⟨vp, h1, h2⟩ := evalS_rel ht hp
      obtain ⟨vs, h3, h4⟩ := evalS_rel ht hs
      obtain ⟨se, e, ε', g1, g2, g3, g4⟩ := storeS_of (base := base) (vbase := vbase) hH h2 h4 h
      exact OpR.eff g1 (fun call => by simp only [opS, ho, h1, h3, g2]) g3
    · cases h
  case nilCheck x =>
    split at h
    · rename_i p hp
      obtain ⟨v, h1, h2⟩ := evalS_rel ht hp
      obtain ⟨s, w, g1, g2, g3⟩ := ptrAddS_of hH h2 h
      exact OpR.val g1 (fun call => by simp only [opS, ho, h1, g2]; rfl) h2
    · cases h
  case binOp op ty x y tz =>
    split at h
    · rename_i a b ha hb
      exact binOpS_of ht ho ha hb h
    · cases h
  case unOp op ty x =>
    have fb : ∀ call e, pureOp P tv o = some e → opS P call L vbase tv o = some e := fun call e he => by simp only [opS, ho]; exact he
    split at h
    · rename_i p hx
      obtain ⟨v, h1, h2⟩ := evalS_rel ht hx
      cases h2 with
      | bool _ c hc =>
        refine OpR.val h (fun call => fb call _ (not_run ho h1)) (.bool _ _ ?_)
        simp only [SB.holds] at hc ⊢
        rw [← hc]
        cases c <;> simp
    · rename_i k n hx
      obtain ⟨v, h1, h2⟩ := evalS_rel ht hx
      cases h2 with
      | int _ _ m hm =>
        have hm : m = n := hm
        subst hm
        exact OpR.val h (fun call => fb call _ (compl_run ho h1)) (.int _ _ _ rfl)
    · exact pure' h fb
  case makeInterface ty x =>
    split at h
    · cases h
    · rename_i d s hne hd hx
      obtain ⟨v, h1, h2⟩ := evalS_rel ht hx
      refine OpR.val h (fun call => ?_) (.iface ty h2)
      simp only [opS, ho, h1, hd]
    · cases h
  case makeFunc fn first captured =>
    split at h
    · rename_i f c h1 h2
      obtain ⟨f', g1, g2⟩ := evalSL_rel ht h1
      obtain ⟨c', g3, g4⟩ := evalSL_rel ht h2
      exact OpR.val h (fun call => by simp only [opS, ho, g1, g3]) (.func fn g2 g4)
    · cases h
  case makeSlice ty x y =>
    split at h
    · rename_i e k1 l k2 c hu hx hy
      split at h
      · rename_i z i hz hi
        obtain ⟨hb, h⟩ := bif_of h
        obtain ⟨h1, h⟩ := req_of h
        obtain ⟨h2, h⟩ := req_of h
        obtain ⟨h3, h⟩ := req_of h
        rw [SI.le_holds] at h1 h2 h3
        simp only [SI.val_lit] at h1 h3
        obtain ⟨zv, g1, g2⟩ := zeroS_of (ε := ε) hz
        obtain ⟨cs, g3, g4, g5⟩ := makeS_of g2 h
        obtain ⟨vx, g6, g7⟩ := evalS_rel ht hx
        obtain ⟨vy, g8, g9⟩ := evalS_rel ht hy
        cases g7 with
        | int _ _ m hm => cases g9 with
          | int _ _ m' hm' =>
            subst hm hm'
            have hzl : slen z = zv.length := by rw [slen_eq]; exact g2.length
            rw [hzl] at g3
            rw [SI.toN_val] at g5
            refine OpR.eff g3 (fun call => ?_) (ER.new1 hf0 g4 g5 (by have := new_rv (vbase := vbase) (k := zv.length) (m := l.toN) hf0; rwa [SI.toN_val] at this))
            simp only [opS, ho, hu, g6, g8, g1, hi]
            rw [if_pos ⟨h1, h2, h3, bleT hb⟩]
      · cases h
    · cases h
  case slice ty x lo hi mx =>
    split at h
    · rename_i e s l hh m hu hx hl hhi hm
      split at h
      · rename_i g k hz
        obtain ⟨v, h1, h2⟩ := evalS_rel ht hx
        obtain ⟨s', w, g1, g2, g3⟩ := cutS_of hH h2 h
        exact OpR.val g1 (fun call => by simp only [opS, ho, hu, h1, optS_rel ht hl, optS_rel ht hhi, optS_rel ht hm, hz, g2]; rfl) g3
      · cases h
    · cases h
  case fieldAddr s x f =>
    split at h
    · rename_i p off ft hp hof
      obtain ⟨v, h1, h2⟩ := evalS_rel ht hp
      obtain ⟨s', w, g1, g2, g3⟩ := ptrAddS_of hH h2 h
      exact OpR.val g1 (fun call => by simp only [opS, ho, h1, hof, g2]; rfl) g3
    · cases h
  case field s x f =>
    split at h
    · rename_i fs cs hu hx
      split at h
      · rename_i fl hfl
        obtain ⟨v, h1, h2⟩ := evalS_rel ht hx
        cases h2 with
        | agg q =>
          obtain ⟨s', w, g1, g2, g3⟩ := partS_of q h
          exact OpR.val g1 (fun call => by simp only [opS, ho, hu, h1, hfl, g2]; rfl) g3
      · cases h
    · cases h
  case indexAddr s x y =>
    split at h
    · rename_i p k i hp hi
      obtain ⟨v, h1, h2⟩ := evalS_rel ht hp
      obtain ⟨vi, h3, h4⟩ := evalS_rel ht hi
      cases h4 with
      | int _ _ m hm =>
        subst hm
        obtain ⟨s', w, g1, g2, g3⟩ := idxAddrS_of hH h2 h
        exact OpR.val g1 (fun call => by simp only [opS, ho, h1, h3, g2]; rfl) g3
    · cases h
  case index s x y =>
    split at h
    · rename_i n e cs k i hu hx hy
      split at h
      · rename_i g k hz
        obtain ⟨h1, h⟩ := req_of h
        obtain ⟨h2, h⟩ := req_of h
        rw [SI.le_holds] at h1
        rw [SI.lt_holds] at h2
        simp only [SI.val_lit] at h1 h2
        obtain ⟨h3, h4⟩ := caseN_of h
        rw [SI.toN_val] at h4
        obtain ⟨v, g1, g2⟩ := evalS_rel ht hx
        obtain ⟨vi, g3, g4⟩ := evalS_rel ht hy
        cases g2 with
        | agg q => cases g4 with
          | int _ _ m hm =>
            subst hm
            obtain ⟨s', w, k1, k2, k3⟩ := partS_of q h4
            refine OpR.val k1 (fun call => ?_) k3
            simp only [opS, ho, hu, g1, g3, hz]
            rw [if_pos ⟨h1, h2⟩, k2]
            rfl
      · cases h
    · cases h
  case extract x i =>
    split at h
    · rename_i vs hx
      split at h
      · rename_i s hs
        obtain ⟨v, h1, h2⟩ := evalS_rel ht hx
        cases h2 with
        | tup q =>
          obtain ⟨w, g1, g2⟩ := q.get i s hs
          exact OpR.val h (fun call => by simp only [opS, ho, h1, g1]; rfl) g2
      · cases h
    · cases h
  case call c =>
    cases hcal : c.callee with
    | builtin b =>
      simp only [hcal] at h
      exact builtinS_of ht hH hf0 ho hcal h
    | value x =>
      simp only [hcal] at h
      split at h
      · rename_i f vs hr
        obtain ⟨vs', g1, g2⟩ := resolveS_of ht hr
        obtain ⟨se, e, ε', k1, ⟨N, k2⟩, k3⟩ := scallE_of (vbase := vbase) hC hH hf g2 h
        exact ⟨se, e, ε', k1, ⟨N, fun n hn => by simp only [opS, ho, hcal, g1]; exact k2 n hn⟩, k3⟩
      · cases h
    | invoke x name =>
      simp only [hcal] at h
      split at h
      · rename_i f vs hr
        obtain ⟨vs', g1, g2⟩ := resolveS_of ht hr
        obtain ⟨se, e, ε', k1, ⟨N, k2⟩, k3⟩ := scallE_of (vbase := vbase) hC hH hf g2 h
        exact ⟨se, e, ε', k1, ⟨N, fun n hn => by simp only [opS, ho, hcal, g1]; exact k2 n hn⟩, k3⟩
      · cases h
  case convert src dst x =>
    split at h
    · rename_i ds dd s hs hd hx
      exact convS_of ht hH hf0 ho hs hd hx h
    · cases h
  all_goals exact pure' h (fun call e he => by simp only [opS, ho]; exact he)
end
end
end Go.Proofs.Ytnnfcebnmogdmaa.VM
/- Values with labels: the machine tells what a run asks. No conditions. -/
namespace Go.Proofs.Ytnnfcebnmogdmaa.VM
set_option linter.unusedSimpArgs false
set_option linter.unusedVariables false
open Go Go.RowKit
noncomputable section
section
variable {P : Program} {cf : Cfg} {sx : SX}

structure RSt (ε : Nat → Option BE) (ss : SSt) (s : St) : Prop where
  t : RL ε ss.t s.t
  H : RH ε ss.H s.H
  fs : ∀ b, ss.nx ≤ b → ε b = none
  fv : ∀ b, s.nx ≤ b → hget s.H b = none

theorem putS_rel {ε : Nat → Option BE} {t : List SV} {tv : List V} (h : RL ε t tv) (d : Option Tmp) {s : SV} {v : V} (r : RV ε s v) : RL ε (putS t d s) (putV tv d v) := by
  cases d with
  | none => exact h
  | some d =>
    simp only [putS, putV, ssetn_eq, setn_eq]
    exact h.set d r
theorem applyL_none {L : Heap} {nx : Nat} {e : Eff} (hw : ∀ p ∈ e.wr, (hget L p.1).isSome = true) (hn : ∀ b, nx ≤ b → hget L b = none) : ∀ b, nx + e.new.length ≤ b → hget (applyL L nx e) b = none := by
  intro b hb
  have hns : b ∉ e.wr.map (·.1) := by
    intro hm
    obtain ⟨p, hp, rfl⟩ := List.mem_map.1 hm
    have := hw p hp
    rw [hn p.1 (by omega)] at this
    cases this
  rw [hget_applyL]
  unfold applyF
  rw [newsF_get, if_neg (by omega), setsF_not hns]
  exact hn b (by omega)
theorem RSt.step {ε ε' : Nat → Option BE} {ss : SSt} {s : St} (hr : RSt ε ss s) {t : List SV} (ht : RL ε t s.t) {se : SEff} {e : Eff} (he : ER ε ε' ss.H s.H ss.nx s.nx se e) (d : Option Tmp) :
    RSt ε' ⟨putS t d se.v, sapply ss.H ss.nx se, ss.nx + se.new.length⟩ ⟨putV s.t d e.v, applyL s.H s.nx e, s.nx + e.new.length⟩ :=
  ⟨putS_rel (ht.mono he.ex) d he.v, he.heap _ _ hr.H (fun _ _ => rfl) hr.fv hr.fs, fun b hb => he.fresh b (hr.fs b (by have : ss.nx + se.new.length ≤ b := hb; omega)) (by have : ss.nx + se.new.length ≤ b := hb; omega), applyL_none he.wrIn hr.fv⟩

theorem wantedS_of {ε : Nat → Option BE} {ops : List Oper} {t : List SV} {tv : List V} (ht : RL ε t tv) {o : Oper} {K : Bool → List SV → Prop} (h : wantedS ops t o K) : ∃ t', K (wantedV ops tv o) t' ∧ RL ε t' tv := by
  unfold wantedS at h
  unfold wantedV
  cases hg : o.guard with
  | none => simp only [hg] at h; exact ⟨t, h, ht⟩
  | some p =>
    obtain ⟨j, want⟩ := p
    simp only [hg] at h ⊢
    cases hd : (ops[j]?).bind (·.dst) with
    | none => simp only [hd] at h; exact ⟨t, h, ht⟩
    | some d =>
      simp only [hd] at h ⊢
      have hr := snth_rel ht d
      generalize hs : snth t d = s at h hr
      generalize hv : nth tv d = v at hr ⊢
      have keep : ∀ (b : Bool), RV ε (.bool (.lit b)) v → RL ε (ssetn t d (.bool (.lit b))) tv := by
        intro b hb
        rw [ssetn_eq]
        have h1 := ht.set d hb
        by_cases hdl : d < tv.length
        · have : tv.set d v = tv := by
            rw [← hv, nth_eq, List.getD_eq_getElem?_getD, List.getElem?_eq_getElem hdl]
            simp
          rwa [this] at h1
        · have hl := ht.length
          rw [List.set_eq_of_length_le (show t.length ≤ d by rw [hl]; exact Nat.not_lt.1 hdl)]
          exact ht
      cases s <;> try (cases h; done)
      · rename_i b
        cases hr with
        | bool _ c hc =>
          cases b with
          | lit b =>
            simp only [SB.holds] at hc
            have : c = b := by cases c <;> cases b <;> simp_all
            subst this
            exact ⟨t, h, ht⟩
          | sym p =>
            cases c with
            | true =>
              refine ⟨_, ?_, keep true (.bool _ _ (by simp [SB.holds]))⟩
              have := h.1 (hc.1 rfl)
              cases want <;> exact this
            | false =>
              refine ⟨_, ?_, keep false (.bool _ _ (by simp [SB.holds]))⟩
              have := h.2 (fun q => by have := hc.2 q; cases this)
              cases want <;> exact this
      · rename_i vs
        cases vs with
        | nil => cases hr with | tup q => exact ⟨t, h, ht⟩
        | cons x r => cases h

/-- A step of a region, or all of it. -/
def GoStep (P : Program) (cf : Cfg) (ops : List Oper) (s : St) (o : Oper) (s' : St) : Prop := ∃ N, ∀ n, N ≤ n → stepOp P cf (callI P cf (exec P cf n)) (callS P (exec P cf n)) ops s o = some s'
def Runs (P : Program) (cf : Cfg) (c : Code) (s : St) (ex : Ex) (s' : St) : Prop := ∃ N, ∀ n, N ≤ n → exec P cf n c s = some (ex, s')
def SWP (P : Program) (cf : Cfg) (c : Code) (ss : SSt) (K : SKont) : Prop :=
  ∀ ε s, RSt ε ss s → ∃ ex s', Runs P cf c s ex s' ∧ ∃ ε' ss', EX ε ε' ∧ RSt ε' ss' s' ∧ K ex ss'
def SExecOK (P : Program) (cf : Cfg) (ih : SExec) : Prop := ∀ c ss K, ih c ss K → SWP P cf c ss K
def CtOK (P : Program) (cf : Cfg) (f : FuncId) (C : SCall) : Prop :=
  ∀ base as K, C f base as K → ∀ as', RL noE as as' → ∀ vbase, ∃ rv blks srv sblks, (∃ N, ∀ n, N ≤ n → callI P cf (exec P cf n) f vbase as' = some (rv, blks)) ∧ K srv sblks ∧ NewR (newsE noE base vbase sblks.length) sblks blks ∧ RV (newsE noE base vbase sblks.length) srv rv
structure SXOK (P : Program) (cf : Cfg) (sx : SX) : Prop where
  ct : ∀ f C, sx.ct f = some C → CtOK P cf f C
  loop : ∀ i L, sx.loop i = some L → ∀ ss K, L.C ss K → SWP P cf (.loop (loopBody P L.f L.k)) ss K

def SShareOK (P : Program) (cf : Cfg) (sh : SShare) : Prop :=
  ∀ f vs H nx K, sh f vs H nx K → ∀ ε vs' L nxv, RL ε vs vs' → RH ε H L → (∀ b, nx ≤ b → ε b = none) → (∀ b, nxv ≤ b → hget L b = none) →
    ∃ v L' nxv', (∃ N, ∀ n, N ≤ n → callS P (exec P cf n) f vs' L nxv = some (v, L', nxv')) ∧ ∃ ε' s H' nx', EX ε ε' ∧ RV ε' s v ∧ RH ε' H' L' ∧ (∀ b, nx' ≤ b → ε' b = none) ∧ (∀ b, nxv' ≤ b → hget L' b = none) ∧ K s H' nx'

theorem sharedS_of {ε : Nat → Option BE} {t : List SV} {tv : List V} (ht : RL ε t tv) {o : Oper} {f : FuncId} {vs : List SV} (h : sharedS P cf t o = some (f, vs)) : ∃ vs', sharedV P cf tv o = some (f, vs') ∧ RL ε vs vs' := by
  unfold sharedS at h
  unfold sharedV
  split at h
  · rename_i c ho
    simp only [ho]
    split at h
    · cases h
    · rename_i hb
      split at h
      · rename_i g ws hr
        obtain ⟨ws', h1, h2⟩ := resolveS_of ht hr
        split at h
        · rename_i hsh
          cases h
          cases hcal : c.callee with
          | builtin b => exact absurd hcal (hb b)
          | value x => simp only [h1]; rw [if_pos hsh]; exact ⟨_, rfl, h2⟩
          | invoke x n => simp only [h1]; rw [if_pos hsh]; exact ⟨_, rfl, h2⟩
        · cases h
      · cases h
  · cases h
theorem sharedS_none {ε : Nat → Option BE} {t : List SV} {tv : List V} (ht : RL ε t tv) {o : Oper} (h : sharedS P cf t o = none) {cx : SCfg} {call : SCall} {H : SHeap} {base : Nat} {K : SEff → Prop} (hs : sop cx P call H base t o K) : sharedV P cf tv o = none := by
  unfold sharedS at h
  unfold sharedV
  cases ho : o.op <;> simp only
  rename_i c
  simp only [ho] at h
  cases hcal : c.callee with
  | builtin b => rfl
  | value x =>
    simp only [hcal] at h
    cases hr : resolveS P t c with
    | none =>
      unfold sop at hs
      simp only [ho, hcal, hr] at hs
      cases hs
    | some p =>
      obtain ⟨f, vs⟩ := p
      obtain ⟨vs', g1, g2⟩ := resolveS_of ht hr
      simp only [hr] at h
      simp only [g1]
      split at h
      · cases h
      · rename_i q; rw [if_neg q]
  | invoke x nm =>
    simp only [hcal] at h
    cases hr : resolveS P t c with
    | none =>
      unfold sop at hs
      simp only [ho, hcal, hr] at hs
      cases hs
    | some p =>
      obtain ⟨f, vs⟩ := p
      obtain ⟨vs', g1, g2⟩ := resolveS_of ht hr
      simp only [hr] at h
      simp only [g1]
      split at h
      · cases h
      · rename_i q; rw [if_neg q]

theorem sstep_of {call : SCall} {sh : SShare} (hC : SCallOK call (fun n => callI P cf (exec P cf n))) (hsh : SShareOK P cf sh) {ops : List Oper} {ss : SSt} {s : St} {ε : Nat → Option BE} (hr : RSt ε ss s) {o : Oper} {K : SSt → Prop}
    (h : sstep sx P cf call sh ops ss o K) : ∃ s', GoStep P cf ops s o s' ∧ ∃ ε' ss', EX ε ε' ∧ RSt ε' ss' s' ∧ K ss' := by
  obtain ⟨t, h1, ht⟩ := wantedS_of hr.t h
  cases hw : wantedV ops s.t o with
  | false =>
    rw [hw] at h1
    simp only [cond_false] at h1
    refine ⟨⟨putV s.t o.dst (.tup []), s.H, s.nx⟩, ⟨0, fun n _ => by unfold stepOp; rw [hw]; rfl⟩, ε, ⟨putS t o.dst (.tup []), ss.H, ss.nx⟩, EX.refl ε, ⟨putS_rel ht o.dst undef_rv, hr.H, hr.fs, hr.fv⟩, h1⟩
  | true =>
    rw [hw] at h1
    simp only [cond_true] at h1
    split at h1
    · rename_i f vs hs
      obtain ⟨vs', g1, g2⟩ := sharedS_of ht hs
      obtain ⟨v, L', nxv', ⟨N, k1⟩, ε', sv, H', nx', k2, k3, k4, k5, k6, k7⟩ := hsh f vs _ _ _ h1 ε vs' s.H s.nx g2 hr.H hr.fs hr.fv
      exact ⟨⟨putV s.t o.dst v, L', nxv'⟩, ⟨N, fun n hn => by unfold stepOp; rw [hw]; simp only [if_true, g1, k1 n hn]⟩, ε', _, k2, ⟨putS_rel (ht.mono k2) o.dst k3, k4, k5, k6⟩, k7⟩
    · rename_i hs
      have hn := sharedS_none ht hs h1
      obtain ⟨se, e, ε', k1, ⟨N, k2⟩, k3⟩ := sop_of hC hr.H ht hr.fs (vbase := s.nx) h1
      exact ⟨_, ⟨N, fun n hN => by unfold stepOp; rw [hw]; simp only [if_true, hn, opE_eq, k2 n hN]⟩, ε', _, k3.ex, hr.step ht k3 o.dst, k1⟩
theorem sseq_of {call : SCall} {sh : SShare} (hC : SCallOK call (fun n => callI P cf (exec P cf n))) (hsh : SShareOK P cf sh) {ops : List Oper} {K : SSt → Prop} : ∀ {l : List Oper} {ss : SSt} {s : St} {ε : Nat → Option BE}, RSt ε ss s → sseq sx P cf call sh ops l ss K →
    ∃ s', (∃ N, ∀ n, N ≤ n → runSeq P cf (callI P cf (exec P cf n)) (callS P (exec P cf n)) ops l s = some s') ∧ ∃ ε' ss', EX ε ε' ∧ RSt ε' ss' s' ∧ K ss'
  | [], ss, s, ε, hr, h => ⟨s, ⟨0, fun n _ => rfl⟩, ε, ss, EX.refl ε, hr, h⟩
  | o :: l, ss, s, ε, hr, h => by
    obtain ⟨s1, ⟨N1, h1⟩, ε1, ss1, h2, h3, h4⟩ := sstep_of hC hsh hr (show sstep sx P cf call sh ops ss o (sseq sx P cf call sh ops l · K) from h)
    obtain ⟨s2, ⟨N2, h5⟩, ε2, ss2, h6, h7, h8⟩ := sseq_of hC hsh h3 h4
    refine ⟨s2, ⟨max N1 N2, fun n hn => ?_⟩, ε2, ss2, h2.trans h6, h7, h8⟩
    rw [runSeq_cons, h1 n (by omega)]
    exact h5 n (by omega)
end
end
end Go.Proofs.Ytnnfcebnmogdmaa.VM
/- Values with labels: regions that draw their order. No conditions. -/
namespace Go.Proofs.Ytnnfcebnmogdmaa.VM
set_option linter.unusedSimpArgs false
set_option linter.unusedVariables false
open Go Go.RowKit
noncomputable section
section
variable {P : Program} {cf : Cfg} {sx : SX}

theorem RH.congr {ε : Nat → Option BE} {H H' : SHeap} {L L' : Heap} (h : RH ε H L) (hs : ∀ b, sget H' b = sget H b) (hl : ∀ b, hget L' b = hget L b) : RH ε H' L' :=
  ⟨fun b blk hb => by
    rw [hs] at hb
    obtain ⟨e, h1, h2, h3, h4⟩ := h.at_ b blk hb
    refine ⟨e, h1, h2, h3, h4.imp id ?_⟩
    rintro ⟨b', v', ab, g1, g2, g3⟩
    exact ⟨b', v', ab, g1, by rw [hl]; exact g2, g3⟩,
   fun b1 b2 blk1 blk2 e1 e2 c v1 v2 h1 h2 => h.inj b1 b2 blk1 blk2 e1 e2 c v1 v2 (by rw [← hs]; exact h1) (by rw [← hs]; exact h2)⟩
/-- Labels that are new leave the elder ones as they are. -/
theorem RH.more {ε ε' : Nat → Option BE} {H : SHeap} {L : Heap} (h : RH ε H L) (hx : EX ε ε') (hsame : ∀ b e, ε b = some e → ε' b = some e) : RH ε' H L := by
  refine ⟨fun b blk hb => ?_, fun b1 b2 blk1 blk2 e1 e2 c v1 v2 h1 h2 h3 h4 h5 h6 => ?_⟩
  · obtain ⟨e, h1, h2, h3, h4⟩ := h.at_ b blk hb
    refine ⟨e, hsame b e h1, h2, h3, h4.imp id ?_⟩
    rintro ⟨b', v', ab, g1, g2, g3, g4, g5, g6⟩
    exact ⟨b', v', ab, g1, g2, g3, g4, g5, g6.mono hx⟩
  · obtain ⟨f1, k1, _⟩ := h.at_ b1 blk1 h1
    obtain ⟨f2, k2, _⟩ := h.at_ b2 blk2 h2
    have q1 := hsame b1 f1 k1
    have q2 := hsame b2 f2 k2
    rw [h3] at q1; cases q1
    rw [h4] at q2; cases q2
    exact h.inj b1 b2 blk1 blk2 _ _ c v1 v2 h1 h2 k1 k2 h5 h6
theorem rlen_eq : ∀ (l : List SRec), rlen l = l.length
  | [] => rfl
  | _ :: l => congrArg Nat.succ (rlen_eq l)
theorem heapOf_cons (H0 : Heap) (D : Nat → Bool) (r : DRec) (rest : List DRec) (b : Nat) : hget (heapOf H0 D (r :: rest)) b = if D r.i then hget (applyL (heapOf H0 D rest) r.base r.eff) b else hget (heapOf H0 D rest) b := by
  rw [heapOf]
  split
  · rename_i h1 h2
    split
    · rw [hget_applyL]
      unfold applyF
      rw [h1, h2]
      rfl
    · rfl
  · split <;> rfl
theorem heapOf_congr {H0 : Heap} {D D' : Nat → Bool} : ∀ {rs : List DRec}, (∀ r ∈ rs, D r.i = D' r.i ∨ (r.eff.wr = [] ∧ r.eff.new = [])) → heapOf H0 D rs = heapOf H0 D' rs
  | [], _ => rfl
  | r :: rest, h => by
    have ih := heapOf_congr (H0 := H0) (rs := rest) fun x hx => h x (List.mem_cons_of_mem _ hx)
    rcases h r (List.mem_cons_self ..) with h0 | ⟨h1, h2⟩
    · rw [heapOf, heapOf, ih, h0]
    · rw [heapOf, heapOf, ih, h1, h2]
/-- The labels' walk beside the other. -/
inductive DP : List SRec → List DRec → Prop
  | nil : DP [] []
  | cons {s : SRec} {r : DRec} {ss : List SRec} {rs : List DRec} : (s.fr = true → s.eff.wr = [] ∧ s.eff.new = [] ∧ r.eff.wr = [] ∧ r.eff.new = [] ∧ (r.wt = false ∨ freeOp r.o = true)) → (∀ b, s.ld = some b → s.eff.wr = [] ∧ s.eff.new = [] ∧ r.eff.wr = [] ∧ r.eff.new = []) → r.i = rs.length → (r.eff.wr ≠ [] → s.eff.w = true) → DP ss rs → DP (s :: ss) (r :: rs)
theorem DP.length {ss : List SRec} {rs : List DRec} (h : DP ss rs) : ss.length = rs.length := by
  induction h with
  | nil => rfl
  | cons _ _ _ _ _ ih => simp [ih]
theorem DP.idx {ss : List SRec} {rs : List DRec} (h : DP ss rs) : ∀ r ∈ rs, r.i < rs.length := by
  induction h with
  | nil => intro r hr; cases hr
  | cons _ _ h2 _ _ ih =>
    intro r hr
    rcases List.mem_cons.1 hr with rfl | hr
    · simp [h2]
    · have := ih r hr; simp; omega
def FreeR (r : DRec) : Prop := r.eff.wr = [] ∧ r.eff.new = [] ∧ (r.wt = false ∨ freeOp r.o = true)
/-- A load of a block that is not among these. -/
def LoadR (ss : List SRec) (rs : List DRec) (ws : List (Nat × SBlk)) (r : DRec) : Prop := r.eff.wr = [] ∧ r.eff.new = [] ∧ ∃ (j : Nat) (s : SRec) (b : Nat), rs[j]? = some r ∧ ss[j]? = some s ∧ s.ld = some b ∧ ∀ p ∈ ws, p.1 ≠ b
theorem LoadR.cons {s0 : SRec} {r0 : DRec} {ss : List SRec} {rs : List DRec} {ws : List (Nat × SBlk)} {r : DRec} (h : LoadR ss rs ws r) : LoadR (s0 :: ss) (r0 :: rs) ws r := by
  obtain ⟨h1, h2, j, s, b, h3, h4, h5, h6⟩ := h
  exact ⟨h1, h2, j + 1, s, b, by simpa using h3, by simpa using h4, h5, h6⟩
theorem ldOK_of {ws : List (Nat × SBlk)} {l : Option Nat} (h : ldOK ws l = true) : ∃ b, l = some b ∧ ∀ p ∈ ws, p.1 ≠ b := by
  unfold ldOK at h
  split at h
  · rename_i b
    refine ⟨b, rfl, fun p hp q => ?_⟩
    have := List.all_eq_true.1 h p hp
    rw [q, Nat.beq_refl] at this
    cases this
  · cases h
theorem fullX_of {D : Nat → Bool} {ws : List (Nat × SBlk)} {ss : List SRec} {rs : List DRec} (h : DP ss rs) (hf : fullX D ws ss = true) : ∀ r ∈ rs, D r.i = true ∨ FreeR r ∨ LoadR ss rs ws r := by
  induction h with
  | nil => intro r hr; cases hr
  | @cons s r ss rs h1 h0 h2 h3 h4 ih =>
    obtain ⟨f1, f2⟩ := andT (show ((D (rlen ss) || s.fr || ldOK ws s.ld) && fullX D ws ss) = true from hf)
    intro x hx
    rcases List.mem_cons.1 hx with rfl | hx
    · rw [Bool.or_eq_true, Bool.or_eq_true] at f1
      rcases f1 with (f1 | f1) | f1
      · left; rw [h2, ← h4.length, ← rlen_eq]; exact f1
      · right; left; exact ⟨(h1 f1).2.2.1, (h1 f1).2.2.2.1, (h1 f1).2.2.2.2⟩
      · right; right
        obtain ⟨b, g1, g2⟩ := ldOK_of f1
        exact ⟨(h0 b g1).2.2.1, (h0 b g1).2.2.2, 0, s, b, rfl, rfl, g1, g2⟩
    · exact (ih f2 x hx).imp id (Or.imp id LoadR.cons)
theorem sheapM_full {H0 : SHeap} {D : Nat → Bool} {ws : List (Nat × SBlk)} {ss : List SRec} {rs : List DRec} (h : DP ss rs) (hf : fullX D ws ss = true) : sheapM H0 D ss = sheapM H0 (fun _ => true) ss := by
  induction h with
  | nil => rfl
  | @cons s r ss rs h1 h0 h2 h3 h4 ih =>
    obtain ⟨f1, f2⟩ := andT (show ((D (rlen ss) || s.fr || ldOK ws s.ld) && fullX D ws ss) = true from hf)
    rw [sheapM, sheapM, ih f2]
    cases hD : D (rlen ss) with
    | true => rfl
    | false =>
      rw [hD, Bool.false_or] at f1
      have hn : s.eff.wr = [] ∧ s.eff.new = [] := by
        rw [Bool.or_eq_true] at f1
        rcases f1 with f1 | f1
        · exact ⟨(h1 f1).1, (h1 f1).2.1⟩
        · obtain ⟨b, g1, _⟩ := ldOK_of f1
          exact ⟨(h0 b g1).1, (h0 b g1).2.1⟩
      simp only [cond_false, cond_true]
      unfold sapply
      rw [hn.1, hn.2]
      rfl
theorem heapOf_full {L0 : Heap} {D : Nat → Bool} {ss : List SRec} {rs : List DRec} {ws : List (Nat × SBlk)} (h : DP ss rs) (hf : fullX D ws ss = true) : heapOf L0 D rs = heapOf L0 (fun _ => true) rs :=
  heapOf_congr fun r hr => (fullX_of h hf r hr).imp id fun q => q.elim (fun q => ⟨q.1, q.2.1⟩) fun q => ⟨q.1, q.2.1⟩

theorem fullX_all (ws : List (Nat × SBlk)) : ∀ l : List SRec, fullX (fun _ => true) ws l = true
  | [] => rfl
  | r :: l => by show ((true || r.fr || ldOK ws r.ld) && fullX (fun _ => true) ws l) = true; rw [fullX_all ws l]; rfl
theorem seenM_all : ∀ l : List SRec, seenM (fun _ => true) l = true
  | [] => rfl
  | r :: l => by rw [seenM, seenM_all l, fullX_all]; cases r.eff.w <;> rfl
/-- What is kept while a region that draws its order is gone through. -/
structure DInv (ms : List Nat) (H0 : SHeap) (L0 : Heap) (ε : Nat → Option BE) (t : List SV) (tv : List V) (nx nxv : Nat) (srecs : List SRec) (recs : List DRec) : Prop where
  t : RL ε t tv
  fs : ∀ b, nx ≤ b → ε b = none
  dp : DP srecs recs
  at_ : ∀ D, seenM D srecs = true → RH ε (sheapM H0 D srecs) (heapOf L0 D recs) ∧ ∀ b, nxv ≤ b → hget (heapOf L0 D recs) b = none
  ex : ∀ r ∈ recs, r.ex = false
  wr : ∀ pre r rest, recs = pre ++ r :: rest → ∀ p ∈ r.eff.wr, (hget (heapOf L0 (bitM ms r.i) rest) p.1).isSome = true
  ord : ∀ r ∈ recs, FreeR r ∨ ∀ x ∈ recs, x.eff.wr ≠ [] → x.i ≠ r.i → (if x.i < r.i then bitM ms r.i x.i else bitM ms x.i r.i) = true ∨ (r.eff.wr = [] ∧ r.eff.new = [] ∧ ∃ b', loadB r.t r.o = some b' ∧ ∀ p ∈ x.eff.wr, p.1 ≠ b')
  lds : ∀ (j : Nat) (s : SRec) (r : DRec) (b : Nat), srecs[j]? = some s → recs[j]? = some r → s.ld = some b → ∃ eb b' v0, ε b = some eb ∧ eb.act = some (b', v0) ∧ loadB r.t r.o = some b' ∧ (sget (sheapM H0 (fun _ => true) srecs) b).isSome = true
  sw : ∀ D, seenM D srecs = true → ∀ x ∈ recs, x.eff.wr ≠ [] → D x.i = true

theorem sget_ssets : ∀ (l : List (Nat × SBlk)) (H : SHeap) (b : Nat), (sget H b).isSome = true → (sget (ssets l H) b).isSome = true
  | [], H, b, h => h
  | (i, x) :: l, H, b, h => sget_ssets l _ b (by rw [sget_sset]; split <;> simp_all)
theorem sget_ssets_imp : ∀ (l : List (Nat × SBlk)) (H H' : SHeap), (∀ b, (sget H b).isSome = true → (sget H' b).isSome = true) → ∀ b, (sget (ssets l H) b).isSome = true → (sget (ssets l H') b).isSome = true
  | [], H, H', h, b, hb => h b hb
  | (i, x) :: l, H, H', h, b, hb => sget_ssets_imp l _ _ (fun c hc => by rw [sget_sset] at hc ⊢; split <;> simp_all) b hb
theorem sget_snews_imp (l : List SBlk) (j : Nat) (H H' : SHeap) (h : ∀ b, (sget H b).isSome = true → (sget H' b).isSome = true) (b : Nat) (hb : (sget (snews l j H) b).isSome = true) : (sget (snews l j H') b).isSome = true := by
  rw [sget_snews] at hb ⊢
  split
  · rename_i q; rwa [if_pos q] at hb
  · rename_i q; rw [if_neg q] at hb; exact h b hb
theorem sapply_some {H : SHeap} {base : Nat} {e : SEff} {b : Nat} (h : (sget H b).isSome = true) : (sget (sapply H base e) b).isSome = true := by
  unfold sapply
  rw [sget_snews]
  split
  · rename_i q
    rw [List.getElem?_eq_getElem (by omega)]
    rfl
  · exact sget_ssets _ _ _ h
theorem sheapM_some {H0 : SHeap} {D : Nat → Bool} : ∀ {l : List SRec} {b : Nat}, (sget (sheapM H0 D l) b).isSome = true → (sget (sheapM H0 (fun _ => true) l) b).isSome = true
  | [], b, h => h
  | r :: l, b, h => by
    show (sget (sapply (sheapM H0 (fun _ => true) l) r.base r.eff) b).isSome = true
    rw [sheapM] at h
    cases hD : D (rlen l) with
    | true =>
      rw [hD] at h
      exact sget_snews_imp _ _ _ _ (fun c hc => sget_ssets_imp _ _ _ (fun d hd => sheapM_some hd) c hc) b h
    | false =>
      rw [hD] at h
      exact sapply_some (sheapM_some h)
theorem loadSB_of {ε : Nat → Option BE} {H : SHeap} {L : Heap} {t : List SV} {tv : List V} {o : Oper} {b : Nat} (hH : RH ε H L) (ht : RL ε t tv) (h : loadSB H t o = some b) :
    ∃ eb b' v0, ε b = some eb ∧ eb.act = some (b', v0) ∧ loadB tv o = some b' ∧ (sget H b).isSome = true := by
  unfold loadSB at h
  split at h
  · rename_i ty x ho
    split at h
    · rename_i b0 e k f ver hx
      split at h
      · rename_i blk hb
        cases hv : Nat.beq blk.ver ver with
        | false => rw [hv] at h; cases h
        | true =>
          rw [hv] at h; cases h
          obtain ⟨v, hv1, hv2⟩ := evalS_rel ht hx
          obtain ⟨e0, b', v0, ablk, q1, q2, q3, q4, _⟩ := ptrB_at hH hb hv hv2
          refine ⟨e0, b', v0, q1, q2, ?_, by rw [hb]; rfl⟩
          unfold loadB
          rw [ho]
          simp only [hv1, q4]
      · cases h
    · cases h
  · rename_i ty x fi ho
    split at h
    · rename_i b0 e k f ver hx
      split at h
      · rename_i blk hb
        cases hv : Nat.beq blk.ver ver with
        | false => rw [hv] at h; cases h
        | true =>
          rw [hv] at h; cases h
          obtain ⟨v, hv1, hv2⟩ := evalS_rel ht hx
          obtain ⟨e0, b', v0, ablk, q1, q2, q3, q4, _⟩ := ptrB_at hH hb hv hv2
          refine ⟨e0, b', v0, q1, q2, ?_, by rw [hb]; rfl⟩
          unfold loadB
          rw [ho]
          simp only [hv1, q4]
      · cases h
    · cases h
  · cases h

theorem xids_of {ms : List Nat} {i y : Nat} : ∀ {l : List DRec}, y ∈ xids ms i l → ∃ x ∈ l, x.eff.wr ≠ [] ∧ y ∈ x.eff.wr.map (·.1) ∧ x.i ≠ i ∧ (if x.i < i then bitM ms i x.i else bitM ms x.i i) = false
  | [], h => by cases h
  | x :: l, h => by
    rw [xids] at h
    split at h
    · obtain ⟨z, h1, h2⟩ := xids_of h
      exact ⟨z, List.mem_cons_of_mem _ h1, h2⟩
    · rename_i hw
      by_cases hq : (x.i == i || (if x.i < i then bitM ms i x.i else bitM ms x.i i)) = true
      · rw [if_pos hq] at h
        obtain ⟨z, h1, h2⟩ := xids_of h
        exact ⟨z, List.mem_cons_of_mem _ h1, h2⟩
      · rw [if_neg hq] at h
        rcases List.mem_append.1 h with h | h
        · simp only [Bool.or_eq_true, not_or, Bool.not_eq_true, beq_eq_false_iff_ne, ne_eq] at hq
          exact ⟨x, List.mem_cons_self .., fun q => hw q, h, hq.1, hq.2⟩
        · obtain ⟨z, h1, h2⟩ := xids_of h
          exact ⟨z, List.mem_cons_of_mem _ h1, h2⟩
theorem chk_of {call : CallF} {ms : List Nat} {L0 : Heap} {all : List DRec} (hex : ∀ r ∈ all, r.ex = false) (hwr : ∀ pre r rest, all = pre ++ r :: rest → ∀ p ∈ r.eff.wr, (hget (heapOf L0 (bitM ms r.i) rest) p.1).isSome = true)
    (hord : ∀ r ∈ all, FreeR r ∨ ∀ x ∈ all, x.eff.wr ≠ [] → x.i ≠ r.i → (if x.i < r.i then bitM ms r.i x.i else bitM ms x.i r.i) = true ∨ (r.eff.wr = [] ∧ r.eff.new = [] ∧ ∃ b', loadB r.t r.o = some b' ∧ ∀ p ∈ x.eff.wr, p.1 ≠ b')) : ∀ (rs pre : List DRec), all = pre ++ rs → chk P call ms L0 all rs = true
  | [], _, _ => rfl
  | r :: rest, pre, h => by
    have hr : r ∈ all := by rw [h]; simp
    rw [chk, hex r hr, chk_of hex hwr hord rest (pre ++ [r]) (by rw [h]; simp)]
    simp only [Bool.not_false, Bool.true_or, Bool.and_true]
    rcases hord r hr with hfr | hord
    · split
      · rw [hfr.1]; rfl
      · rw [hfr.1]
        simp only [List.isEmpty_nil, Bool.true_and]
        rcases hfr.2.2 with q | q
        · rw [q]; rfl
        · rw [q]; simp
    · have key : ∀ y ∈ xids ms r.i all, r.eff.wr = [] ∧ ∃ b', loadB r.t r.o = some b' ∧ y ≠ b' := by
        intro y hy
        obtain ⟨x, h1, h2, h3, h4, h5⟩ := xids_of hy
        rcases hord x h1 h2 h4 with q | ⟨q1, _, b', q2, q3⟩
        · rw [h5] at q; cases q
        · obtain ⟨p, hp, rfl⟩ := List.mem_map.1 h3
          exact ⟨q1, b', q2, q3 p hp⟩
      split
      · rw [List.all_eq_true]
        exact fun p hp => hwr pre r rest h p hp
      · rename_i hne
        cases hX : xids ms r.i all with
        | nil => exact absurd hX hne
        | cons y X =>
          obtain ⟨k1, b', k2, _⟩ := key y (by rw [hX]; exact List.mem_cons_self ..)
          have k3 : (xids ms r.i all).contains b' = false := by
            cases hc : (xids ms r.i all).contains b' with
            | false => rfl
            | true =>
              obtain ⟨_, b2, g1, g2⟩ := key b' (by simpa using hc)
              rw [k2] at g1; cases g1
              exact absurd rfl g2
          rw [hX] at k3
          rw [k1, k2]
          simp only [k3]
          simp

theorem sfwd_of {call : SCall} (hC : SCallOK call (fun n => callI P cf (exec P cf n))) {ops : List Oper} {ms : List Nat} {H0 : SHeap} {L0 : Heap} {K : SSt → Prop} :
    ∀ {l : List Oper} {i : Nat} {ε : Nat → Option BE} {t : List SV} {tv : List V} {nx nxv : Nat} {srecs : List SRec} {recs : List DRec}, DInv ms H0 L0 ε t tv nx nxv srecs recs → srecs.length = i →
      sfwd sx P cf call ops ms H0 K l i srecs t nx →
      ∃ tv' nxv' recs', (∃ N, ∀ n, N ≤ n → fwd P cf (callI P cf (exec P cf n)) (callS P (exec P cf n)) ops ms L0 l i tv nxv recs = some (tv', nxv', recs')) ∧
        ∃ ε' t' nx' srecs', EX ε ε' ∧ DInv ms H0 L0 ε' t' tv' nx' nxv' srecs' recs' ∧ K ⟨t', sheapM H0 (fun _ => true) srecs', nx'⟩
  | [], i, ε, t, tv, nx, nxv, srecs, recs, hI, hi, h => ⟨tv, nxv, recs, ⟨0, fun n _ => rfl⟩, ε, t, nx, srecs, EX.refl ε, hI, h⟩
  | o :: l, i, ε, t, tv, nx, nxv, srecs, recs, hI, hi, h => by
    obtain ⟨hseen, h⟩ := bif_of (show bif seenM (bitM ms i) srecs then _ else Stuck 262 from h)
    obtain ⟨t1, h1, ht1⟩ := wantedS_of hI.t h
    have hri : recs.length = i := by rw [← hI.dp.length]; exact hi
    -- an operation with its effect, put behind the others
    have push : ∀ (wt fr : Bool) (ld : Option Nat) (se : SEff) (e : Eff) (ε' : Nat → Option BE), ER ε ε' (sheapM H0 (bitM ms i) srecs) (heapOf L0 (bitM ms i) recs) nx nxv se e → (se.w = true → fullX (bitM ms i) se.wr srecs = true) → (fr = true → se.nil = true ∧ (wt = false ∨ freeOp o = true)) → (∀ b, ld = some b → se.nil = true ∧ ∃ eb b' v0, ε b = some eb ∧ eb.act = some (b', v0) ∧ loadB tv o = some b' ∧ (sget (sheapM H0 (bitM ms i) srecs) b).isSome = true) →
        DInv ms H0 L0 ε' (putS t1 o.dst se.v) (putV tv o.dst e.v) (nx + se.new.length) (nxv + e.new.length) (⟨nx, se, fr, ld⟩ :: srecs) (⟨i, o, wt, nxv, tv, e, false⟩ :: recs) := by
      intro wt fr ld se e ε' he hw hfr hld
      have hsw : e.wr ≠ [] → se.w = true := by
        intro q
        unfold SEff.w
        split
        · rename_i q2; exact absurd (he.wrE q2) q
        · rfl
      have hwn : se.w = false → se.wr = [] := by
        unfold SEff.w
        split
        · rename_i q; exact fun _ => q
        · intro q; cases q
      have hdp : DP (⟨nx, se, fr, ld⟩ :: srecs) (⟨i, o, wt, nxv, tv, e, false⟩ :: recs) := by
        have nilE : se.nil = true → se.wr = [] ∧ se.new = [] ∧ e.wr = [] ∧ e.new = [] := by
          intro q1
          have hn : se.wr = [] ∧ se.new = [] := by
            unfold SEff.nil at q1
            split at q1
            · rename_i a b; exact ⟨a, b⟩
            · cases q1
          have h3 := he.newE hn.1
          rw [hn.2] at h3
          exact ⟨hn.1, hn.2, he.wrE hn.1, List.length_eq_zero_iff.1 h3.symm⟩
        refine .cons (fun q => ?_) (fun b q => nilE (hld b q).1) hri.symm hsw hI.dp
        obtain ⟨q1, q2⟩ := hfr q
        obtain ⟨a1, a2, a3, a4⟩ := nilE q1
        exact ⟨a1, a2, a3, a4, q2⟩
      refine ⟨putS_rel (ht1.mono he.ex) _ he.v, fun b hb => he.fresh b (hI.fs b (by omega)) (by omega), hdp, fun D hD => ?_, fun r hr => ?_, fun pre r rest hq p hp => ?_, fun r hr => ?_, fun j s r b hs hr hb => ?_, fun D hD x hx hxw => ?_⟩
      · obtain ⟨hD1, hD2⟩ := andT (show ((bif se.w then D (rlen srecs) && fullX D se.wr srecs else true) && seenM D srecs) = true from hD)
        obtain ⟨g1, g2⟩ := hI.at_ D hD2
        have hget' := heapOf_cons L0 D ⟨i, o, wt, nxv, tv, e, false⟩ recs
        have hsl : sheapM H0 D (⟨nx, se, fr, ld⟩ :: srecs) = bif D i then sapply (sheapM H0 D srecs) nx se else sheapM H0 D srecs := by rw [sheapM, rlen_eq, hi]
        cases hDi : D i with
        | true =>
          have hsame : ∀ p ∈ se.wr, sget (sheapM H0 D srecs) p.1 = sget (sheapM H0 (bitM ms i) srecs) p.1 := by
            intro p hp
            have hw1 : se.w = true := by unfold SEff.w; split; rename_i q; rw [q] at hp; cases hp; rfl
            rw [hw1] at hD1
            rw [sheapM_full hI.dp (andT hD1).2, sheapM_full hI.dp (hw hw1)]
          have hwi : ∀ p ∈ e.wr, (hget (heapOf L0 D recs) p.1).isSome = true := by
            intro p hp
            have hw1 := hsw (fun q => by rw [q] at hp; cases hp)
            rw [hw1] at hD1
            rw [heapOf_full hI.dp (andT hD1).2, ← heapOf_full hI.dp (hw hw1)]
            exact he.wrIn p hp
          constructor
          · refine RH.congr (he.heap _ _ g1 hsame g2 hI.fs) (fun b => by rw [hsl, hDi]; rfl) (fun b => by rw [hget', if_pos hDi])
          · intro b hb
            rw [hget', if_pos hDi]
            exact applyL_none hwi g2 b hb
        | false =>
          have hwf : se.w = false := by
            cases hq : se.w with
            | false => rfl
            | true =>
              rw [hq] at hD1
              have := (andT hD1).1
              rw [rlen_eq, hi, hDi] at this
              cases this
          constructor
          · exact RH.congr (g1.more he.ex (he.same (hwn hwf))) (fun b => by rw [hsl, hDi]; rfl) (fun b => by rw [hget', if_neg (by rw [hDi]; simp)])
          · intro b hb
            rw [hget', if_neg (by rw [hDi]; simp)]
            exact g2 b (by omega)
      · rcases List.mem_cons.1 hr with rfl | hr
        · rfl
        · exact hI.ex r hr
      · cases pre with
        | nil =>
          simp only [List.nil_append, List.cons.injEq] at hq
          obtain ⟨rfl, rfl⟩ := hq
          exact he.wrIn p hp
        | cons y pre =>
          simp only [List.cons_append, List.cons.injEq] at hq
          exact hI.wr pre r rest hq.2 p hp
      · rcases List.mem_cons.1 hr with rfl | hr
        · right
          intro x hx hxw hne
          rcases List.mem_cons.1 hx with rfl | hx
          · exact absurd rfl hne
          · have := hI.dp.idx x hx
            rw [if_pos (show x.i < i by omega)]
            exact .inl (hI.sw (bitM ms i) hseen x hx hxw)
        · by_cases hfree : FreeR r
          · exact .inl hfree
          · right
            intro x hx hxw hne
            have hord := (hI.ord r hr).resolve_left hfree
            rcases List.mem_cons.1 hx with rfl | hx
            · have := hI.dp.idx r hr
              rw [if_neg (show ¬ i < r.i by omega)]
              rcases fullX_of hI.dp (hw (hsw hxw)) r hr with q | q | q
              · exact .inl q
              · exact absurd q hfree
              · obtain ⟨l1, l2, j, s, b, l3, l4, l5, l6⟩ := q
                obtain ⟨eb, b', v0, m1, m2, m3, m4⟩ := hI.lds j s r b l4 l3 l5
                refine .inr ⟨l1, l2, b', m3, fun p hp hpe => ?_⟩
                obtain ⟨q, hq, blk, eb2, v2, n1, n2, n3⟩ := he.wrAt p hp
                have hseenA : seenM (fun _ => true) srecs = true := seenM_all srecs
                obtain ⟨g1, _⟩ := hI.at_ (fun _ => true) hseenA
                rw [sheapM_full hI.dp (hw (hsw hxw))] at n1
                obtain ⟨blk1, hb1⟩ := Option.isSome_iff_exists.1 m4
                exact l6 q hq (g1.inj q.1 b blk blk1 eb2 eb b' v2 v0 n1 hb1 n2 m1 (by rw [n3, hpe]) m2)
            · exact hord x hx hxw hne
      · -- lds: the new record by hld, the elder by hI.lds, he.act; presence through sapply
        have grow : (sget (sheapM H0 (fun _ => true) srecs) b).isSome = true → (sget (sheapM H0 (fun _ => true) (⟨nx, se, fr, ld⟩ :: srecs)) b).isSome = true := by
          intro q
          show (sget (sapply (sheapM H0 (fun _ => true) srecs) nx se) b).isSome = true
          exact sapply_some q
        cases j with
        | zero =>
          simp only [List.getElem?_cons_zero, Option.some.injEq] at hs hr
          subst hs; subst hr
          obtain ⟨_, eb, b', v0, m1, m2, m3, m4⟩ := hld b hb
          obtain ⟨eb', v1, n1, n2⟩ := he.act b eb b' v0 m1 m2
          exact ⟨eb', b', v1, n1, n2, m3, grow (sheapM_some m4)⟩
        | succ j =>
          simp only [List.getElem?_cons_succ] at hs hr
          obtain ⟨eb, b', v0, m1, m2, m3, m4⟩ := hI.lds j s r b hs hr hb
          obtain ⟨eb', v1, n1, n2⟩ := he.act b eb b' v0 m1 m2
          exact ⟨eb', b', v1, n1, n2, m3, grow m4⟩
      · obtain ⟨hD1, hD2⟩ := andT (show ((bif se.w then D (rlen srecs) && fullX D se.wr srecs else true) && seenM D srecs) = true from hD)
        rcases List.mem_cons.1 hx with rfl | hx
        · rw [hsw hxw] at hD1
          have := (andT hD1).1
          rwa [rlen_eq, hi] at this
        · exact hI.sw D hD2 x hx hxw
    cases hw : wantedV ops tv o with
    | false =>
      rw [hw] at h1
      simp only [cond_false] at h1
      have hn := push false true none (SEff.pure (.tup [])) (Eff.pure (.tup [])) ε (ER.pure undef_rv) (fun q => by cases q) (fun _ => ⟨rfl, .inl rfl⟩) (fun b q => by cases q)
      obtain ⟨tv', nxv', recs', ⟨N, k1⟩, ε', t', nx', srecs', k2, k3, k4⟩ := sfwd_of hC hn (by simp [hi]) h1
      refine ⟨tv', nxv', recs', ⟨N, fun n hN => ?_⟩, ε', t', nx', srecs', k2, k3, k4⟩
      rw [fwd, hw]
      exact k1 n hN
    | true =>
      rw [hw] at h1
      simp only [cond_true] at h1
      split at h1
      · cases h1
      · rename_i hs
        have hsn := sharedS_none ht1 hs h1
        obtain ⟨g1, g2⟩ := hI.at_ (bitM ms i) hseen
        obtain ⟨se, e, ε1, k1, ⟨N1, k2⟩, k3⟩ := sop_of hC g1 ht1 hI.fs (vbase := nxv) h1
        obtain ⟨hfull, k1⟩ := bif_of k1
        have hn := push true (freeOp o && se.nil) (bif se.nil then loadSB (sheapM H0 (bitM ms i) srecs) t1 o else none) se e ε1 k3 (fun q => by rw [q] at hfull; exact hfull) (fun q => ⟨(andT q).2, .inr (andT q).1⟩) (fun b q => by
          cases hn : se.nil with
          | false => rw [hn] at q; cases q
          | true => rw [hn] at q; exact ⟨rfl, loadSB_of g1 ht1 q⟩)
        obtain ⟨tv', nxv', recs', ⟨N2, j1⟩, ε', t', nx', srecs', j2, j3, j4⟩ := sfwd_of hC hn (by simp [hi]) k1
        refine ⟨tv', nxv', recs', ⟨max N1 N2, fun n hN => ?_⟩, ε', t', nx', srecs', k3.ex.trans j2, j3, j4⟩
        rw [fwd, hw]
        simp only [if_true, stepE, hsn, opE_eq, k2 n (by omega)]
        exact j1 n (by omega)

theorem sdraw_of {call : SCall} (hC : SCallOK call (fun n => callI P cf (exec P cf n))) {ops : List Oper} {K : SSt → Prop} {ss : SSt} {s : St} {ε : Nat → Option BE} (hr : RSt ε ss s) (h : sdraw sx P cf call ops ss K) :
    ∃ s', (∃ N, ∀ n, N ≤ n → runDraw P cf (callI P cf (exec P cf n)) (callS P (exec P cf n)) ops s.t s.H s.nx = some (s'.t, s'.H, s'.nx)) ∧ ∃ ε' ss', EX ε ε' ∧ RSt ε' ss' s' ∧ K ss' := by
  unfold sdraw at h
  obtain ⟨hd, h⟩ := bif_of h
  have h0 : DInv (masks ops []) ss.H s.H ε ss.t s.t ss.nx s.nx [] [] :=
    ⟨hr.t, hr.fs, .nil, fun D _ => ⟨hr.H, hr.fv⟩, fun r hr => (by cases hr), fun pre r rest hq => (by cases pre <;> cases hq), fun r hr => (by cases hr), fun j s r b hs => (by simp at hs), fun D _ x hx => (by cases hx)⟩
  obtain ⟨tv', nxv', recs', ⟨N, k1⟩, ε', t', nx', srecs', k2, k3, k4⟩ := sfwd_of hC h0 rfl h
  have hall : seenM (fun _ => true) srecs' = true := seenM_all srecs'
  obtain ⟨g1, g2⟩ := k3.at_ _ hall
  refine ⟨⟨tv', heapOf s.H (fun _ => true) recs', nxv'⟩, ⟨N, fun n hn => ?_⟩, ε', _, k2, ⟨k3.t, g1, k3.fs, g2⟩, k4⟩
  unfold runDraw
  rw [if_pos hd, show fwd P cf (callI P cf (exec P cf n)) (callS P (exec P cf n)) ops (masks ops []) s.H ops 0 s.t s.nx [] = some (tv', nxv', recs') from k1 n hn]
  simp only
  rw [if_pos (by rw [chk_of k3.ex k3.wr k3.ord recs' [] rfl]; simp)]
end
end
end Go.Proofs.Ytnnfcebnmogdmaa.VM
/- Values with labels: rows that go back and may be written on. No conditions. -/
namespace Go.Proofs.Ytnnfcebnmogdmaa.VM
set_option linter.unusedSimpArgs false
set_option linter.unusedVariables false
open Go Go.RowKit
noncomputable section
section
variable {ε : Nat → Option BE} {H : SHeap} {L : Heap}

/-- A row that goes back, by its label and as it is. -/
def QR (ε : Nat → Option BE) (H : SHeap) (q : Nat × SN × Nat × Nat × SN) (q' : Nat × Nat × Nat × Nat) : Prop :=
  ∃ blk e0, sget H q.1 = some blk ∧ ε q.1 = some e0 ∧ e0.act = some (q'.1, q'.2.2.1) ∧ q'.2.1 = q.2.1.val * q.2.2.1 ∧ q'.2.2.2 = q.2.2.2.2.val
inductive QL (ε : Nat → Option BE) (H : SHeap) : List (Nat × SN × Nat × Nat × SN) → List (Nat × Nat × Nat × Nat) → Prop
  | nil : QL ε H [] []
  | cons {q : Nat × SN × Nat × Nat × SN} {q' : Nat × Nat × Nat × Nat} {l : List (Nat × SN × Nat × Nat × SN)} {l' : List (Nat × Nat × Nat × Nat)} : QR ε H q q' → QL ε H l l' → QL ε H (q :: l) (q' :: l')
theorem QL.length {l : List (Nat × SN × Nat × Nat × SN)} {l' : List (Nat × Nat × Nat × Nat)} (h : QL ε H l l') : l.length = l'.length := by
  induction h with
  | nil => rfl
  | cons _ _ ih => simp [ih]
theorem QR.fst (hH : RH ε H L) {p q : Nat × SN × Nat × Nat × SN} {p' q' : Nat × Nat × Nat × Nat} (hp : QR ε H p p') (hq : QR ε H q q') : p.1 = q.1 ↔ p'.1 = q'.1 := by
  obtain ⟨b1, e1, h1, h2, h3, _⟩ := hp
  obtain ⟨b2, e2, k1, k2, k3, _⟩ := hq
  constructor
  · intro e
    rw [e, k2] at h2
    cases h2
    rw [k3] at h3
    simp only [Option.some.injEq, Prod.mk.injEq] at h3
    exact h3.1.symm
  · intro e
    rw [e] at h3
    exact hH.inj _ _ _ _ _ _ _ _ _ h1 k1 h2 k2 h3 k3
theorem nodup_rel (hH : RH ε H L) {l : List (Nat × SN × Nat × Nat × SN)} {l' : List (Nat × Nat × Nat × Nat)} (h : QL ε H l l') (hn : nodupB (l.map (·.1)) = true) : nodupB (l'.map (·.1)) = true := by
  induction h with
  | nil => rfl
  | @cons q q' l l' hq hl ih =>
    simp only [List.map_cons, nodupB, Bool.and_eq_true, Bool.not_eq_true'] at hn ⊢
    refine ⟨?_, ih hn.2⟩
    have h1 := hn.1
    clear ih hn
    revert h1
    induction hl with
    | nil => intro _; rfl
    | @cons p p' l l' hp hl ih =>
      intro h1
      simp only [List.map_cons, List.contains_cons, Bool.or_eq_false_iff] at h1 ⊢
      refine ⟨?_, ih h1.2⟩
      have : q.1 ≠ p.1 := by simpa using h1.1
      have := mt (QR.fst hH hq hp).2 this
      simpa using this
theorem idx_rel (hH : RH ε H L) {b : Nat × SN × Nat × Nat × SN} {b' : Nat × Nat × Nat × Nat} (hb : QR ε H b b') {l : List (Nat × SN × Nat × Nat × SN)} {l' : List (Nat × Nat × Nat × Nat)} (h : QL ε H l l') : ∀ {k j : Nat}, idxN (l.map (·.1)) b.1 k = some j → idxN (l'.map (·.1)) b'.1 k = some j ∧ j < k + l.length := by
  induction h with
  | nil => intro k j h; cases h
  | @cons q q' l l' hq hl ih =>
    intro k j h
    simp only [List.map_cons, idxN] at h ⊢
    split at h
    · rename_i e
      cases h
      rw [if_pos ((QR.fst hH hq hb).1 e)]
      exact ⟨rfl, by simp⟩
    · rename_i e
      rw [if_neg (mt (QR.fst hH hq hb).2 e)]
      obtain ⟨h1, h2⟩ := ih h
      exact ⟨h1, by simp only [List.length_cons]; omega⟩
theorem shrem_get : ∀ (H : SHeap) (X : List Nat) (b : Nat), sget (shrem H X) b = if X.contains b then none else sget H b
  | [], X, b => by simp [shrem, sget]
  | (i, x) :: r, X, b => by
    rw [shrem]
    cases h : X.contains i with
    | true =>
      simp only [cond_true]
      rw [shrem_get r X b, sget_cons]
      by_cases q : b = i
      · subst q; rw [if_pos h, if_pos h]
      · rw [if_neg q]
    | false =>
      simp only [cond_false]
      rw [sget_cons, sget_cons]
      by_cases q : b = i
      · subst q; rw [if_pos rfl, if_neg (by rw [h]; simp), if_pos rfl]
      · rw [if_neg q, if_neg q, shrem_get r X b]
theorem rem_rel (hH : RH ε H L) {l : List (Nat × SN × Nat × Nat × SN)} {l' : List (Nat × Nat × Nat × Nat)} (h : QL ε H l l') : RH ε (shrem H (l.map (·.1))) (hrem L (l'.map (·.1))) := by
  have mem : ∀ b blk e b' v, sget H b = some blk → ε b = some e → e.act = some (b', v) → ((l'.map (·.1)).contains b' = true → (l.map (·.1)).contains b = true) := by
    intro b blk e b' v h1 h2 h3 h4
    induction h with
    | nil => cases h4
    | @cons q q' l l' hq hl ih =>
      simp only [List.map_cons, List.contains_cons, Bool.or_eq_true, beq_iff_eq] at h4 ⊢
      rcases h4 with h4 | h4
      · left
        obtain ⟨b2, e2, k1, k2, k3, _⟩ := hq
        rw [← h4] at k3
        exact hH.inj _ _ _ _ _ _ _ _ _ h1 k1 h2 k2 h3 k3
      · exact .inr (ih h4)
  refine ⟨fun b blk hb => ?_, fun b1 b2 blk1 blk2 e1 e2 c v1 v2 h1 h2 => ?_⟩
  · rw [shrem_get] at hb
    split at hb
    · cases hb
    · rename_i hn
      obtain ⟨e, h1, h2, h3, h4⟩ := hH.at_ b blk hb
      refine ⟨e, h1, h2, h3, h4.imp id ?_⟩
      rintro ⟨b', v', ab, g1, g2, g3⟩
      refine ⟨b', v', ab, g1, ?_, g3⟩
      rw [hrem_get, if_neg (fun q => hn (mem b blk e b' v' hb h1 g1 q))]
      exact g2
  · rw [shrem_get] at h1 h2
    split at h1
    · cases h1
    · split at h2
      · cases h2
      · exact hH.inj b1 b2 blk1 blk2 e1 e2 c v1 v2 h1 h2
/-- A label of a row that goes back. -/
def okQ (H : SHeap) (q : Nat × SN × Nat × Nat × SN) : Prop := ∃ blk, sget H q.1 = some blk ∧ blk.ver = q.2.2.2.1 ∧ blk.fz = false ∧ blk.k = q.2.2.1 ∧ blk.lz = false
theorem qr_of (hH : RH ε H L) {b k ver : Nat} {e n : SN} {c : V} (r : RV ε (.slB b e k ver n) c) (ho : okQ H (b, e, k, ver, n)) : ∃ b' off' ver' n', c = .slB b' off' ver' n' ∧ QR ε H (b, e, k, ver, n) (b', off', ver', n') := by
  obtain ⟨blk, h1, h2, h3, h4, h5⟩ := ho
  obtain ⟨e0, g1, g2, g3, hq⟩ := slB_at' hH h1 (by rw [h2]; simp) r
  rcases hq with ⟨b', v0, ab, q1, rfl, _⟩ | ⟨q, _⟩
  · exact ⟨_, _, _, _, rfl, blk, e0, h1, g1, q1, rfl, rfl⟩
  · rw [h5] at q; cases q
theorem sexpB_of (hH : RH ε H L) {R : SHeap} {RL' : Heap} (hR : RH ε R RL') : ∀ {qs : List (Nat × SN × Nat × Nat × SN)} {K : List SBlk → Prop}, sexpB H R qs K → (∀ q ∈ qs, okQ H q) ∧ ∀ qs', QL ε H qs qs' → ∃ ss bs, K ss ∧ mapO (expB L RL') qs' = some bs ∧ ss.length = qs.length ∧ ∀ ε', NewR ε' ss bs
  | [], K, h => ⟨fun q hq => (by cases hq), fun qs' hq => by cases hq; exact ⟨[], [], h, rfl, rfl, fun _ => .nil⟩⟩
  | (b, e, k, ver, n) :: qs, K, h => by
    unfold sexpB at h
    split at h
    · rename_i blk hb
      obtain ⟨h0, h⟩ := bif_of h
      obtain ⟨h0, hlz⟩ := andT h0
      obtain ⟨h0, hk⟩ := andT h0
      obtain ⟨hver, hfz⟩ := andT h0
      have hfz : blk.fz = false := by simpa using hfz
      have hlz : blk.lz = false := by simpa using hlz
      have hk := beqT hk
      have hver' := beqT hver
      -- the cells do not hang on what is known of the rows
      obtain ⟨e0, g1, g2, g3, g4⟩ := hH.at_ b blk hb
      rcases g4 with ⟨q, _⟩ | ⟨b', v', ab, q1, q2, q3, q4, q5, q6⟩
      · rw [hlz] at q; cases q
      · obtain ⟨c, k1, k2, k3, k4, k5⟩ := SC.cut_of h g3 q6
        obtain ⟨c2, rs, ws, rs', j1, jc, j2, j3, j4⟩ := SCreify_of (show (50 : Nat) ≤ 60 by omega) (fun s v K r hk => sreify_of hR 50 60 s v K (by omega) r hk) k2 k4 k1
        obtain ⟨ih1, ih2⟩ := sexpB_of hH hR j1
        refine ⟨fun q hq => ?_, fun qs' hq => ?_⟩
        · rcases List.mem_cons.1 hq with rfl | hq
          · exact ⟨blk, hb, hver', hfz, hk, hlz⟩
          · exact ih1 q hq
        · cases hq with
          | @cons _ q' _ l' hqr hl =>
            obtain ⟨ss, bs, m1, m2, m3, m4⟩ := ih2 l' hl
            obtain ⟨blk2, e2, n1, n2, n3, n4, n5⟩ := hqr
            obtain ⟨x1, x2, x3, x4⟩ := q'
            simp only at n1 n2 n3 n4 n5
            rw [hb] at n1; cases n1
            rw [g1] at n2; cases n2
            rw [q1] at n3; cases n3
            refine ⟨_, ⟨ws, k, 0, false⟩ :: bs, m1, ?_, by simp [m3], fun ε' => .cons jc rfl rfl rfl (fun _ => rfl) rfl (j3 ε') (m4 ε')⟩
            have e1 : expB L RL' (b', x2, v', x4) = some ⟨ws, k, 0, false⟩ := by
              simp only [expB, q2]
              rw [n4, n5, q4, hk, if_pos ⟨q3, q5 hfz, by rw [← Nat.add_mul]; exact k3⟩, j2]
            simp only [mapO, e1, m2]
    · cases h
theorem sexpC_of (hH : RH ε H L) {R : SHeap} {RL' : Heap} (hR : RH ε R RL') {qs : List (Nat × SN × Nat × Nat × SN)} {base vbase : Nat} {s : SV} {c : V} {K : SV → Prop} (r : RV ε s c) (h : sexpC R (qs.map (·.1)) base s K) (hok : ∀ b e k ver n, s = .slB b e k ver n → okQ H (b, e, k, ver, n)) :
    (∃ b e k ver n b' off' ver' n', s = .slB b e k ver n ∧ c = .slB b' off' ver' n' ∧ QR ε H (b, e, k, ver, n) (b', off', ver', n') ∧ ∃ j, idxN (qs.map (·.1)) b 0 = some j ∧ K (.slB (base + j) (.lit 0) k 0 n)) ∨
    ((∀ b e k ver n, s ≠ .slB b e k ver n) ∧ (∀ b o v n, c ≠ .slB b o v n) ∧ ∃ s' w rs', K s' ∧ reify RL' true 60 c = some (w, rs') ∧ ∀ ε', RV ε' s' w) := by
  unfold sexpC at h
  split at h
  · rename_i b e k ver n
    split at h
    · rename_i j hj
      obtain ⟨b', off', ver', n', rfl, hq⟩ := qr_of hH r (hok _ _ _ _ _ rfl)
      exact .inl ⟨b, e, k, ver, n, b', off', ver', n', rfl, rfl, hq, j, hj, h⟩
    · cases h
  · rename_i hne
    right
    obtain ⟨s', rs, w, rs', h1, h2, h3, h4⟩ := sreify_of hR 50 60 s c _ (by omega) r h
    refine ⟨fun b e k ver n q => hne b e k ver n q, fun b o v n q => ?_, s', w, rs', h1, h2, h3⟩
    subst q
    cases r with
    | any => cases h
    | slB => exact hne _ _ _ _ _ rfl
    | ptrB he hv hp ho =>
      rename_i b1 k1 f1 ver1 o1 e1
      unfold sreify at h
      simp only at h
      split at h
      · rename_i blk e2 hb
        obtain ⟨h0, _⟩ := bif_of h
        obtain ⟨_, _, _, _, _, _, _, q, _⟩ := ptrB_at hR hb (andT h0).1 (.ptrB he hv hp ho)
        cases q
      · cases h
inductive R3 (Q : SV → V → SV → Prop) : List SV → List V → List SV → Prop
  | nil : R3 Q [] [] []
  | cons {s : SV} {c : V} {s' : SV} {l : List SV} {cs : List V} {l' : List SV} : Q s c s' → R3 Q l cs l' → R3 Q (s :: l) (c :: cs) (s' :: l')
theorem sexpL_of {f : SV → (SV → Prop) → Prop} {Q : SV → V → SV → Prop} : ∀ {l : List SV} {cs : List V} {K : List SV → Prop}, (∀ s ∈ l, ∀ c K, RV ε s c → f s K → ∃ s', K s' ∧ Q s c s') → RL ε l cs → sexpL f l K → ∃ ss, K ss ∧ R3 Q l cs ss
  | _, _, K, _, .nil, h => ⟨[], h, .nil⟩
  | s :: l, c :: cs, K, hf, .cons r q, h => by
    obtain ⟨s', h1, h2⟩ := hf s (List.mem_cons_self ..) c _ r h
    obtain ⟨ss, h3, h4⟩ := sexpL_of (fun s hs => hf s (List.mem_cons_of_mem _ hs)) q h1
    exact ⟨s' :: ss, h3, .cons h2 h4⟩
theorem QL.append {a b : List (Nat × SN × Nat × Nat × SN)} {a' b' : List (Nat × Nat × Nat × Nat)} (h : QL ε H a a') (k : QL ε H b b') : QL ε H (a ++ b) (a' ++ b') := by
  induction h with
  | nil => exact k
  | cons q _ ih => exact .cons q ih
/-- What is told of a value that goes back. -/
def TQ (ε : Nat → Option BE) (H : SHeap) (RL' : Heap) (qs : List (Nat × SN × Nat × Nat × SN)) (base vbase : Nat) (ex : Heap → List Nat → Nat → V → Option V) (A : SV → List (Nat × SN × Nat × Nat × SN)) (A' : V → List (Nat × Nat × Nat × Nat)) (s : SV) (c : V) (s' : SV) : Prop :=
  QL ε H (A s) (A' c) ∧ ∀ qs', QL ε H qs qs' → ∃ w, ex RL' (qs'.map (·.1)) vbase c = some w ∧ RV (newsE noE base vbase qs.length) s' w
def cellId : SV → List (Nat × SN × Nat × Nat × SN)
  | .slB b e k ver n => [(b, e, k, ver, n)]
  | _ => []
def cellId' : V → List (Nat × Nat × Nat × Nat)
  | .slB b off ver n => [(b, off, ver, n)]
  | _ => []
theorem filterMap_cell (l : List SV) : (l.filterMap fun | .slB b e k ver n => some (b, e, k, ver, n) | _ => none) = l.flatMap cellId := by
  induction l with
  | nil => rfl
  | cons s l ih => cases s <;> simp [cellId, ih]
theorem filterMap_cell' (l : List V) : (l.filterMap fun | .slB b off ver n => some (b, off, ver, n) | _ => none) = l.flatMap cellId' := by
  induction l with
  | nil => rfl
  | cons s l ih => cases s <;> simp [cellId', ih]
theorem sexpC_tq (hH : RH ε H L) {R : SHeap} {RL' : Heap} (hR : RH ε R RL') {qs : List (Nat × SN × Nat × Nat × SN)} {base vbase : Nat} {s : SV} {c : V} {K : SV → Prop} (r : RV ε s c) (h : sexpC R (qs.map (·.1)) base s K) (hok : ∀ q ∈ cellId s, okQ H q) :
    ∃ s', K s' ∧ TQ ε H RL' qs base vbase expC cellId cellId' s c s' := by
  rcases sexpC_of (vbase := vbase) hH hR r h (fun b e k ver n q => hok _ (by rw [q]; exact List.mem_singleton.2 rfl)) with ⟨b, e, k, ver, n, b', off', ver', n', rfl, rfl, hq, j, hj, hK⟩ | ⟨h1, h2, s', w, rs', hK, h3, h4⟩
  · refine ⟨_, hK, .cons hq .nil, fun qs' hqs => ?_⟩
    obtain ⟨g1, g2⟩ := idx_rel (b := (b, e, k, ver, n)) (b' := (b', off', ver', n')) hH hq hqs (k := 0) (j := j) hj
    refine ⟨.slB (vbase + j) 0 0 n', by simp only [expC]; rw [g1]; rfl, ?_⟩
    obtain ⟨_, _, _, _, _, _, hn⟩ := hq
    simp only at hn
    refine .slB (e := ⟨0, some (vbase + j, 0)⟩) ?_ (Nat.le_refl _) (fun _ => .inl ⟨vbase + j, 0, rfl, by rw [hn]; simp⟩) rfl
    unfold newsE
    rw [if_pos (by omega), Nat.add_sub_cancel_left]
  · refine ⟨s', hK, ?_, fun qs' hqs => ⟨w, ?_, h4 _⟩⟩
    · have e1 : cellId s = [] := by cases s <;> first | rfl | exact absurd rfl (h1 _ _ _ _ _)
      have e2 : cellId' c = [] := by cases c <;> first | rfl | exact absurd rfl (h2 _ _ _ _)
      rw [e1, e2]
      exact .nil
    · unfold expC
      split
      · exact absurd rfl (h2 _ _ _ _)
      · rw [h3]; rfl
theorem R3_tq {RL' : Heap} {qs : List (Nat × SN × Nat × Nat × SN)} {base vbase : Nat} {ex : Heap → List Nat → Nat → V → Option V} {A : SV → List (Nat × SN × Nat × Nat × SN)} {A' : V → List (Nat × Nat × Nat × Nat)} {l : List SV} {cs : List V} {ss : List SV} (h : R3 (TQ ε H RL' qs base vbase ex A A') l cs ss) :
    QL ε H (l.flatMap A) (cs.flatMap A') ∧ ∀ qs', QL ε H qs qs' → ∃ ws, mapO (ex RL' (qs'.map (·.1)) vbase) cs = some ws ∧ RL (newsE noE base vbase qs.length) ss ws := by
  induction h with
  | nil => exact ⟨.nil, fun qs' _ => ⟨[], rfl, .nil⟩⟩
  | cons h1 _ ih =>
    refine ⟨by rw [List.flatMap_cons, List.flatMap_cons]; exact h1.1.append ih.1, fun qs' hq => ?_⟩
    obtain ⟨w, g1, g2⟩ := h1.2 qs' hq
    obtain ⟨ws, g3, g4⟩ := ih.2 qs' hq
    exact ⟨w :: ws, by simp only [mapO, g1, g3], .cons g2 g4⟩
theorem sexpT_tq (hH : RH ε H L) {R : SHeap} {RL' : Heap} (hR : RH ε R RL') {qs : List (Nat × SN × Nat × Nat × SN)} {base vbase : Nat} {s : SV} {c : V} {K : SV → Prop} (r : RV ε s c) (h : sexpT R (qs.map (·.1)) base s K) (hok : ∀ q ∈ stopIds s, okQ H q) :
    ∃ s', K s' ∧ TQ ε H RL' qs base vbase expT stopIds topIds s c s' := by
  unfold sexpT at h
  split at h
  · rename_i cs
    cases r with
    | agg q =>
      rename_i cs'
      have hids : stopIds (.agg cs) = cs.flatMap cellId := filterMap_cell cs
      have hids' : topIds (.agg cs') = cs'.flatMap cellId' := filterMap_cell' cs'
      rw [hids] at hok
      obtain ⟨ss, h1, h2⟩ := sexpL_of (fun s hs c K r hk => sexpC_tq (vbase := vbase) hH hR r hk (fun q hq => hok q (List.mem_flatMap.2 ⟨s, hs, hq⟩))) q h
      obtain ⟨h3, h4⟩ := R3_tq h2
      refine ⟨_, h1, by rw [hids, hids']; exact h3, fun qs' hq => ?_⟩
      obtain ⟨ws, g1, g2⟩ := h4 qs' hq
      exact ⟨.agg ws, by simp only [expT, g1]; rfl, .agg g2⟩
  · rename_i hne
    have e1 : stopIds s = cellId s := by cases s <;> first | rfl | exact absurd rfl (hne _)
    rw [e1] at hok
    obtain ⟨s', h1, h2, h3⟩ := sexpC_tq (vbase := vbase) hH hR r h hok
    have hca : ∀ cs, c ≠ .agg cs := by
      intro cs q
      subst q
      cases r with
      | any => simp only [sexpC, sreify] at h; cases h
      | agg => exact hne _ rfl
      | ptrB _ _ _ ho => cases ho
      | slB _ _ _ ho => cases ho
    have e2 : topIds c = cellId' c := by cases c <;> first | rfl | exact absurd rfl (hca _)
    refine ⟨s', h1, by rw [e1, e2]; exact h2, fun qs' hq => ?_⟩
    obtain ⟨w, g1, g2⟩ := h3 qs' hq
    refine ⟨w, ?_, g2⟩
    unfold expT
    split
    · exact absurd rfl (hca _)
    · exact g1
theorem sexpV_tq (hH : RH ε H L) {R : SHeap} {RL' : Heap} (hR : RH ε R RL') {qs : List (Nat × SN × Nat × Nat × SN)} {base vbase : Nat} {s : SV} {c : V} {K : SV → Prop} (r : RV ε s c) (h : sexpV R (qs.map (·.1)) base s K) (hok : ∀ q ∈ sallIds s, okQ H q) :
    ∃ s', K s' ∧ TQ ε H RL' qs base vbase expV sallIds allIds s c s' := by
  unfold sexpV at h
  split at h
  · rename_i cs
    cases r with
    | tup q =>
      rename_i cs'
      have hok : ∀ q ∈ cs.flatMap stopIds, okQ H q := hok
      obtain ⟨ss, h1, h2⟩ := sexpL_of (fun s hs c K r hk => sexpT_tq (vbase := vbase) hH hR r hk (fun q hq => hok q (List.mem_flatMap.2 ⟨s, hs, hq⟩))) q h
      obtain ⟨h3, h4⟩ := R3_tq h2
      refine ⟨_, h1, h3, fun qs' hq => ?_⟩
      obtain ⟨ws, g1, g2⟩ := h4 qs' hq
      exact ⟨.tup ws, by simp only [expV, g1]; rfl, .tup g2⟩
  · rename_i hne
    have e1 : sallIds s = stopIds s := by cases s <;> first | rfl | exact absurd rfl (hne _)
    rw [e1] at hok
    obtain ⟨s', h1, h2, h3⟩ := sexpT_tq (vbase := vbase) hH hR r h hok
    have hca : ∀ cs, c ≠ .tup cs := by
      intro cs q
      subst q
      cases r with
      | any => simp only [sexpT, sexpC, sreify] at h; cases h
      | tup => exact hne _ rfl
      | ptrB _ _ _ ho => cases ho
      | slB _ _ _ ho => cases ho
    have e2 : allIds c = topIds c := by cases c <;> first | rfl | exact absurd rfl (hca _)
    refine ⟨s', h1, by rw [e1, e2]; exact h2, fun qs' hq => ?_⟩
    obtain ⟨w, g1, g2⟩ := h3 qs' hq
    refine ⟨w, ?_, g2⟩
    unfold expV
    split
    · exact absurd rfl (hca _)
    · exact g1
theorem sexpC_ex {R : SHeap} (hR : RH ε R L) {ids : List Nat} {base : Nat} {s : SV} {c : V} {K : SV → Prop} (r : RV ε s c) (h : sexpC R ids base s K) : ∃ s', K s' ∧ True := by
  unfold sexpC at h
  split at h
  · split at h
    · exact ⟨_, h, trivial⟩
    · cases h
  · obtain ⟨s', rs, w, rs', h1, _⟩ := sreify_of hR 50 60 s c _ (by omega) r h
    exact ⟨s', h1, trivial⟩
theorem sexpT_ex {R : SHeap} (hR : RH ε R L) {ids : List Nat} {base : Nat} {s : SV} {c : V} {K : SV → Prop} (r : RV ε s c) (h : sexpT R ids base s K) : ∃ s', K s' ∧ True := by
  unfold sexpT at h
  split at h
  · cases r with
    | agg q =>
      obtain ⟨ss, h1, _⟩ := sexpL_of (Q := fun _ _ _ => True) (fun s _ c K r hk => sexpC_ex hR r hk) q h
      exact ⟨_, h1, trivial⟩
  · exact sexpC_ex hR r h
theorem sexpV_ex {R : SHeap} (hR : RH ε R L) {ids : List Nat} {base : Nat} {s : SV} {c : V} {K : SV → Prop} (r : RV ε s c) (h : sexpV R ids base s K) : ∃ s', K s' := by
  unfold sexpV at h
  split at h
  · cases r with
    | tup q =>
      obtain ⟨ss, h1, _⟩ := sexpL_of (Q := fun _ _ _ => True) (fun s _ c K r hk => sexpT_ex hR r hk) q h
      exact ⟨_, h1⟩
  · obtain ⟨s', h1, _⟩ := sexpT_ex hR r h
    exact ⟨s', h1⟩
/-- Rows that go back. -/
theorem sexportT_of (hH : RH ε H L) {base vbase : Nat} {s : SV} {c : V} {K : SV → List SBlk → Prop} (r : RV ε s c) (h : sexportT H base s K) :
    ∃ v blks s' ss, exportT L vbase c = some (v, blks) ∧ K s' ss ∧ NewR (newsE noE base vbase ss.length) ss blks ∧ RV (newsE noE base vbase ss.length) s' v := by
  have h' : bif nodupB ((sallIds s).map (·.1)) then sexpV (shrem H ((sallIds s).map (·.1))) ((sallIds s).map (·.1)) base s (fun v' => sexpB H (shrem H ((sallIds s).map (·.1))) (sallIds s) fun bs => K v' bs) else _ := h
  obtain ⟨hnd, h1⟩ := bif_of h'
  clear h h'
  have hR0 : RH ε (shrem H ((sallIds s).map (·.1))) L := by
    refine ⟨fun b blk hb => ?_, fun b1 b2 blk1 blk2 e1 e2 c v1 v2 g1 g2 => ?_⟩
    · rw [shrem_get] at hb
      split at hb
      · cases hb
      · exact hH.at_ b blk hb
    · rw [shrem_get] at g1 g2
      split at g1
      · cases g1
      · split at g2
        · cases g2
        · exact hH.inj b1 b2 blk1 blk2 e1 e2 c v1 v2 g1 g2
  obtain ⟨s0, h2⟩ := sexpV_ex hR0 r h1
  have hok := (sexpB_of hH hR0 h2).1
  obtain ⟨_, _, hq, _⟩ := sexpV_tq (vbase := vbase) hH hR0 r h1 hok
  have hR := rem_rel hH hq
  obtain ⟨s', h3, _, h4⟩ := sexpV_tq (vbase := vbase) hH hR r h1 hok
  obtain ⟨w, h5, h6⟩ := h4 _ hq
  obtain ⟨ss, bs, h7, h8, h9, h10⟩ := (sexpB_of hH hR h3).2 _ hq
  refine ⟨w, bs, s', ss, ?_, h7, h10 _, by rw [h9]; exact h6⟩
  unfold exportT
  simp only
  rw [if_pos (nodup_rel hH hq hnd), h5, h8]
end
end
end Go.Proofs.Ytnnfcebnmogdmaa.VM
/- Values with labels: results, calls, and the machine. No conditions. -/
namespace Go.Proofs.Ytnnfcebnmogdmaa.VM
set_option linter.unusedSimpArgs false
set_option linter.unusedVariables false
open Go Go.RowKit
noncomputable section
section
variable {P : Program} {cf : Cfg} {sx : SX}

theorem sresults_of {ε : Nat → Option BE} {H : SHeap} {L : Heap} {t : List SV} {tv : List V} (hH : RH ε H L) (ht : RL ε t tv) : ∀ {rs : List ResultVar} {K : List SV → Prop}, sresults P t H rs K → ∃ vs vs', K vs ∧ mapO (resV P tv L) rs = some vs' ∧ RL ε vs vs'
  | [], K, h => ⟨[], [], h, rfl, .nil⟩
  | .tmp i :: r, K, h => by
    obtain ⟨vs, vs', h1, h2, h3⟩ := sresults_of hH ht (show sresults P t H r _ from h)
    exact ⟨_, nth tv i :: vs', h1, by simp [mapO, resV, h2], .cons (snth_rel ht i) h3⟩
  | .cell a ty :: r, K, h => by
    obtain ⟨s, w, g1, g2, g3⟩ := loadS_of hH (snth_rel ht a) (show loadS P H ty (snth t a) _ from h)
    obtain ⟨vs, vs', h1, h2, h3⟩ := sresults_of hH ht g1
    exact ⟨_, w :: vs', h1, by simp [mapO, resV, g2, h2], .cons g3 h3⟩
theorem sresult_rel {ε : Nat → Option BE} {vs : List SV} {vs' : List V} (h : RL ε vs vs') {fn : Func} {tv : List V} {L : Heap} (hm : mapO (resV P tv L) fn.results.toList = some vs') : ∃ v, resultsV P fn tv L = some v ∧ RV ε (sresult vs) v := by
  unfold resultsV
  rw [hm]
  cases h with
  | nil => exact ⟨_, rfl, .tup .nil⟩
  | cons r s => cases s with
    | nil => exact ⟨_, rfl, r⟩
    | cons r2 s2 => exact ⟨_, rfl, .tup (.cons r (.cons r2 s2))⟩
theorem sframe_rel {ε : Nat → Option BE} {fn : Func} {vs : List SV} {vs' : List V} (h : RL ε vs vs') : RL ε (sframe fn vs) (frame fn vs') := by
  unfold sframe frame
  rw [slen_eq, h.length]
  refine h.append ?_
  generalize fn.ntmps - vs'.length = m
  induction m with
  | zero => exact .nil
  | succ m ih => rw [List.replicate_succ, List.replicate_succ]; exact .cons undef_rv ih
theorem RH.empty : RH noE [] [] := ⟨fun b blk h => (by cases h), fun b1 b2 blk1 blk2 e1 e2 c v1 v2 h => (by cases h)⟩
theorem newsE_zero {base vbase : Nat} : newsE noE base vbase 0 = noE := by
  funext b
  unfold newsE
  rw [if_neg (by omega)]

theorem scallI_of {ih : SExec} (hsx : SXOK P cf sx) (hih : SExecOK P cf ih) : SCallOK (scallI sx P cf ih) (fun n => callI P cf (exec P cf n)) := by
  intro f base as K h as' has vbase
  unfold scallI at h
  split at h
  · rename_i C hct
    exact hsx.ct f C hct base as K h as' has vbase
  · split at h
    · cases h
    · rename_i hext
      split at h
      · rename_i fn c hb
        obtain ⟨ex, s', ⟨N, hN⟩, ε', ss', h1, h2, h3⟩ := hih c _ _ h noE ⟨frame fn as', [], 0⟩ ⟨sframe_rel has, RH.empty, fun _ _ => rfl, fun _ _ => rfl⟩
        have hne : ∀ i, ex ≠ .exit i := by
          intro i q
          subst q
          cases h3
        have h4 : sresults P ss'.t ss'.H fn.results.toList fun vs => bif cf.thaw f then sexportT ss'.H base (sresult vs) K else sreify ss'.H true 50 (sresult vs) fun v _ => K v [] := by
          cases ex with
          | exit i => exact absurd rfl (hne i)
          | normal => exact h3
          | ret => exact h3
        obtain ⟨vs, vs', k1, k2, k3⟩ := sresults_of h2.H h2.t h4
        obtain ⟨v, k4, k5⟩ := sresult_rel k3 k2
        have hcall : ∀ n, N ≤ n → callI P cf (exec P cf n) f vbase as' = if cf.thaw f then exportT s'.H vbase v else exportI s'.H v := by
          intro n hn
          unfold callI
          rw [hext]
          simp only [hb, hN n hn]
          cases ex with
          | exit i => exact absurd rfl (hne i)
          | normal => simp only [k4]
          | ret => simp only [k4]
        cases hth : cf.thaw f with
        | true =>
          rw [hth] at k1
          simp only [cond_true] at k1
          obtain ⟨w, blks, s, ss, g1, g2, g3, g4⟩ := sexportT_of (vbase := vbase) h2.H k5 k1
          refine ⟨w, blks, s, ss, ⟨N, fun n hn => ?_⟩, g2, g3, g4⟩
          show callI P cf (exec P cf n) f vbase as' = _
          rw [hcall n hn, hth]
          simp only [if_true, g1]
        | false =>
          rw [hth] at k1
          simp only [cond_false] at k1
          obtain ⟨s, rs, w, rs', g1, g2, g3, g4⟩ := sreify_of h2.H 50 60 _ _ _ (by omega) k5 k1
          refine ⟨w, [], s, [], ⟨N, fun n hn => ?_⟩, g1, .nil, g3 _⟩
          show callI P cf (exec P cf n) f vbase as' = _
          rw [hcall n hn, hth]
          simp only [Bool.false_eq_true, if_false, exportI, g2]
      · cases h
theorem scallS_of {ih : SExec} (hih : SExecOK P cf ih) : SShareOK P cf (scallS P ih) := by
  intro f vs H nx K h ε vs' L nxv hvs hH hfs hfv
  unfold scallS at h
  split at h
  · rename_i fn c hb
    obtain ⟨ex, s', ⟨N, hN⟩, ε', ss', h1, h2, h3⟩ := hih c _ _ h ε ⟨frame fn vs', L, nxv⟩ ⟨sframe_rel hvs, hH, hfs, hfv⟩
    have hne : ∀ i, ex ≠ .exit i := by
      intro i q
      subst q
      cases h3
    have h4 : sresults P ss'.t ss'.H fn.results.toList fun vs => K (sresult vs) ss'.H ss'.nx := by
      cases ex with
      | exit i => exact absurd rfl (hne i)
      | normal => exact h3
      | ret => exact h3
    obtain ⟨rs, rs', k1, k2, k3⟩ := sresults_of h2.H h2.t h4
    obtain ⟨v, k4, k5⟩ := sresult_rel k3 k2
    refine ⟨v, s'.H, s'.nx, ⟨N, fun n hn => ?_⟩, ε', sresult rs, ss'.H, ss'.nx, h1, k5, h2.H, h2.fs, h2.fv, k1⟩
    unfold callS
    rw [hb]
    simp only [hN n hn]
    cases ex with
    | exit i => exact absurd rfl (hne i)
    | normal => simp only [k4]
    | ret => simp only [k4]
  · cases h

theorem know_rel {ε : Nat → Option BE} {ss : SSt} {s : St} (hr : RSt ε ss s) {c : Operand} {b : Bool} (h : evalV s.t c = some (.bool b)) : RSt ε (ss.know c b) s := by
  unfold SSt.know
  split
  · rename_i i
    refine ⟨?_, hr.H, hr.fs, hr.fv⟩
    simp only [evalV, Option.some.injEq] at h
    show RL ε (ssetn ss.t i (.bool (.lit b))) s.t
    rw [ssetn_eq]
    by_cases hi : i < s.t.length
    · have h1 := hr.t.set i (.bool (.lit b) b (by simp [SB.holds]))
      have : s.t.set i (.bool b) = s.t := by
        rw [← h, nth_eq, List.getD_eq_getElem?_getD, List.getElem?_eq_getElem hi]
        simp
      rwa [this] at h1
    · have hl := hr.t.length
      rw [List.set_eq_of_length_le (show ss.t.length ≤ i by rw [hl]; exact Nat.not_lt.1 hi)]
      exact hr.t
  · exact hr
theorem runs_succ {c : Code} {s : St} {ex : Ex} {s' : St} (h : ∃ N, ∀ n, N ≤ n → execStep P cf n (exec P cf n) c s = some (ex, s')) : Runs P cf c s ex s' := by
  obtain ⟨N, hN⟩ := h
  refine ⟨N + 1, fun n hn => ?_⟩
  obtain ⟨m, rfl⟩ : ∃ m, n = m + 1 := ⟨n - 1, by omega⟩
  exact hN m (by omega)
theorem siter_of {f : SSt → SKont → Prop} {body : Code} (hf : ∀ ss K, f ss K → SWP P cf body ss K) : ∀ (n : Nat) (ss : SSt) (K : SKont), siter f n ss K → ∀ ε s, RSt ε ss s → ∃ m ex s', (∃ N, ∀ k, N ≤ k → ∀ j, m ≤ j → iterN (exec P cf k body) j s = some (ex, s')) ∧ ∃ ε' ss', EX ε ε' ∧ RSt ε' ss' s' ∧ K ex ss'
  | 0, _, _, h, _, _, _ => by cases h
  | n + 1, ss, K, h, ε, s, hr => by
    obtain ⟨ex, s1, ⟨N1, hN1⟩, ε1, ss1, h1, h2, h3⟩ := hf ss _ h ε s hr
    have stop : ex ≠ .normal → K ex ss1 → ∃ m ex s', (∃ N, ∀ k, N ≤ k → ∀ j, m ≤ j → iterN (exec P cf k body) j s = some (ex, s')) ∧ ∃ ε' ss', EX ε ε' ∧ RSt ε' ss' s' ∧ K ex ss' := by
      intro hne hK
      refine ⟨1, ex, s1, ⟨N1, fun k hk j hj => ?_⟩, ε1, ss1, h1, h2, hK⟩
      obtain ⟨i, rfl⟩ : ∃ i, j = i + 1 := ⟨j - 1, by omega⟩
      show onward (exec P cf k body s) (iterN (exec P cf k body) i) = _
      rw [hN1 k hk]
      cases ex <;> first | rfl | exact absurd rfl hne
    cases ex with
    | normal =>
      obtain ⟨m, ex, s', ⟨N2, hN2⟩, ε', ss', g1, g2, g3⟩ := siter_of hf n ss1 K h3 ε1 s1 h2
      refine ⟨m + 1, ex, s', ⟨max N1 N2, fun k hk j hj => ?_⟩, ε', ss', h1.trans g1, g2, g3⟩
      obtain ⟨i, rfl⟩ : ∃ i, j = i + 1 := ⟨j - 1, by omega⟩
      show onward (exec P cf k body s) (iterN (exec P cf k body) i) = _
      rw [hN1 k (by omega)]
      exact hN2 k (by omega) i (by omega)
    | exit i => exact stop (fun q => by cases q) h3
    | ret => exact stop (fun q => by cases q) h3

theorem forceN_eq (a : Nat) (K : Nat → Prop) : forceN a K = K a := by cases a <;> rfl
theorem forceB_eq (b : Bool) (K : Bool → Prop) : forceB b K = K b := by cases b <;> rfl
theorem forceI_eq (n : Int) (K : Int → Prop) : forceI n K = K n := by
  cases n with
  | ofNat a => exact forceN_eq a fun a => K (.ofNat a)
  | negSucc a => exact forceN_eq a fun a => K (.negSucc a)
theorem forceSN_eq (n : SN) (K : SN → Prop) : forceSN n K = K n := by
  cases n with
  | lit a => exact forceN_eq a fun a => K (.lit a)
  | sym a => rfl
theorem forceVL_eq {f : SV → (SV → Prop) → Prop} (hf : ∀ v K, f v K = K v) : ∀ (l : List SV) (K : List SV → Prop), forceVL f l K = K l
  | [], _ => rfl
  | v :: r, K => by rw [forceVL, hf, forceVL_eq hf r]
theorem forceC_eq {f : SV → (SV → Prop) → Prop} (hf : ∀ v K, f v K = K v) (c : SC) (K : SC → Prop) : forceC f c K = K c := by
  cases c with
  | lit l => exact forceVL_eq hf l _
  | rows => rfl
theorem forceV_eq : ∀ (n : Nat) (v : SV) (K : SV → Prop), forceV n v K = K v
  | 0, _, _ => rfl
  | n + 1, v, K => by
    have ih := forceV_eq n
    cases v <;> simp only [forceV]
    case int k i => cases i with
      | lit m => exact forceI_eq _ _
      | sym e => rfl
    case bool b => cases b with
      | lit m => exact forceB_eq _ _
      | sym e => rfl
    case agg cs => exact forceVL_eq ih _ _
    case tup cs => exact forceVL_eq ih _ _
    case iface t v => exact ih _ _
    case func fn a b => rw [forceVL_eq ih, forceVL_eq ih]
    case ptrI => rw [forceB_eq, forceB_eq, forceC_eq ih]
    case ptrB => rw [forceN_eq, forceSN_eq, forceN_eq, forceN_eq, forceN_eq]
    case slI => rw [forceB_eq, forceC_eq ih, forceSN_eq, forceB_eq]
    case slB => rw [forceN_eq, forceSN_eq, forceN_eq, forceN_eq, forceSN_eq]
theorem forceH_eq : ∀ (H : SHeap) (K : SHeap → Prop), forceH H K = K H
  | [], _ => rfl
  | (b, x) :: r, K => by rw [forceH, forceN_eq, forceC_eq (forceV_eq 12), forceN_eq, forceN_eq, forceB_eq, forceB_eq, forceH_eq r]
theorem force_eq (st : SSt) (K : SSt → Prop) : st.force K = K st := by rw [SSt.force, forceVL_eq (forceV_eq 12), forceH_eq, forceN_eq]
/-- What the machine with labels says is so. -/
theorem sexec_of (hsx : SXOK P cf sx) : ∀ n, SExecOK P cf (sexec sx P cf n)
  | 0 => fun c ss K h => by cases h
  | n + 1 => by
    have hih := sexec_of hsx n
    have hC := scallI_of hsx hih
    have hS := scallS_of hih
    intro c ss K h ε s hr
    have h' : sexecStep sx P cf n (sexec sx P cf n) c ss K := h
    clear h
    unfold sexecStep at h'
    cases c <;> simp only at h' <;> try (cases h'; done)
    case skip => exact ⟨.normal, s, runs_succ ⟨0, fun n _ => rfl⟩, ε, ss, EX.refl ε, hr, h'⟩
    case label l => exact ⟨.normal, s, runs_succ ⟨0, fun n _ => rfl⟩, ε, ss, EX.refl ε, hr, h'⟩
    case region id ops draw =>
      cases draw with
      | true =>
        obtain ⟨s', ⟨N, hN⟩, ε', ss', g1, g2, g3⟩ := sdraw_of hC hr h'
        rw [force_eq] at g3
        refine ⟨.normal, s', runs_succ ⟨N, fun n hn => ?_⟩, ε', ss', g1, g2, g3⟩
        simp only [execStep, execRegion, if_true, hN n hn]
      | false =>
        obtain ⟨s', ⟨N, hN⟩, ε', ss', g1, g2, g3⟩ := sseq_of hC hS hr h'
        rw [force_eq] at g3
        refine ⟨.normal, s', runs_succ ⟨N, fun n hn => ?_⟩, ε', ss', g1, g2, g3⟩
        simp only [execStep, execRegion, Bool.false_eq_true, if_false, hN n hn]
    case seq x y =>
      obtain ⟨ex, s1, ⟨N1, hN1⟩, ε1, ss1, g1, g2, g3⟩ := hih x ss _ h' ε s hr
      cases ex with
      | normal =>
        obtain ⟨ex, s2, ⟨N2, hN2⟩, ε2, ss2, k1, k2, k3⟩ := hih y ss1 K g3 ε1 s1 g2
        refine ⟨ex, s2, runs_succ ⟨max N1 N2, fun n hn => ?_⟩, ε2, ss2, g1.trans k1, k2, k3⟩
        simp only [execStep, hN1 n (by omega), onward]
        exact hN2 n (by omega)
      | exit i => exact ⟨_, s1, runs_succ ⟨N1, fun n hn => by simp only [execStep, hN1 n hn, onward]⟩, ε1, ss1, g1, g2, g3⟩
      | ret => exact ⟨_, s1, runs_succ ⟨N1, fun n hn => by simp only [execStep, hN1 n hn, onward]⟩, ε1, ss1, g1, g2, g3⟩
    case cond c x y =>
      have go : ∀ (b : Bool), evalV s.t c = some (.bool b) → SWP P cf (if b then x else y) (ss.know c b) K ∨ SWP P cf (if b then x else y) ss K → ∃ ex s', Runs P cf (.cond c x y) s ex s' ∧ ∃ ε' ss', EX ε ε' ∧ RSt ε' ss' s' ∧ K ex ss' := by
        intro b hb hh
        have : ∃ ex s', Runs P cf (if b then x else y) s ex s' ∧ ∃ ε' ss', EX ε ε' ∧ RSt ε' ss' s' ∧ K ex ss' := by
          rcases hh with hh | hh
          · exact hh ε s (know_rel hr hb)
          · exact hh ε s hr
        obtain ⟨ex, s', ⟨N, hN⟩, rest⟩ := this
        refine ⟨ex, s', runs_succ ⟨N, fun n hn => ?_⟩, rest⟩
        simp only [execStep, execCond, hb]
        exact hN n hn
      split at h'
      · rename_i b hb
        obtain ⟨v, e1, e2⟩ := evalS_rel hr.t hb
        cases e2 with
        | bool _ d hd =>
          have : d = b := by simp only [SB.holds] at hd; cases d <;> cases b <;> simp_all
          subst this
          refine go d e1 (.inr ?_)
          cases d with
          | true => exact hih x ss K h'
          | false => exact hih y ss K h'
      · rename_i p hb
        obtain ⟨v, e1, e2⟩ := evalS_rel hr.t hb
        cases e2 with
        | bool _ d hd =>
          refine go d e1 (.inl ?_)
          cases d with
          | true => exact hih x _ K (h'.1 (hd.1 rfl))
          | false => exact hih y _ K (h'.2 (fun q => by have := hd.2 q; cases this))
      · cases h'
    case block id body =>
      obtain ⟨ex, s1, ⟨N1, hN1⟩, ε1, ss1, g1, g2, g3⟩ := hih body ss _ h' ε s hr
      cases ex with
      | normal => exact ⟨_, s1, runs_succ ⟨N1, fun n hn => by simp only [execStep, execBlock, hN1 n hn]⟩, ε1, ss1, g1, g2, g3⟩
      | ret => exact ⟨_, s1, runs_succ ⟨N1, fun n hn => by simp only [execStep, execBlock, hN1 n hn]⟩, ε1, ss1, g1, g2, g3⟩
      | exit i =>
        simp only at g3
        cases hq : Nat.beq i id with
        | true =>
          rw [hq] at g3
          have := Nat.eq_of_beq_eq_true hq
          exact ⟨.normal, s1, runs_succ ⟨N1, fun n hn => by simp only [execStep, execBlock, hN1 n hn]; rw [if_pos this]⟩, ε1, ss1, g1, g2, g3⟩
        | false =>
          rw [hq] at g3
          have : i ≠ id := fun e => by subst e; simp at hq
          exact ⟨.exit i, s1, runs_succ ⟨N1, fun n hn => by simp only [execStep, execBlock, hN1 n hn]; rw [if_neg this]⟩, ε1, ss1, g1, g2, g3⟩
    case loop body =>
      split at h'
      · rename_i L hL
        obtain ⟨i, _, hi⟩ := Option.bind_eq_some_iff.1 hL
        have := hsx.loop i L hi ss K h'.2 ε s hr
        have hb : loopBody P L.f L.k = body := h'.1.eq
        rw [hb] at this
        exact this
      · obtain ⟨m, ex, s', ⟨N, hN⟩, rest⟩ := siter_of (fun ss K h => hih body ss K h) n ss K h' ε s hr
        refine ⟨ex, s', runs_succ ⟨max N m, fun k hk => ?_⟩, rest⟩
        simp only [execStep]
        exact hN k (by omega) k (by omega)
    case scope body =>
      obtain ⟨ex, s1, ⟨N1, hN1⟩, rest⟩ := hih body ss K h' ε s hr
      exact ⟨ex, s1, runs_succ ⟨N1, fun n hn => by simp only [execStep, hN1 n hn]⟩, rest⟩
    case exit id => exact ⟨.exit id, s, runs_succ ⟨0, fun n _ => rfl⟩, ε, ss, EX.refl ε, hr, h'⟩
    case ret => exact ⟨.ret, s, runs_succ ⟨0, fun n _ => rfl⟩, ε, ss, EX.refl ε, hr, h'⟩
end
end
end Go.Proofs.Ytnnfcebnmogdmaa.VM
/- Values with labels: what a law is handed, and what it answers. No conditions. -/
namespace Go.Proofs.Ytnnfcebnmogdmaa.VM
set_option linter.unusedSimpArgs false
set_option linter.unusedVariables false
open Go Go.RowKit
noncomputable section

def lawE (W : World) : Env := ⟨W, fun _ => none, fun _ => none, W.heap.size, fun _ => True⟩
/-- Labels for cells of the memory that was there. -/
def KL (W : World) (l : List SV) (cs : List Value) : Prop := ∃ vs : List V, RL noE l vs ∧ RelL (lawE W) vs cs
theorem KL.append {W : World} {l m : List SV} {cs ds : List Value} (h : KL W l cs) (k : KL W m ds) : KL W (l ++ m) (cs ++ ds) := by
  obtain ⟨vs, h1, h2⟩ := h
  obtain ⟨us, k1, k2⟩ := k
  exact ⟨vs ++ us, h1.append k1, h2.append k2⟩
/-- What reads as data by type t has these labels, and is good. -/
def LO {α : Type} (P : Program) (t : TypeId) (k : Nat) (e : α → List SV) (G : α → Prop) : Prop :=
  k = P.cellsOf t ∧ ∀ (H : Type) (enc : TypeId × Value → H) (W : World) (fuel : Nat) (cs : List Value) (x : DataW H × List MemPlace), DataW.trod enc P W 0 (fun _ => true) true fuel t cs = some x → ∃ a : α, KL W (e a) cs ∧ G a
def eI (k : IntKind) (n : Int) : List SV := [.int k (.sym n)]
def eO (b : Bool) : List SV := [.bool (.sym (b = true))]
theorem lo_int {P : Program} {t : TypeId} {k : IntKind} (ht : P.underlying t = some (.int k)) (hc : P.cellsOf t = 1) : LO P t 1 (eI k) (fun n => k.min ≤ n ∧ n ≤ k.max) := by
  refine ⟨hc.symm, fun H enc W fuel cs x h => ?_⟩
  obtain ⟨n, rfl, _, hw⟩ := DataW.trod_int ht h
  exact ⟨n, ⟨[.int k n], .cons (.int _ _ _ rfl) .nil, .cons (.int k n) .nil⟩, by simpa [Lit.wf] using hw⟩
theorem lo_bool {P : Program} {t : TypeId} (ht : P.underlying t = some .bool) (hc : P.cellsOf t = 1) : LO P t 1 eO (fun _ => True) := by
  refine ⟨hc.symm, fun H enc W fuel cs x h => ?_⟩
  obtain ⟨n, rfl, _⟩ := DataW.trod_bool ht h
  exact ⟨n, ⟨[.bool n], .cons (.bool _ _ Iff.rfl) .nil, .cons (.bool n) .nil⟩, trivial⟩
def eC (b : Bool) : List SV := [.bool (.lit b)]
theorem lo_bit {P : Program} {t : TypeId} (ht : P.underlying t = some .bool) (hc : P.cellsOf t = 1) : LO P t 1 eC (fun _ => True) := by
  refine ⟨hc.symm, fun H enc W fuel cs x h => ?_⟩
  obtain ⟨n, rfl, _⟩ := DataW.trod_bool ht h
  exact ⟨n, ⟨[.bool n], .cons (.bool _ _ Iff.rfl) .nil, .cons (.bool n) .nil⟩, trivial⟩
theorem kl_list {W : World} {α : Type} {e : α → List SV} {k : Nat} {G : α → Prop} (a : Addr) : ∀ n, (∀ i, i < n → ∃ y : α, (∃ c : List Value, c.length = k ∧ KL W (e y) c ∧ ∀ j u, c[j]? = some u → W.cell? (a.add (i * k + j)) = some u) ∧ G y) →
    ∃ (xs : List α) (cs : List Value), xs.length = n ∧ cs.length = n * k ∧ KL W (xs.flatMap e) cs ∧ (∀ j u, cs[j]? = some u → W.cell? (a.add j) = some u) ∧ ∀ y ∈ xs, G y
  | 0, _ => ⟨[], [], rfl, by simp, ⟨[], .nil, .nil⟩, fun j u h => by simp at h, fun y h => by cases h⟩
  | n + 1, h => by
    obtain ⟨xs, cs, h1, h2, h3, h4, h5⟩ := kl_list a n fun i hi => h i (by omega)
    obtain ⟨y, ⟨c, g1, g2, g3⟩, g4⟩ := h n (by omega)
    refine ⟨xs ++ [y], cs ++ c, by simp [h1], by rw [List.length_append, h2, g1, Nat.add_mul]; omega, ?_, fun j u hj => ?_, fun z hz => ?_⟩
    · rw [List.flatMap_append]
      refine h3.append ?_
      simpa using g2
    · by_cases q : j < cs.length
      · rw [List.getElem?_append_left q] at hj
        exact h4 j u hj
      · rw [List.getElem?_append_right (by omega)] at hj
        have := g3 _ u hj
        rwa [show n * k + (j - cs.length) = j by omega] at this
    · rcases List.mem_append.1 hz with q | q
      · exact h5 z q
      · rw [List.mem_singleton.1 q]; exact g4
theorem cell_spot {W : World} {a : Addr} {v : Value} (h : W.cell? a = some v) : a.spot = none ∧ a.block < W.heap.size := by
  unfold World.cell? at h
  split at h
  · rename_i hh
    split at h
    · cases h
    · rename_i hs
      exact ⟨by simpa using hs, lt_of_heap hh⟩
  · cases h
/-- A slice of things. -/
def eR {α : Type} (e : α → List SV) (k d : Nat) (fl : Bool) (xs : List α) : List SV := [.slI false (.rows e k d fl xs) (.sym xs.length) false]
theorem lo_slice {α : Type} {P : Program} {t el : TypeId} {e : α → List SV} {k d : Nat} {fl : Bool} {G : α → Prop} (ht : P.underlying t = some (.slice el)) (hc : P.cellsOf t = 1) (he : LO P el k e G) (hk : 1 ≤ k) (hr : ROK e k d fl) :
    LO P t 1 (eR e k d fl) (fun xs => xs.length ≤ 9223372036854775807 ∧ ∀ y ∈ xs, G y) := by
  refine ⟨hc.symm, fun H enc W fuel cs x h => ?_⟩
  rcases DataW.trod_slice ht h with ⟨rfl, _⟩ | ⟨a, len, cap, elems, rest, n, _, rfl, _, _, hl, hm, hel, hi, _, _⟩
  · exact ⟨[], ⟨[.nilSl], .cons (.slIn rfl hr) .nil, .cons .nilSl .nil⟩, Nat.zero_le _, fun _ h => by cases h⟩
  · have each : ∀ i, i < len → ∃ y : α, (∃ c : List Value, c.length = k ∧ KL W (e y) c ∧ ∀ j u, c[j]? = some u → W.cell? (a.add (i * k + j)) = some u) ∧ G y := by
      intro i hil
      have h1 := hi i hil
      have h2 : elems[i]? = some elems[i] := List.getElem?_eq_getElem (by omega)
      rw [h2] at h1
      obtain ⟨cs, hcs, htr⟩ := Option.bind_eq_some_iff.1 h1
      obtain ⟨y, hK, hG⟩ := he.2 H enc W n cs _ htr
      obtain ⟨_, hcl, hat⟩ := World.cells?_some hcs
      refine ⟨y, ⟨cs, hcl.trans he.1.symm, hK, fun j u hj => ?_⟩, hG⟩
      have hjl := (List.getElem?_eq_some_iff.1 hj).1
      rw [he.1, ← show (a.add (i * P.cellsOf el)).add j = a.add (i * P.cellsOf el + j) by unfold Addr.add; split <;> split <;> split <;> simp_all <;> omega, hat j (by omega), hj]
    obtain ⟨xs, cs, g1, g2, ⟨vs, g3, g4⟩, g5, g6⟩ := kl_list a len each
    refine ⟨xs, ?_, by unfold maxLen at hm; omega, g6⟩
    by_cases h0 : len = 0
    · have hx : xs = [] := List.length_eq_zero_iff.1 (g1.trans h0)
      subst hx
      refine ⟨[.slI false [] 0 false], .cons (.slI0 id id rfl hr) .nil, .cons ?_ .nil⟩
      rw [h0]
      exact .slI0 (fun q => by cases q)
    · have hlen : 0 < cs.length := by rw [g2]; exact Nat.mul_pos (by omega) (by omega)
      have hc0 := g5 0 _ (List.getElem?_eq_getElem hlen)
      obtain ⟨hs, hb⟩ := cell_spot hc0
      have ha : a = ⟨a.block, a.off, none⟩ := by
        have : (a.add 0) = a := by unfold Addr.add; simp
        rw [this] at hs
        cases a; simp at hs; simp [hs]
      have hb' : a.block < W.heap.size := by
        have : (a.add 0) = a := by unfold Addr.add; simp
        rwa [this] at hb
      rw [ha]
      refine ⟨[.slI false vs len false], .cons (.slI id id g1.symm g3 hr) .nil, .cons (.slI ⟨hb', fun _ => trivial, fun b blk e o q => by cases q⟩ (fun q => by cases q) hl (fun q => by cases q) g4 fun i v hv => ?_) .nil⟩
      have := g5 i v hv
      rw [ha, Addr.add_lit] at this
      exact this
/-- Fields in line. -/
def LF {α : Type} (P : Program) (ts : List TypeId) (k : Nat) (e : α → List SV) (G : α → Prop) : Prop :=
  k = (ts.map P.cellsOf).sum ∧ ∀ (H : Type) (enc : TypeId × Value → H) (W : World) (n : Nat) (cs : List Value), cs.length = (ts.map P.cellsOf).sum →
    (∀ (j : Nat) (t : TypeId), ts[j]? = some t → ∃ x, DataW.trod enc P W 0 (fun _ => true) true n t ((cs.drop ((ts.take j).map P.cellsOf).sum).take (P.cellsOf t)) = some x) → ∃ a : α, KL W (e a) cs ∧ G a
theorem lf_one {α : Type} {P : Program} {t : TypeId} {k : Nat} {e : α → List SV} {G : α → Prop} (h : LO P t k e G) : LF P [t] k e G := by
  refine ⟨by simpa using h.1, fun H enc W n cs hl hf => ?_⟩
  obtain ⟨x, hx⟩ := hf 0 t rfl
  simp only [List.map_cons, List.map_nil, List.sum_cons, List.sum_nil, Nat.add_zero] at hl
  simp only [List.take_zero, List.map_nil, List.sum_nil, List.drop_zero] at hx
  rw [List.take_of_length_le (by omega)] at hx
  exact h.2 H enc W n cs x hx
def eP {α β : Type} (e : α → List SV) (e' : β → List SV) (p : α × β) : List SV := e p.1 ++ e' p.2
theorem lf_cons {α β : Type} {P : Program} {t : TypeId} {ts : List TypeId} {k k' : Nat} {e : α → List SV} {e' : β → List SV} {G : α → Prop} {G' : β → Prop} (h : LO P t k e G) (h' : LF P ts k' e' G') : LF P (t :: ts) (k + k') (eP e e') (fun p => G p.1 ∧ G' p.2) := by
  refine ⟨by rw [h.1, h'.1]; simp, fun H enc W n cs hl hf => ?_⟩
  simp only [List.map_cons, List.sum_cons] at hl
  obtain ⟨x, hx⟩ := hf 0 t rfl
  simp only [List.take_zero, List.map_nil, List.sum_nil, List.drop_zero] at hx
  obtain ⟨a, ha, hg⟩ := h.2 H enc W n _ x hx
  obtain ⟨b, hb, hg'⟩ := h'.2 H enc W n (cs.drop (P.cellsOf t)) (by rw [List.length_drop]; omega) (fun j t' hj => by
    obtain ⟨y, hy⟩ := hf (j + 1) t' hj
    refine ⟨y, ?_⟩
    rw [List.drop_drop]
    simpa using hy)
  refine ⟨(a, b), ?_, hg, hg'⟩
  have := ha.append hb
  rwa [List.take_append_drop] at this
theorem lo_struct {α β : Type} {P : Program} {t : TypeId} {fs : Array Field} {ts : List TypeId} {k : Nat} {e : α → List SV} {G : α → Prop} (ht : P.underlying t = some (.struct fs)) (hts : fs.toList.map (·.type) = ts) (ho : fs.toList.map (·.offset) = (List.range ts.length).map fun j => ((ts.take j).map P.cellsOf).sum) (hc : P.cellsOf t = (ts.map P.cellsOf).sum)
    (h : LF P ts k e G) (g : α → β) (e' : β → List SV) (G' : β → Prop) (he : ∀ a, e' (g a) = e a) (hG : ∀ a, G a → G' (g a)) : LO P t k e' G' := by
  refine ⟨h.1.trans hc.symm, fun H enc W fuel cs x hx => ?_⟩
  obtain ⟨xs, n, _, _, hl, hxl, hf⟩ := DataW.trod_struct ht hx
  obtain ⟨a, ha, hg⟩ := h.2 H enc W n cs (hl.trans hc) (fun j t' hj => by
    have hjl : j < ts.length := (List.getElem?_eq_some_iff.1 hj).1
    have hfl : j < fs.size := by rw [← hts] at hjl; simpa using hjl
    have h1 : fs[j]? = some fs[j] := Array.getElem?_eq_getElem hfl
    have h2 := hf j _ h1
    have h3 : fs[j].type = t' := by
      rw [← hts, List.getElem?_map, Array.getElem?_toList, h1] at hj
      simpa using hj
    have h4 : fs[j].offset = ((ts.take j).map P.cellsOf).sum := by
      have := congrArg (fun l => l[j]?) ho
      simp only [List.getElem?_map, Array.getElem?_toList, h1, List.getElem?_range hjl] at this
      simpa using this
    rw [h3, h4] at h2
    exact ⟨xs[j]'(by omega), h2.trans (List.getElem?_eq_getElem (by omega))⟩)
  exact ⟨g a, by rw [he]; exact ha, hG a hg⟩
/-- An argument of one cell. -/
theorem arg_one {α : Type} {P : Program} {t : TypeId} {e : α → List SV} {s : α → SV} {G : α → Prop} {H : Type} {enc : TypeId × Value → H} {W : World} {v : Value} {dd : DataW H} {ps : List MemPlace} (ho : LO P t 1 e G) (hs : ∀ a, e a = [s a])
    (hv : v.cells = #[v]) (h : DataW.Trod enc P W 0 (fun _ => true) true t v dd ps) : ∃ a : α, (∃ c, RV noE (s a) c ∧ Rel (lawE W) c v) ∧ G a := by
  obtain ⟨fuel, hf⟩ := h
  obtain ⟨a, ⟨vs, h1, h2⟩, hg⟩ := ho.2 H enc W fuel _ _ hf
  rw [hs] at h1
  rw [hv] at h2
  cases h1 with
  | cons r q =>
    cases q
    cases h2 with
    | cons r2 q2 => exact ⟨a, ⟨_, r, r2⟩, hg⟩
/-- A struct that comes by value. -/
theorem arg_agg {α : Type} {P : Program} {t : TypeId} {fs : Array Field} {k : Nat} {e : α → List SV} {G : α → Prop} {H : Type} {enc : TypeId × Value → H} {W : World} {v : Value} {dd : DataW H} {ps : List MemPlace} {r : Reach} {b0 : Nat} (ht : P.underlying t = some (.struct fs)) (ho : LO P t k e G)
    (hv : Value.okWide P W r b0 t v) (h : DataW.Trod enc P W 0 (fun _ => true) true t v dd ps) : ∃ a : α, (∃ c, RV noE (.agg (e a)) c ∧ Rel (lawE W) c v) ∧ G a := by
  obtain ⟨cs, rfl, _⟩ := Go.WideShapes.okWide_struct ht hv
  obtain ⟨fuel, hf⟩ := h
  obtain ⟨a, ⟨vs, h1, h2⟩, hG⟩ := ho.2 H enc W fuel _ _ hf
  refine ⟨a, ⟨.agg vs, .agg h1, ?_⟩, hG⟩
  have := Rel.agg (E := lawE W) h2
  simpa [Value.cells] using this

/-- What is asked of a call's answer. -/
def post (r v : SV) (bs : List SBlk) : Prop := match bs with | [] => sle 12 v r | _ => Stuck 300
theorem post_of {r v : SV} {bs : List SBlk} (h : post r v bs) : bs = [] ∧ sle 12 v r := by
  cases bs with
  | nil => exact ⟨rfl, h⟩
  | cons b bs => cases h
/-- A law that answers true. -/
theorem law_true {P : Program} {cf : Cfg} {sx : SX} (hm : P.follows .mixedOrders = true) (hext : ExtOK P cf) (hsx : SXOK P cf sx) {m : Nat} {f : FuncId} {as : List SV} (h : scallI sx P cf (sexec sx P cf m) f 0 as (post (.bool (.lit true)))) {W : World} {vs : List V} {cs : List Value}
    (has : RL noE as vs) (hvs : RelL (lawE W) vs cs) : Calls P f cs.toArray W (fun e w' => e = .returned (.bool true) ∧ Below W.heap.size W w') := by
  obtain ⟨rv, blks, srv, sblks, ⟨N, hN⟩, h1, h2, h3⟩ := scallI_of hsx (sexec_of hsx m) f 0 as _ h vs has 0
  obtain ⟨h4, h5⟩ := post_of h1
  subst h4
  cases h2
  have h6 := sle_rel 12 _ _ _ h5 h3
  cases h6 with
  | bool _ c hc =>
    have : c = true := hc.2 rfl
    subst this
    exact calls_true hm hext (hN N (Nat.le_refl _)) hvs
theorem sxok_none {P : Program} {cf : Cfg} {row : TypeId → Option SRow} : SXOK P cf ⟨row, fun _ => none, fun _ => none⟩ := ⟨fun f C h => (by cases h), fun i L h => (by cases h)⟩
end
end Go.Proofs.Ytnnfcebnmogdmaa.VM
/- Values with labels: functions that are known, and how they are put together. No conditions. -/
namespace Go.Proofs.Ytnnfcebnmogdmaa.VM
set_option linter.unusedSimpArgs false
set_option linter.unusedVariables false
open Go Go.RowKit
noncomputable section

/-- A function that is known: what it is handed, on what conditions, and what it answers. -/
def Ct {α : Type} (args : α → List SV) (pre : α → Prop) (res : α → SV) : SCall := fun _ _ as K => ∃ a, sles as (args a) ∧ pre a ∧ K (res a) []
theorem ct_vc {P : Program} {cf : Cfg} {sx : SX} (hsx : SXOK P cf sx) {m : Nat} {f : FuncId} {α : Type} {args : α → List SV} {pre : α → Prop} {res : α → SV} (h : ∀ a, pre a → scallI sx P cf (sexec sx P cf m) f 0 (args a) (post (res a))) : CtOK P cf f (Ct args pre res) := by
  intro base as K hK as' has vbase
  obtain ⟨a, h1, h2, h3⟩ := hK
  obtain ⟨rv, blks, srv, sblks, hN, g1, g2, g3⟩ := scallI_of hsx (sexec_of hsx m) f 0 (args a) _ (h a h2) as' (sles_rel h1 has) vbase
  obtain ⟨g4, g5⟩ := post_of g1
  subst g4
  cases g2
  rw [show newsE noE 0 vbase ([] : List SBlk).length = noE from newsE_zero] at g3
  refine ⟨rv, [], res a, [], hN, h3, .nil, ?_⟩
  rw [show newsE noE base vbase ([] : List SBlk).length = noE from newsE_zero]
  exact sle_rel 12 _ _ _ g5 g3
def ctOf (l : List (FuncId × SCall)) (f : FuncId) : Option SCall := List.rec (motive := fun _ => Option SCall) none (fun p _ ih => bif Nat.beq p.1 f then some p.2 else ih) l
def lpOf (l : List (Nat × SLoop)) (i : Nat) : Option SLoop := List.rec (motive := fun _ => Option SLoop) none (fun p _ ih => bif Nat.beq p.1 i then some p.2 else ih) l
theorem ctOf_mem : ∀ {l : List (FuncId × SCall)} {f : FuncId} {C : SCall}, ctOf l f = some C → (f, C) ∈ l
  | [], f, C, h => by cases h
  | p :: l, f, C, h => by
    have h' : (bif Nat.beq p.1 f then some p.2 else ctOf l f) = some C := h
    cases hq : Nat.beq p.1 f with
    | true =>
      rw [hq] at h'
      cases h'
      have := Nat.eq_of_beq_eq_true hq
      subst this
      exact List.mem_cons_self ..
    | false => rw [hq] at h'; exact List.mem_cons_of_mem _ (ctOf_mem h')
theorem lpOf_mem : ∀ {l : List (Nat × SLoop)} {f : Nat} {C : SLoop}, lpOf l f = some C → (f, C) ∈ l
  | [], f, C, h => by cases h
  | p :: l, f, C, h => by
    have h' : (bif Nat.beq p.1 f then some p.2 else lpOf l f) = some C := h
    cases hq : Nat.beq p.1 f with
    | true =>
      rw [hq] at h'
      cases h'
      have := Nat.eq_of_beq_eq_true hq
      subst this
      exact List.mem_cons_self ..
    | false => rw [hq] at h'; exact List.mem_cons_of_mem _ (lpOf_mem h')
theorem sxok_of {P : Program} {cf : Cfg} {row : TypeId → Option SRow} {l : List (FuncId × SCall)} {lp : List (Nat × SLoop)} (h : ∀ p ∈ l, CtOK P cf p.1 p.2) (k : ∀ p ∈ lp, ∀ ss K, p.2.C ss K → SWP P cf (.loop (loopBody P p.2.f p.2.k)) ss K) : SXOK P cf ⟨row, ctOf l, lpOf lp⟩ :=
  ⟨fun f C hf => h _ (ctOf_mem hf), fun i L hi => k _ (lpOf_mem hi)⟩
theorem all_nil {α : Type 1} {p : α → Prop} : ∀ x ∈ ([] : List α), p x := fun x hx => by cases hx
theorem all_cons {α : Type 1} {p : α → Prop} {a : α} {l : List α} (h : p a) (k : ∀ x ∈ l, p x) : ∀ x ∈ a :: l, p x := fun x hx => by
  rcases List.mem_cons.1 hx with rfl | hx
  · exact h
  · exact k x hx
/-- The same, by a telling of the arguments that says more. -/
theorem ct_vc' {P : Program} {cf : Cfg} {sx : SX} (hsx : SXOK P cf sx) {m : Nat} {f : FuncId} {α : Type} {args : α → List SV} {pre : α → Prop} {res : α → SV} (h : ∀ a, pre a → ∃ as', sles (args a) as' ∧ scallI sx P cf (sexec sx P cf m) f 0 as' (post (res a))) : CtOK P cf f (Ct args pre res) := by
  intro base as K hK as' has vbase
  obtain ⟨a, h1, h2, h3⟩ := hK
  obtain ⟨as2, h4, h5⟩ := h a h2
  obtain ⟨rv, blks, srv, sblks, hN, g1, g2, g3⟩ := scallI_of hsx (sexec_of hsx m) f 0 as2 _ h5 as' (sles_rel h4 (sles_rel h1 has)) vbase
  obtain ⟨g4, g5⟩ := post_of g1
  subst g4
  cases g2
  rw [show newsE noE 0 vbase ([] : List SBlk).length = noE from newsE_zero] at g3
  refine ⟨rv, [], res a, [], hN, h3, .nil, ?_⟩
  rw [show newsE noE base vbase ([] : List SBlk).length = noE from newsE_zero]
  exact sle_rel 12 _ _ _ g5 g3
/-! Numbers that fit. -/
theorem wrap_in (k : IntKind) {n : Int} (h1 : k.min ≤ n) (h2 : n ≤ k.max) : k.wrap n = n := by
  cases k <;> simp [IntKind.wrap, IntKind.bits, IntKind.signed, IntKind.min, IntKind.max] at * <;> first | omega | (split <;> omega)
theorem wr_i64 {n : Int} (h1 : -9223372036854775808 ≤ n) (h2 : n ≤ 9223372036854775807) : IntKind.i64.wrap n = n := wrap_in .i64 h1 h2
theorem wr_u8 {n : Int} (h1 : 0 ≤ n) (h2 : n ≤ 255) : IntKind.u8.wrap n = n := wrap_in .u8 h1 h2
theorem wr_u32 {n : Int} (h1 : 0 ≤ n) (h2 : n ≤ 4294967295) : IntKind.u32.wrap n = n := wrap_in .u32 h1 h2
end
end Go.Proofs.Ytnnfcebnmogdmaa.VM
/- Values with labels: loops by what is kept from one round to the next. No conditions. -/
namespace Go.Proofs.Ytnnfcebnmogdmaa.VM
set_option linter.unusedSimpArgs false
set_option linter.unusedVariables false
open Go Go.RowKit
noncomputable section

/-- A state, to be looked at. -/
inductive Show (st : SSt) : Prop
/-- A value told anew: its blocks by the versions of another heap; what is not in there is forgotten. -/
def reV (H H' : SHeap) : Nat → SV → SV
  | 0, _ => .any
  | n + 1, v => match v with
    | .agg cs => .agg (cs.map (reV H H' n))
    | .tup cs => .tup (cs.map (reV H H' n))
    | .iface t v => .iface t (reV H H' n v)
    | .func fn f c => .func fn (f.map (reV H H' n)) (c.map (reV H H' n))
    | .ptrI fr ex (.lit l) => .ptrI fr ex (.lit (l.map (reV H H' n)))
    | .slI fr (.lit l) m tt => .slI fr (.lit (l.map (reV H H' n))) m tt
    | .ptrB b e k f ver => (match sget H b, sget H' b with
      | some x, some x' => bif Nat.beq x.ver ver then .ptrB b e k f x'.ver else .any
      | _, _ => .any)
    | .slB b e k ver m => (match sget H b, sget H' b with
      | some x, some x' => bif Nat.beq x.ver ver then .slB b e k x'.ver m else .any
      | _, _ => .any)
    | v => v
/-- So many temporaries, some of them told. -/
def stT (n : Nat) (l : List (Nat × SV)) : List SV := l.foldl (fun t p => ssetn t p.1 p.2) (List.replicate n .any)
theorem SameCode.refl (c : Code) : SameCode c c := ⟨rfl⟩
def wkC (H H' : SHeap) (a b : SC) : Prop :=
  match a, b with
  | .lit l, .lit m => sles (l.map (reV H H' 12)) m
  | .lit l, .rows e k d fl xs => ROK e k d fl ∧ sles (l.map (reV H H' 12)) (xs.flatMap e)
  | a, b => a = b
def wkH (R nx0 nx : Nat) (H H' : SHeap) : SHeap → Prop
  | [] => True
  | (b, x') :: r => (match sget H b with
    | some x => bif Nat.blt b nx && Nat.beq x.k x'.k && (Nat.beq x'.ver x.ver || Nat.beq x'.ver R) && (!x.lz || x'.lz) && (x'.fz || !x.fz) then wkC H H' x.cells x'.cells else Stuck 270
    | none => bif x'.lz && Nat.ble nx0 b && Nat.blt b nx then (match x'.cells with
      | .lit l => l = []
      | .rows e k d fl xs => ROK e k d fl ∧ xs = []) else Stuck 271) ∧ wkH R nx0 nx H H' r
/-- A nil slice may stand for one whose block is not there yet. -/
def lzNew (st st' : SSt) (bb ver : Nat) : Bool := match sget st.H bb, sget st'.H bb with
  | none, some x' => x'.lz && Nat.beq x'.ver ver && Nat.ble st.nx bb
  | _, _ => false
def nil1 (st st' : SSt) (a b : SV) : SV := match a with
  | .nilSl => (match b with
    | .slB bb e k ver n => bif lzNew st st' bb ver then .slB bb e k ver n else .nilSl
    | _ => .nilSl)
  | a => a
def nil1K (st st' : SSt) (a b : SV) (K : Prop) : Prop := match a with
  | .nilSl => (match b with
    | .slB bb e k ver n => bif lzNew st st' bb ver then e.val = 0 ∧ n.val = 0 ∧ K else K
    | _ => K)
  | _ => K
def nilFix (st st' : SSt) (l : List SV) : List SV → List SV :=
  List.rec (motive := fun _ => List SV → List SV) (fun _ => []) (fun a _ ih m => match m with
    | [] => a :: ih []
    | b :: m => nil1 st st' a b :: ih m) l
def nilK (st st' : SSt) (K : Prop) (l : List SV) : List SV → Prop :=
  List.rec (motive := fun _ => List SV → Prop) (fun _ => K) (fun a _ ih m => match m with
    | [] => ih []
    | b :: m => nil1K st st' a b (ih m)) l
/-- All that the first state may be, the second may be. -/
def wk (R : Nat) (st st' : SSt) : Prop :=
  nilK st st' (sles (nilFix st st' (st.t.map (reV st.H st'.H 12)) st'.t) st'.t ∧ wkH R st.nx st'.nx st.H st'.H st'.H) (st.t.map (reV st.H st'.H 12)) st'.t
def oldB (R nx : Nat) (H : SHeap) : SHeap → Bool
  | [] => true
  | (b, _) :: r => (Nat.ble nx b || match sget H b with
    | some x0 => Nat.blt x0.ver R
    | none => false) && oldB R nx H r
/-- A state's blocks are those of an elder state or new. -/
def exB (R : Nat) (st0 st' : SSt) : Bool := Nat.ble st0.nx st'.nx && oldB R st0.nx st0.H st'.H
def exS (R : Nat) (st0 st' : SSt) (K : Prop) : Prop := bif exB R st0 st' then K else Stuck 272

section
variable {ε ε' : Nat → Option BE} {H H' : SHeap} {L : Heap}

theorem RL.map {f : SV → SV} : ∀ {l : List SV} {vs : List V}, RL ε l vs → (∀ s ∈ l, ∀ v, RV ε s v → RV ε' (f s) v) → RL ε' (l.map f) vs
  | _, _, .nil, _ => .nil
  | s :: l, _, .cons r q, h => .cons (h s (List.mem_cons_self ..) _ r) (RL.map q fun s hs => h s (List.mem_cons_of_mem _ hs))
theorem RL.keep : ∀ {l : List SV} {vs : List V}, RL ε l vs → (∀ s ∈ l, ∀ v, RV ε s v → RV ε' s v) → RL ε' l vs
  | _, _, .nil, _ => .nil
  | s :: l, _, .cons r q, h => .cons (h s (List.mem_cons_self ..) _ r) (RL.keep q fun s hs => h s (List.mem_cons_of_mem _ hs))
theorem imm_any : ∀ (n : Nat) (s : SV) (v : V), imm n s → RV ε s v → RV ε' s v
  | 0, _, _, h, _ => by cases h
  | n + 1, s, v, h, r => by
    have ih : ∀ (s : SV) (v : V), imm n s → RV ε s v → RV ε' s v := fun s v => imm_any n s v
    have ihl : ∀ {l : List SV} {vs : List V}, RL ε l vs → (∀ s ∈ l, imm n s) → RL ε' l vs := fun hl hi => RL.keep hl fun s hs v hv => ih s v (hi s hs) hv
    cases r <;> simp only [imm] at h
    case int k i m hm => exact .int _ _ _ hm
    case bool b c hb => exact .bool _ _ hb
    case str x => exact .str x
    case strS x => exact .strS x
    case nilIface => exact .nilIface
    case nilFunc => exact .nilFunc
    case nilPtr => exact .nilPtr
    case nilSl => exact .nilSl
    case agg q => exact .agg (ihl q h)
    case tup q => exact .tup (ihl q h)
    case iface q => exact .iface _ (ih _ _ h q)
    case func q1 q2 => exact .func _ (ihl q1 h.1) (ihl q2 h.2)
    case ptrI cs cs' rest hf hr hc hx =>
      refine .ptrI hf ?_ hc hx
      cases cs with
      | lit l => exact ihl hr h.2.2
      | rows e k d fl xs => exact ihl hr fun s hs => imm_mono d n s h.2.2 (rows_imm hc s hs)
    case slI cs cs' m' mm hn hf ht hc hr =>
      refine .slI ‹_› ‹_› ‹_› ?_ ‹_›
      cases cs with
      | lit l => exact ihl ‹_› h.2
      | rows e k d fl xs => exact ihl ‹_› fun s hs => imm_mono d n s h.2 (rows_imm ‹_› s hs)
    case slIn hn hc => exact .slIn hn hc
    case slI0 => exact .slI0 ‹_› ‹_› ‹_› ‹_›
theorem rows_any {α : Type} {e : α → List SV} {k d : Nat} {fl : Bool} {xs : List α} {vs : List V} (hc : COK (.rows e k d fl xs)) (h : RL ε (SC.rows e k d fl xs).list vs) : RL ε' (SC.rows e k d fl xs).list vs :=
  RL.keep h fun s hs v hv => imm_any d s v (rows_imm hc s hs) hv

/-- How the labels go over. -/
def Re (ε ε' : Nat → Option BE) (H H' : SHeap) : Prop := ∀ b x x', sget H b = some x → sget H' b = some x' → ∀ e, ε b = some e → e.sv = x.ver ∧ ε' b = some ⟨x'.ver, e.act⟩
theorem reV_rel (hre : Re ε ε' H H') : ∀ (n : Nat) (s : SV) (v : V), RV ε s v → RV ε' (reV H H' n s) v
  | 0, s, v, r => .any v
  | n + 1, s, v, r => by
    have ih := reV_rel hre n
    have ihl : ∀ {l : List SV} {vs : List V}, RL ε l vs → RL ε' (l.map (reV H H' n)) vs := fun hl => RL.map hl fun s _ v hv => ih s v hv
    cases r with
    | any => exact .any _
    | int k i m hm => exact .int _ _ _ hm
    | bool b c hb => exact .bool _ _ hb
    | str x => exact .str x
    | strS x => exact .strS x
    | nilIface => exact .nilIface
    | nilFunc => exact .nilFunc
    | nilPtr => exact .nilPtr
    | nilSl => exact .nilSl
    | agg q => exact .agg (ihl q)
    | tup q => exact .tup (ihl q)
    | iface t q => exact .iface _ (ih _ _ q)
    | func fn q1 q2 => exact .func _ (ihl q1) (ihl q2)
    | @ptrI fr fr' ex cs cs' rest hf hr hc hx =>
      cases cs with
      | lit l => exact .ptrI hf (ihl hr) trivial hx
      | rows e k d fl xs => exact .ptrI hf (rows_any hc hr) hc hx
    | @slI fr fr' tight tight' cs cs' n' m hf ht hn hr hc =>
      cases cs with
      | lit l => exact .slI hf ht hn (ihl hr) trivial
      | rows e k d fl xs => exact .slI hf ht hn (rows_any hc hr) hc
    | @slIn fr tight cs n' hn hc =>
      cases cs with
      | lit l => exact .slIn hn trivial
      | rows e k d fl xs => exact .slIn hn hc
    | @slI0 fr fr' tight tight' cs n' hf ht hn hc =>
      cases cs with
      | lit l => exact .slI0 hf ht hn trivial
      | rows e k d fl xs => exact .slI0 hf ht hn hc
    | @ptrB b k f ver o v e he hv hp ho =>
      unfold reV
      simp only
      split
      · rename_i x x' hx hx'
        cases hq : Nat.beq x.ver ver with
        | false => exact .any _
        | true =>
          obtain ⟨g1, g2⟩ := hre b x x' hx hx' e he
          exact .ptrB g2 (Nat.le_refl _) (fun _ => hp (g1.trans (beqT hq))) ho
      · exact .any _
    | @slB b k ver o m v e he hv hp ho =>
      unfold reV
      simp only
      split
      · rename_i x x' hx hx'
        cases hq : Nat.beq x.ver ver with
        | false => exact .any _
        | true =>
          obtain ⟨g1, g2⟩ := hre b x x' hx hx' e he
          exact .slB g2 (Nat.le_refl _) (fun _ => hp (g1.trans (beqT hq))) ho
      · exact .any _
theorem reL_rel (hre : Re ε ε' H H') {l : List SV} {vs : List V} (h : RL ε l vs) : RL ε' (l.map (reV H H' 12)) vs := RL.map h fun s _ v hv => reV_rel hre 12 s v hv
theorem wkC_rel (hre : Re ε ε' H H') {a b : SC} {vs : List V} (hc : COK a) (h : wkC H H' a b) (r : RL ε a.list vs) : RL ε' b.list vs ∧ COK b := by
  unfold wkC at h
  split at h
  · exact ⟨sles_rel h (reL_rel hre r), trivial⟩
  · exact ⟨sles_rel h.2 (reL_rel hre r), h.1⟩
  · rename_i h1 h2
    subst h
    refine ⟨?_, hc⟩
    cases a with
    | lit l => exact absurd rfl (h1 l l rfl)
    | rows e k d fl xs => exact rows_any hc r
theorem wkH_get {R nx0 nx : Nat} : ∀ {G : SHeap}, wkH R nx0 nx H H' G → ∀ b x', sget G b = some x' → b < nx ∧ ((∃ x, sget H b = some x ∧ x.k = x'.k ∧ (x'.ver = x.ver ∨ x'.ver = R) ∧ (x.lz = true → x'.lz = true) ∧ (x'.fz = false → x.fz = false) ∧ wkC H H' x.cells x'.cells) ∨ (sget H b = none ∧ nx0 ≤ b ∧ x'.lz = true ∧ x'.cells.list = [] ∧ COK x'.cells))
  | [], _, b, x', h => by cases h
  | (c, y) :: r, hk, b, x', h => by
    obtain ⟨h1, h2⟩ := hk
    rw [sget_cons] at h
    split at h
    · rename_i q
      subst q
      cases h
      split at h1
      · rename_i x hx
        obtain ⟨hq, h1⟩ := bif_of h1
        simp only [Bool.and_eq_true, Bool.or_eq_true, Bool.not_eq_true', Nat.blt_eq] at hq
        obtain ⟨⟨⟨⟨q1, q2⟩, q3⟩, q4⟩, q6⟩ := hq
        refine ⟨q1, .inl ⟨x, hx, beqT q2, q3.imp beqT beqT, fun q7 => ?_, fun q7 => ?_, h1⟩⟩
        · rcases q4 with q4 | q4
          · rw [q7] at q4; cases q4
          · exact q4
        · rcases q6 with q6 | q6
          · rw [q7] at q6; cases q6
          · exact q6
      · rename_i hx
        obtain ⟨hq, h1⟩ := bif_of h1
        simp only [Bool.and_eq_true, Nat.blt_eq] at hq
        obtain ⟨⟨q1, q2⟩, q3⟩ := hq
        refine ⟨q3, .inr ⟨hx, bleT q2, q1, ?_⟩⟩
        split at h1
        · rename_i l hl
          subst h1
          rw [hl]; exact ⟨rfl, trivial⟩
        · rename_i e k d fl xs hl
          obtain ⟨h1, rfl⟩ := h1
          rw [hl]; exact ⟨rfl, h1⟩
    · exact wkH_get h2 b x' h

/-- The labels behind. -/
def reE (ε : Nat → Option BE) (st' : SSt) : Nat → Option BE := fun b => match sget st'.H b with
  | some x' => (match ε b with
    | some e => some ⟨x'.ver, e.act⟩
    | none => if x'.lz = true then some ⟨x'.ver, none⟩ else none)
  | none => if b < st'.nx then ε b else none
theorem lzNew_of {st st' : SSt} {bb ver : Nat} (h : lzNew st st' bb ver = true) : ∃ x', sget st.H bb = none ∧ sget st'.H bb = some x' ∧ x'.lz = true ∧ x'.ver = ver ∧ st.nx ≤ bb := by
  unfold lzNew at h
  split at h
  · rename_i x' h1 h2
    simp only [Bool.and_eq_true] at h
    exact ⟨x', h1, h2, h.1.1, beqT h.1.2, bleT h.2⟩
  · cases h
theorem nilFix_rel {st st' : SSt} {ε : Nat → Option BE} {ε' : Nat → Option BE} (hfs : ∀ b, st.nx ≤ b → ε b = none) (he : ε' = reE ε st') {K : Prop} : ∀ {l m : List SV} {vs : List V}, RL ε' l vs → nilK st st' K l m → RL ε' (nilFix st st' l m) vs ∧ K
  | _, _, _, .nil, h => ⟨.nil, h⟩
  | _, [], _, .cons r q, h => by
    obtain ⟨h1, h2⟩ := nilFix_rel (m := []) hfs he q h
    exact ⟨.cons r h1, h2⟩
  | a :: l, b :: m, v :: vs, .cons r q, h => by
    have h' : nil1K st st' a b (nilK st st' K l m) := h
    show RL ε' (nil1 st st' a b :: nilFix st st' l m) (v :: vs) ∧ K
    have plain : nilK st st' K l m → RV ε' (nil1 st st' a b) v → RL ε' (nil1 st st' a b :: nilFix st st' l m) (v :: vs) ∧ K := fun h2 h3 => by
      obtain ⟨g1, g2⟩ := nilFix_rel hfs he q h2
      exact ⟨.cons h3 g1, g2⟩
    cases a with
    | nilSl =>
      cases b with
      | slB bb e k ver n =>
        have h'' : bif lzNew st st' bb ver then e.val = 0 ∧ n.val = 0 ∧ nilK st st' K l m else nilK st st' K l m := h'
        cases hz : lzNew st st' bb ver with
        | false =>
          rw [hz] at h''
          refine plain h'' ?_
          show RV ε' (bif lzNew st st' bb ver then SV.slB bb e k ver n else .nilSl) v
          rw [hz]; exact r
        | true =>
          rw [hz] at h''
          obtain ⟨g1, g2, g3⟩ := h''
          refine plain g3 ?_
          show RV ε' (bif lzNew st st' bb ver then SV.slB bb e k ver n else .nilSl) v
          rw [hz]
          obtain ⟨x', k1, k2, k3, k4, k5⟩ := lzNew_of hz
          cases r
          refine .slB (e := ⟨x'.ver, none⟩) ?_ (by show ver ≤ x'.ver; omega) (fun _ => .inr ⟨rfl, rfl, g2, g1⟩) rfl
          rw [he]; unfold reE; rw [k2]; simp only [hfs bb k5, k3, if_true]
      | _ => exact plain h' r
    | _ => exact plain h' r
theorem reRe {st st' : SSt} {s : St} (hr : RSt ε st s) : Re ε (reE ε st') st.H st'.H := by
  intro b x x' hx hx' e he
  obtain ⟨e0, g1, g2, _⟩ := hr.H.at_ b x hx
  rw [he] at g1; cases g1
  exact ⟨g2, by unfold reE; rw [hx']; simp only [he]⟩
theorem wk_rel {R : Nat} {st st' : SSt} {s : St} (hr : RSt ε st s) (h : wk R st st') : RSt (reE ε st') st' s := by
  have hre : Re ε (reE ε st') st.H st'.H := by
    intro b x x' hx hx' e he
    obtain ⟨e0, g1, g2, _⟩ := hr.H.at_ b x hx
    rw [he] at g1; cases g1
    exact ⟨g2, by unfold reE; rw [hx']; simp only [he]⟩
  obtain ⟨h0, h1, h2⟩ := nilFix_rel hr.fs rfl (reL_rel hre hr.t) h
  refine ⟨sles_rel h1 h0, ⟨fun b x' hx' => ?_, fun b1 b2 x1 x2 e1 e2 c v1 v2 k1 k2 k3 k4 k5 k6 => ?_⟩, fun b hb => ?_, hr.fv⟩
  · obtain ⟨hb, ⟨x, hx, hk, hv, hl, hf, hc⟩ | ⟨q1, q2, q3, q4, q5⟩⟩ := wkH_get h2 b x' hx'
    · obtain ⟨e, g1, g2, g3, g4⟩ := hr.H.at_ b x hx
      rcases g4 with ⟨g5, g6, g7⟩ | ⟨b', v', ab, m1, m2, m3, m4, m5, m6⟩
      · have r0 : RL ε x.cells.list [] := by rw [g7]; exact .nil
        obtain ⟨r1, r2⟩ := wkC_rel hre g3 hc r0
        refine ⟨⟨x'.ver, e.act⟩, (hre b x x' hx hx' e g1).2, rfl, r2, .inl ⟨hl g5, g6, ?_⟩⟩
        have := r1.length
        exact List.length_eq_zero_iff.1 this
      · obtain ⟨r1, r2⟩ := wkC_rel hre g3 hc m6
        exact ⟨⟨x'.ver, e.act⟩, (hre b x x' hx hx' e g1).2, rfl, r2, .inr ⟨b', v', ab, m1, m2, m3, m4.trans hk, fun q => m5 (hf q), r1⟩⟩
    · exact ⟨⟨x'.ver, none⟩, by unfold reE; rw [hx']; simp only [hr.fs b q2, q3, if_true], rfl, q5, .inl ⟨q3, rfl, q4⟩⟩
  · have un : ∀ b x' e c v, sget st'.H b = some x' → reE ε st' b = some e → e.act = some (c, v) → ∃ y e0, sget st.H b = some y ∧ ε b = some e0 ∧ e.act = e0.act := by
      intro b x' e c v hx he ha
      have he' := he
      unfold reE at he
      rw [hx] at he
      simp only at he
      split at he
      · rename_i e0 h0
        cases he
        obtain ⟨_, ⟨y, hy, _⟩ | ⟨q1, q2, _⟩⟩ := wkH_get h2 b x' hx
        · exact ⟨y, e0, hy, h0, rfl⟩
        · rw [hr.fs b q2] at h0; cases h0
      · split at he
        · cases he; cases ha
        · cases he
    obtain ⟨y1, f1, hy1, n1, p1⟩ := un b1 x1 e1 c v1 k1 k3 k5
    obtain ⟨y2, f2, hy2, n2, p2⟩ := un b2 x2 e2 c v2 k2 k4 k6
    exact hr.H.inj b1 b2 y1 y2 f1 f2 c v1 v2 hy1 hy2 n1 n2 (p1 ▸ k5) (p2 ▸ k6)
  · unfold reE
    split
    · rename_i x' hx'
      obtain ⟨hlt, _⟩ := wkH_get h2 b x' hx'
      omega
    · rw [if_neg (by omega)]
theorem oldB_get {R nx : Nat} : ∀ {G : SHeap}, oldB R nx H G = true → ∀ b x', sget G b = some x' → nx ≤ b ∨ ∃ x0, sget H b = some x0 ∧ x0.ver < R
  | [], _, b, x', h => by cases h
  | (c, y) :: r, hk, b, x', h => by
    obtain ⟨h1, h2⟩ := andT (show ((Nat.ble nx c || match sget H c with | some x0 => Nat.blt x0.ver R | none => false) && oldB R nx H r) = true from hk)
    rw [sget_cons] at h
    split at h
    · rename_i q
      subst q
      rw [Bool.or_eq_true] at h1
      rcases h1 with h1 | h1
      · exact .inl (bleT h1)
      · split at h1
        · rename_i x0 hx0; exact .inr ⟨x0, hx0, by simpa [Nat.blt_eq] using h1⟩
        · cases h1
    · exact oldB_get h2 b x' h
theorem wk_ex {ε0 : Nat → Option BE} {R : Nat} {st0 st st' : SSt} {s0 s : St} (h0 : RSt ε0 st0 s0) (hx : EX ε0 ε) (hr : RSt ε st s) (h : wk R st st') (ho : exB R st0 st' = true) : EX ε0 (reE ε st') := by
  intro b e0 he0
  obtain ⟨o1, o2⟩ := andT (show (Nat.ble st0.nx st'.nx && oldB R st0.nx st0.H st'.H) = true from ho)
  have hb : b < st0.nx := by
    refine Nat.lt_of_not_le fun q => ?_
    rw [h0.fs b q] at he0; cases he0
  obtain ⟨e, he, hq⟩ := hx b e0 he0
  cases hg : sget st'.H b with
  | none =>
    refine ⟨e, ?_, hq⟩
    unfold reE
    rw [hg]
    simp only
    rw [if_pos (Nat.lt_of_lt_of_le hb (bleT o1))]
    exact he
  | some x' =>
    have hW : wkH R st.nx st'.nx st.H st'.H st'.H := (nilFix_rel hr.fs rfl (reL_rel (reRe hr) hr.t) h).2.2
    obtain ⟨x, hx1, hv⟩ : ∃ x, sget st.H b = some x ∧ (x'.ver = x.ver ∨ x'.ver = R) := by
      obtain ⟨_, ⟨x, hx1, _, hv, _⟩ | ⟨_, q2, _⟩⟩ := wkH_get hW b x' hg
      · exact ⟨x, hx1, hv⟩
      · rw [hr.fs b q2] at he; cases he
    obtain ⟨f, g1, g2, _⟩ := hr.H.at_ b x hx1
    rw [he] at g1; cases g1
    refine ⟨⟨x'.ver, e.act⟩, by unfold reE; rw [hg]; simp only [he], ?_⟩
    rcases hv with hv | hv
    · have : (⟨x'.ver, e.act⟩ : BE) = e := by rw [hv, ← g2]
      rw [this]; exact hq
    · right
      rcases oldB_get o2 b x' hg with q | ⟨x0, q1, q2⟩
      · omega
      · obtain ⟨f0, k1, k2, _⟩ := h0.H.at_ b x0 q1
        rw [he0] at k1; cases k1
        show e0.sv < x'.ver
        omega
end

/-! The rule. -/
/-- A loop that is known: states from round to round, and behind. -/
structure LInv where
  ι : Type
  G : ι → Prop
  μ : ι → Nat
  I : ι → SSt
  Ω : Type
  e : Nat
  PE : ι → Ω → Prop
  OE : Ω → SSt
  ret : Bool
  Ρ : Type
  PR : ι → Ρ → Prop
  OR : Ρ → SSt
def LInv.round (L : LInv) (R : Nat) (i : L.ι) : SKont := fun ex st => match ex with
  | .normal => ∃ j, L.G j ∧ L.μ j < L.μ i ∧ (∀ o, L.PE j o → L.PE i o) ∧ (bif L.ret then ∀ o, L.PR j o → L.PR i o else True) ∧ wk R st (L.I j)
  | .exit x => bif Nat.beq x L.e then ∃ o, L.PE i o ∧ wk R st (L.OE o) else Stuck 273
  | .ret => bif L.ret then ∃ o, L.PR i o ∧ wk R st (L.OR o) else Stuck 274
def LInv.C (L : LInv) (R : Nat) : SSt → SKont → Prop := fun st K =>
  ∃ i, L.G i ∧ wk R st (L.I i) ∧ (∀ j, exS R st (L.I j) True) ∧ (∀ o, L.PE i o → exS R st (L.OE o) (K (.exit L.e) (L.OE o))) ∧ (bif L.ret then ∀ o, L.PR i o → exS R st (L.OR o) (K .ret (L.OR o)) else True)
section
variable {P : Program} {cf : Cfg} {sx : SX}
theorem exS_of {R : Nat} {a b : SSt} {K : Prop} (h : exS R a b K) : exB R a b = true ∧ K := bif_of h
theorem round_of {L : LInv} {R : Nat} {body : Code} (hb : ∀ i, L.G i → SWP P cf body (L.I i) (L.round R i)) {st0 : SSt} {s0 : St} {ε0 : Nat → Option BE} (h0 : RSt ε0 st0 s0) (hex : ∀ j, exB R st0 (L.I j) = true) :
    ∀ (n : Nat) (i : L.ι), L.μ i < n → L.G i → ∀ ε s, EX ε0 ε → RSt ε (L.I i) s → (∀ o, L.PE i o → exB R st0 (L.OE o) = true) → (L.ret = true → ∀ o, L.PR i o → exB R st0 (L.OR o) = true) →
      ∃ m ex s', (∃ N, ∀ k, N ≤ k → ∀ j, m ≤ j → iterN (exec P cf k body) j s = some (ex, s')) ∧ ∃ ε' ss', EX ε0 ε' ∧ RSt ε' ss' s' ∧ ((∃ o, L.PE i o ∧ ex = .exit L.e ∧ ss' = L.OE o) ∨ (L.ret = true ∧ ∃ o, L.PR i o ∧ ex = .ret ∧ ss' = L.OR o))
  | 0, i, hn, _, _, _, _, _, _, _ => by omega
  | n + 1, i, hn, hg, ε, s, hx, hr, hE, hR => by
    obtain ⟨ex, s1, ⟨N1, hN1⟩, ε1, ss1, h1, h2, h3⟩ := hb i hg ε s hr
    have hx1 := hx.trans h1
    cases ex with
    | normal =>
      obtain ⟨j, g1, g2, g3, g4, g5⟩ := h3
      obtain ⟨m, ex, s', ⟨N2, hN2⟩, ε', ss', k1, k2, k3⟩ := round_of hb h0 hex n j (by omega) g1 (reE ε1 (L.I j)) s1 (wk_ex h0 hx1 h2 g5 (hex j)) (wk_rel h2 g5) (fun o ho => hE o (g3 o ho))
        (fun q o ho => hR q o (by rw [q] at g4; exact g4 o ho))
      refine ⟨m + 1, ex, s', ⟨max N1 N2, fun k hk j hj => ?_⟩, ε', ss', k1, k2, k3.imp (fun ⟨o, p1, p2⟩ => ⟨o, g3 o p1, p2⟩) fun ⟨q, o, p1, p2⟩ => ⟨q, o, by rw [q] at g4; exact g4 o p1, p2⟩⟩
      obtain ⟨i, rfl⟩ : ∃ i, j = i + 1 := ⟨j - 1, by omega⟩
      show onward (exec P cf k body s) (iterN (exec P cf k body) i) = _
      rw [hN1 k (by omega)]
      exact hN2 k (by omega) i (by omega)
    | exit x =>
      obtain ⟨q, o, p1, p2⟩ := bif_of (show bif Nat.beq x L.e then ∃ o, L.PE i o ∧ wk R ss1 (L.OE o) else Stuck 273 from h3)
      refine ⟨1, .exit x, s1, ⟨N1, fun k hk j hj => ?_⟩, reE ε1 (L.OE o), L.OE o, wk_ex h0 hx1 h2 p2 (hE o p1), wk_rel h2 p2, .inl ⟨o, p1, by rw [beqT q], rfl⟩⟩
      obtain ⟨i, rfl⟩ : ∃ i, j = i + 1 := ⟨j - 1, by omega⟩
      show onward (exec P cf k body s) (iterN (exec P cf k body) i) = _
      rw [hN1 k hk]
      rfl
    | ret =>
      obtain ⟨q, o, p1, p2⟩ := bif_of (show bif L.ret then ∃ o, L.PR i o ∧ wk R ss1 (L.OR o) else Stuck 274 from h3)
      refine ⟨1, .ret, s1, ⟨N1, fun k hk j hj => ?_⟩, reE ε1 (L.OR o), L.OR o, wk_ex h0 hx1 h2 p2 (hR q o p1), wk_rel h2 p2, .inr ⟨q, o, p1, rfl, rfl⟩⟩
      obtain ⟨i, rfl⟩ : ∃ i, j = i + 1 := ⟨j - 1, by omega⟩
      show onward (exec P cf k body s) (iterN (exec P cf k body) i) = _
      rw [hN1 k hk]
      rfl
def LWP (P : Program) (cf : Cfg) (body : Code) (st : SSt) (K : SKont) : Prop :=
  ∀ ε s, RSt ε st s → ∃ m ex s', (∃ N, ∀ k, N ≤ k → ∀ j, m ≤ j → iterN (exec P cf k body) j s = some (ex, s')) ∧ ∃ ε' ss', EX ε ε' ∧ RSt ε' ss' s' ∧ K ex ss'
theorem lwp_swp {body : Code} {st : SSt} {K : SKont} (h : LWP P cf body st K) : SWP P cf (.loop body) st K := by
  intro ε s hr
  obtain ⟨m, ex, s', ⟨N, hN⟩, ε', ss', k1, k2, k3⟩ := h ε s hr
  refine ⟨ex, s', runs_succ ⟨max N m, fun k hk => ?_⟩, ε', ss', k1, k2, k3⟩
  simp only [execStep]
  exact hN k (by omega) k (by omega)
/-- A loop by what is kept from round to round. -/
theorem inv_of {L : LInv} {R : Nat} {body : Code} (hb : ∀ i, L.G i → SWP P cf body (L.I i) (L.round R i)) (st : SSt) (K : SKont) (h : L.C R st K) : LWP P cf body st K := by
  intro ε s hr
  obtain ⟨i, h1, h2, h3, h4, h5⟩ := h
  have hex := fun j => (exS_of (h3 j)).1
  obtain ⟨m, ex, s', hN, ε', ss', k1, k2, k3⟩ := round_of hb hr hex (L.μ i + 1) i (by omega) h1 (reE ε (L.I i)) s (wk_ex hr (EX.refl ε) hr h2 (hex i)) (wk_rel hr h2) (fun o ho => (exS_of (h4 o ho)).1)
    (fun q o ho => (exS_of ((by rw [q] at h5; exact h5 : ∀ o, L.PR i o → exS R st (L.OR o) (K .ret (L.OR o))) o ho)).1)
  refine ⟨m, ex, s', hN, ε', ss', k1, k2, ?_⟩
  rcases k3 with ⟨o, p1, rfl, rfl⟩ | ⟨q, o, p1, rfl, rfl⟩
  · exact (exS_of (h4 o p1)).2
  · rw [q] at h5
    exact (exS_of (h5 o p1)).2
def LpOK (P : Program) (cf : Cfg) (f k : Nat) (C : SSt → SKont → Prop) : Prop := ∀ st K, C st K → LWP P cf (loopBody P f k) st K
theorem inv_vc {L : LInv} {R f k m : Nat} (hsx : SXOK P cf sx) (h : ∀ i, L.G i → sexec sx P cf m (loopBody P f k) (L.I i) (L.round R i)) : LpOK P cf f k (L.C R) :=
  inv_of fun i hi => sexec_of hsx m _ _ _ (h i hi)
/-- One round first. -/
def peel (sx : SX) (P : Program) (cf : Cfg) (m f k : Nat) (C : SSt → SKont → Prop) : SSt → SKont → Prop := fun st K =>
  sexec sx P cf m (loopBody P f k) st fun ex st' => match ex with
    | .normal => C st' K
    | ex => K ex st'
theorem peel_ok {m f k : Nat} (hsx : SXOK P cf sx) {C : SSt → SKont → Prop} (h : LpOK P cf f k C) : LpOK P cf f k (peel sx P cf m f k C) := by
  intro st K hp ε s hr
  obtain ⟨ex, s1, ⟨N1, hN1⟩, ε1, ss1, h1, h2, h3⟩ := sexec_of hsx m _ _ _ hp ε s hr
  have stop : ex ≠ .normal → K ex ss1 → ∃ m ex s', (∃ N, ∀ n, N ≤ n → ∀ j, m ≤ j → iterN (exec P cf n (loopBody P f k)) j s = some (ex, s')) ∧ ∃ ε' ss', EX ε ε' ∧ RSt ε' ss' s' ∧ K ex ss' := by
    intro hne hK
    refine ⟨1, ex, s1, ⟨N1, fun n hn j hj => ?_⟩, ε1, ss1, h1, h2, hK⟩
    obtain ⟨i, rfl⟩ : ∃ i, j = i + 1 := ⟨j - 1, by omega⟩
    show onward (exec P cf n _ s) (iterN (exec P cf n _) i) = _
    rw [hN1 n hn]
    cases ex <;> first | rfl | exact absurd rfl hne
  cases ex with
  | normal =>
    obtain ⟨m, ex, s2, ⟨N2, hN2⟩, ε2, ss2, k1, k2, k3⟩ := h ss1 K h3 ε1 s1 h2
    refine ⟨m + 1, ex, s2, ⟨max N1 N2, fun n hn j hj => ?_⟩, ε2, ss2, h1.trans k1, k2, k3⟩
    obtain ⟨i, rfl⟩ : ∃ i, j = i + 1 := ⟨j - 1, by omega⟩
    show onward (exec P cf n _ s) (iterN (exec P cf n _) i) = _
    rw [hN1 n (by omega)]
    exact hN2 n (by omega) i (by omega)
  | exit i => exact stop (fun q => by cases q) h3
  | ret => exact stop (fun q => by cases q) h3
/-- Functions and loops that are known. -/
theorem sxok_lp {row : TypeId → Option SRow} {l : List (FuncId × SCall)} {lp : List (Nat × SLoop)} (h : ∀ p ∈ l, CtOK P cf p.1 p.2) (k : ∀ p ∈ lp, LpOK P cf p.2.f p.2.k p.2.C) : SXOK P cf ⟨row, ctOf l, lpOf lp⟩ :=
  sxok_of h fun p hp ss K hC => lwp_swp (k p hp ss K hC)
end
end
end Go.Proofs.Ytnnfcebnmogdmaa.VM
