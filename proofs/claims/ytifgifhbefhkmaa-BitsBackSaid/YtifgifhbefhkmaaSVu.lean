/- Values with labels: structs that are compared. No conditions. -/
import Derived.Test.YtifgifhbefhkmaaSVm
namespace Go.Proofs.Ytifgifhbefhkmaa.VM
set_option linter.unusedSimpArgs false
set_option linter.unusedVariables false
open Go Go.RowKit
noncomputable section
section
variable {P : Program} {ε : Nat → Option BE}

theorem SB.and_holds (a b : SB) : (a.and b).holds ↔ a.holds ∧ b.holds := by
  cases a with
  | lit a => cases a <;> simp [SB.and, SB.holds]
  | sym p => cases b with
    | lit b => cases b <;> simp [SB.and, SB.holds]
    | sym q => simp [SB.and, SB.holds]
theorem SB.same_holds (a b : SB) : (a.same b).holds ↔ (a.holds ↔ b.holds) := by
  cases a with
  | lit a => cases b with
    | lit b => cases a <;> cases b <;> simp [SB.same, SB.holds]
    | sym q => simp [SB.same, SB.holds]
  | sym p => simp [SB.same, SB.holds]
/-- A scalar with a label, and the model's value. -/
def CS (s : SV) (c : Value) : Prop := ∃ v, RV ε s v ∧ isSc s = true ∧ toSc v = some c
inductive CL : List SV → List Value → Prop
  | nil : CL [] []
  | cons {s : SV} {c : Value} {l : List SV} {cs : List Value} : CS (ε := ε) s c → CL l cs → CL (s :: l) (c :: cs)
theorem CL.length {l : List SV} {cs : List Value} (h : CL (ε := ε) l cs) : l.length = cs.length := by
  induction h with
  | nil => rfl
  | cons _ _ ih => simp [ih]
theorem CL.drop {l : List SV} {cs : List Value} (h : CL (ε := ε) l cs) : ∀ n, CL (ε := ε) (l.drop n) (cs.drop n) := by
  induction h with
  | nil => intro n; simp; exact .nil
  | cons a b ih => intro n; cases n with
    | zero => exact .cons a b
    | succ n => exact ih n
theorem CL.take {l : List SV} {cs : List Value} (h : CL (ε := ε) l cs) : ∀ n, CL (ε := ε) (l.take n) (cs.take n) := by
  induction h with
  | nil => intro n; simp; exact .nil
  | cons a b ih => intro n; cases n with
    | zero => exact .nil
    | succ n => exact .cons a (ih n)
theorem sc_of {s : SV} {v : V} (r : RV ε s v) (h : isSc s = true) : ∃ c, toSc v = some c := by
  cases r <;> first | exact ⟨_, rfl⟩ | cases h
theorem allSc_of : ∀ {l : List SV} {vs : List V}, RL ε l vs → allSc l = true → ∃ cs, mapO toSc vs = some cs ∧ CL (ε := ε) l cs
  | _, _, .nil, _ => ⟨[], rfl, .nil⟩
  | s :: l, _, .cons r q, h => by
    have h' : (bif isSc s then allSc l else false) = true := h
    cases hs : isSc s with
    | false => rw [hs] at h'; cases h'
    | true =>
      rw [hs] at h'
      obtain ⟨c, hc⟩ := sc_of r hs
      obtain ⟨cs, h1, h2⟩ := allSc_of q h'
      exact ⟨c :: cs, by simp [mapO, hc, h1], .cons ⟨_, r, hs, hc⟩ h2⟩
/-- A value of a type: scalar, or cells. -/
def CV (s : SV) (c : Value) : Prop := CS (ε := ε) s c ∨ ∃ l cs, s = .agg l ∧ c = .agg cs.toArray ∧ CL (ε := ε) l cs
theorem pr_underlying {t : TypeId} {d : TypeDesc} (h : P.underlying t = some d) : pureRun P (underlying t) = some d := by
  show pureRun P (match P.underlying t with | some d => pure d | none => stuck "no such type") = _
  rw [h]; rfl
theorem pr_pure {α : Type} (a : α) : pureRun P (pure a) = some a := rfl
theorem pr_program : pureRun P program = some P := rfl
theorem part_of {t : TypeId} {l : List SV} {cs : List Value} (h : CL (ε := ε) l cs) {off : Nat} {s : SV} (hp : partO P t l off = some s) : ∃ c, pureRun P (part t cs.toArray off) = some c ∧ CV (ε := ε) s c := by
  unfold partO at hp
  cases hz : tySz P t with
  | none => rw [hz] at hp; cases hp
  | some q =>
    obtain ⟨g, n⟩ := q
    rw [hz] at hp
    have hz' := hz
    unfold tySz at hz
    cases h1 : P.underlying t with
    | none => rw [h1] at hz; cases hz
    | some d =>
      cases h2 : P.info? t with
      | none => rw [h1, h2] at hz; cases hz
      | some i =>
        rw [h1, h2] at hz
        simp only [Option.some.injEq, Prod.mk.injEq] at hz
        have hagg : pureRun P (isAgg t) = some g := by
          unfold isAgg
          rw [pureRun_bind, pr_underlying h1]
          rw [← hz.1]
          cases d <;> rfl
        have hsz : pureRun P (sizeOf t) = some n := by
          unfold sizeOf
          rw [pureRun_bind]
          have : pureRun P (typeInfo t) = some i := by
            unfold typeInfo
            rw [pureRun_bind, pr_program]
            simp only [Option.bind_some, h2]
            rfl
          rw [this]
          simp only [Option.bind_some]
          rw [pr_pure, hz.2]
        unfold part
        rw [pureRun_bind, hagg]
        simp only [Option.bind_some]
        cases g with
        | true =>
          simp only at hp
          cases hp
          simp only [if_true]
          rw [pureRun_bind, hsz]
          refine ⟨_, rfl, .inr ⟨_, (cs.drop off).take n, rfl, ?_, ?_⟩⟩
          · simp only [Value.agg.injEq]
            apply Array.ext'
            simp
          · rw [stake_eq, sdrop_eq]
            exact (h.drop off).take n
        | false =>
          simp only [Bool.false_eq_true, if_false]
          simp only at hp
          rw [sdrop_eq] at hp
          have hd := h.drop off
          cases hq : l.drop off with
          | nil => rw [hq] at hp; cases hp
          | cons v r =>
            rw [hq] at hp hd
            cases hp
            cases hq2 : cs.drop off with
            | nil => rw [hq2] at hd; cases hd
            | cons c r2 =>
              rw [hq2] at hd
              cases hd with
              | cons a b =>
                have := congrArg (·[0]?) hq2
                simp only [List.getElem?_drop, Nat.add_zero, List.getElem?_cons_zero] at this
                refine ⟨c, ?_, .inl a⟩
                have h3 : cs.toArray[off]? = some c := by simpa using this
                rw [h3]
                rfl
theorem pr_for (g : Field → Sem Bool) (r : Field → Bool) : ∀ (l : List Field), (∀ f ∈ l, f.name ≠ "_" → pureRun P (g f) = some (r f)) →
    pureRun P (forIn l ((none, ()) : Option Bool × Unit) fun f _ => if f.name ≠ "_" then do
        let b ← g f
        if (!b) = true then pure (ForInStep.done (some false, ())) else pure (ForInStep.yield (none, ()))
      else pure (ForInStep.yield (none, ()))) = some (if l.all (fun f => f.name == "_" || r f) = true then (none, ()) else (some false, ()))
  | [], _ => rfl
  | f :: l, h => by
    have ih := pr_for g r l fun x hx => h x (List.mem_cons_of_mem _ hx)
    rw [List.forIn_cons, pureRun_bind]
    by_cases hn : f.name ≠ "_"
    · rw [if_pos hn, pureRun_bind, h f (List.mem_cons_self ..) hn]
      simp only [Option.bind_some]
      cases hr : r f with
      | true =>
        simp only [Bool.not_true, Bool.false_eq_true, if_false, pr_pure, Option.bind_some]
        rw [ih]
        simp [hr]
      | false =>
        simp only [Bool.not_false, if_true, pr_pure, Option.bind_some]
        simp [hr, hn]
    · rw [if_neg hn]
      simp only [pr_pure, Option.bind_some]
      rw [ih]
      simp only [ne_eq, Decidable.not_not] at hn
      simp [hn]
theorem eqS_of : ∀ (d D : Nat) (t : TypeId) (x y : SV) (cx cy : Value) (s : SB), d ≤ D → eqS P d t x y = some s → CV (ε := ε) x cx → CV (ε := ε) y cy → ∃ b, pureRun P (Op.equalIn D t cx cy) = some b ∧ (b = true ↔ s.holds)
  | 0, _, _, _, _, _, _, _, _, h, _, _ => by cases h
  | d + 1, 0, _, _, _, _, _, _, hle, _, _, _ => by omega
  | d + 1, D + 1, t, x, y, cx, cy, s, hle, h, hx, hy => by
    unfold eqS at h
    rw [Op.equalIn]
    split at h
    · rename_i a b hu
      cases h
      rw [pureRun_bind, pr_underlying hu]
      rcases hx with ⟨v, r, _, hv⟩ | ⟨l, cs, q, _⟩
      · rcases hy with ⟨w, r2, _, hw⟩ | ⟨l, cs, q, _⟩
        · cases r with
          | bool _ p hp => cases r2 with
            | bool _ q hq =>
              cases hv
              cases hw
              refine ⟨p == q, rfl, ?_⟩
              rw [SB.same_holds, ← hp, ← hq]
              cases p <;> cases q <;> simp
        · cases q
      · cases q
    · rename_i k a l b hu
      split at h
      · rename_i hk
        subst hk
        cases h
        rw [pureRun_bind, pr_underlying hu]
        rcases hx with ⟨v, r, _, hv⟩ | ⟨l, cs, q, _⟩
        · rcases hy with ⟨w, r2, _, hw⟩ | ⟨l, cs, q, _⟩
          · cases r with
            | int _ _ p hp => cases r2 with
              | int _ _ q hq =>
                cases hv
                cases hw
                subst hp hq
                simp only [Option.bind_some]
                refine ⟨a.val == b.val, ?_, ?_⟩
                · rw [if_pos trivial]; rfl
                · rw [SI.eq_holds]; simp
          · cases q
        · cases q
      · cases h
    · rename_i fs xs ys hu
      cases hc : allSc xs && allSc ys && !P.stoodInHeld t with
      | false => rw [hc] at h; cases h
      | true =>
        rw [hc] at h
        simp only [cond_true] at h
        obtain ⟨_, hst⟩ := andT hc
        have hst : P.stoodInHeld t = false := by simpa using hst
        rcases hx with ⟨v, r, q, hv⟩ | ⟨l1, cs1, q1, rfl, hl1⟩
        · cases q
        · rcases hy with ⟨v, r, q, hv⟩ | ⟨l2, cs2, q2, rfl, hl2⟩
          · cases q
          · cases q1
            cases q2
            rw [pureRun_bind, pr_underlying hu]
            simp only [Option.bind_some]
            rw [pureRun_bind, pr_program]
            simp only [Option.bind_some, hst, Bool.false_eq_true, if_false]
            -- the fields, one by one
            let g : Field → Sem Bool := fun f => do
                let a ← part f.type cs1.toArray f.offset
                let b ← part f.type cs2.toArray f.offset
                Op.equalIn D f.type a b
            let r : Field → Bool := fun f => (pureRun P (g f)).getD false
            have fields : ∀ (l : List Field) (s : SB), eqF (eqS P d) P xs ys l = some s → (∀ f ∈ l, f.name ≠ "_" → pureRun P (g f) = some (r f)) ∧ ((l.all fun f => f.name == "_" || r f) = true ↔ s.holds) := by
              intro l
              induction l with
              | nil => intro s hs; cases hs; exact ⟨fun f hf => (by cases hf), by simp [SB.holds]⟩
              | cons f l ih =>
                intro s hs
                unfold eqF at hs
                by_cases hn : f.name ≠ "_"
                · rw [if_pos hn] at hs
                  cases ha : partO P f.type xs f.offset with
                  | none => rw [ha] at hs; cases hs
                  | some a =>
                    cases hb : partO P f.type ys f.offset with
                    | none => rw [ha, hb] at hs; cases hs
                    | some b =>
                      rw [ha, hb] at hs
                      simp only at hs
                      cases he : eqS P d f.type a b with
                      | none => rw [he] at hs; cases hs
                      | some p =>
                        cases hr : eqF (eqS P d) P xs ys l with
                        | none => rw [he, hr] at hs; cases hs
                        | some q =>
                          rw [he, hr] at hs
                          cases hs
                          obtain ⟨ih1, ih2⟩ := ih q hr
                          obtain ⟨c1, k1, k2⟩ := part_of hl1 ha
                          obtain ⟨c2, k3, k4⟩ := part_of hl2 hb
                          obtain ⟨z, k5, k6⟩ := eqS_of d D f.type a b c1 c2 p (by omega) he k2 k4
                          have hg : pureRun P (g f) = some z := by
                            show pureRun P (do
                              let a ← part f.type cs1.toArray f.offset
                              let b ← part f.type cs2.toArray f.offset
                              Op.equalIn D f.type a b) = some z
                            rw [pureRun_bind, k1]
                            simp only [Option.bind_some]
                            rw [pureRun_bind, k3]
                            simp only [Option.bind_some]
                            exact k5
                          have hrz : r f = z := by show (pureRun P (g f)).getD false = z; rw [hg]; rfl
                          refine ⟨fun x hx hxn => ?_, ?_⟩
                          · rcases List.mem_cons.1 hx with rfl | hx
                            · rw [hg, hrz]
                            · exact ih1 x hx hxn
                          · rw [SB.and_holds, ← ih2, ← k6, List.all_cons, Bool.and_eq_true, hrz]
                            have : (f.name == "_") = false := by simpa using hn
                            rw [this, Bool.false_or]
                · rw [if_neg hn] at hs
                  obtain ⟨ih1, ih2⟩ := ih s hs
                  refine ⟨fun x hx hxn => ?_, ?_⟩
                  · rcases List.mem_cons.1 hx with rfl | hx
                    · exact absurd hxn hn
                    · exact ih1 x hx hxn
                  · simp only [ne_eq, Decidable.not_not] at hn
                    rw [← ih2, List.all_cons, hn]
                    simp
            obtain ⟨f1, f2⟩ := fields fs.toList s h
            have hfor := pr_for (P := P) g r fs.toList f1
            refine ⟨fs.toList.all (fun f => f.name == "_" || r f), ?_, f2⟩
            rw [pureRun_bind, ← Array.forIn_toList]
            have hbody : ∀ (f : Field) (u : Option Bool × Unit), (if f.name ≠ "_" then do
                  let a ← part f.type cs1.toArray f.offset
                  let b ← part f.type cs2.toArray f.offset
                  let c ← Op.equalIn D f.type a b
                  if (!c) = true then pure (ForInStep.done (some false, ())) else pure (ForInStep.yield (none, ()))
                else pure (ForInStep.yield (none, ())) : Sem (ForInStep (Option Bool × Unit))) = (if f.name ≠ "_" then do
                  let b ← g f
                  if (!b) = true then pure (ForInStep.done (some false, ())) else pure (ForInStep.yield (none, ()))
                else pure (ForInStep.yield (none, ()))) := by
              intro f u
              split
              · show _ = (do
                    let a ← part f.type cs1.toArray f.offset
                    let b ← part f.type cs2.toArray f.offset
                    Op.equalIn D f.type a b) >>= _
                simp only [bind_assoc]
              · rfl
            have hfor' : pureRun P (forIn fs.toList ((none, ()) : Option Bool × Unit) (fun f _ => if f.name ≠ "_" then do
                  let a ← part f.type cs1.toArray f.offset
                  let b ← part f.type cs2.toArray f.offset
                  let c ← Op.equalIn D f.type a b
                  if (!c) = true then pure (ForInStep.done (some false, ())) else pure (ForInStep.yield (none, ()))
                else pure (ForInStep.yield (none, ())))) = some (if fs.toList.all (fun f => f.name == "_" || r f) = true then (none, ()) else (some false, ())) := by
              rw [← hfor]
              congr 1
              congr 1
              funext f u
              exact hbody f u
            refine (congrArg (fun z => Option.bind z _) hfor').trans ?_
            simp only [Option.bind_some]
            cases hall : fs.toList.all (fun f => f.name == "_" || r f) with
            | true => rfl
            | false => rfl
    · cases h
theorem aggEq_run {op : BinOp} {ty tz : TypeId} {x y : Operand} {o : Oper} {tv : List V} {xs ys : List SV} {vx vy : List V} {s : SB} (hg : P.eqGuardType P.depth ty = false) (hs : eqS P 9 ty (.agg xs) (.agg ys) = some s) (hx : RL ε xs vx) (hy : RL ε ys vy) (ax : allSc xs = true) (ay : allSc ys = true)
    (ho : o.op = .binOp op ty x y tz) (ex : evalV tv x = some (.agg vx)) (ey : evalV tv y = some (.agg vy)) : ∃ c : Bool, (c = true ↔ s.holds) ∧ (op = .eql → pureOp P tv o = some (Eff.pure (.bool c))) ∧ (op = .neq → pureOp P tv o = some (Eff.pure (.bool !c))) := by
  obtain ⟨cx, h1, h2⟩ := allSc_of hx ax
  obtain ⟨cy, h3, h4⟩ := allSc_of hy ay
  obtain ⟨c, h5, h6⟩ := eqS_of (P := P) 9 (9999 + 1) ty (.agg xs) (.agg ys) (.agg cx.toArray) (.agg cy.toArray) s (by omega) hs (.inr ⟨_, _, rfl, rfl, h2⟩) (.inr ⟨_, _, rfl, rfl, h4⟩)
  have hall : o.op.operands.toList.all (fun x => ((evalV tv x).bind toVal).isSome) = true := by
    rw [ho]
    simp [Op.operands, ex, ey, toVal, toAg, h1, h3]
  have rx : ρOf tv x = .agg cx.toArray := by simp [ρOf, ex, toVal, toAg, h1]
  have ry : ρOf tv y = .agg cy.toArray := by simp [ρOf, ey, toVal, toAg, h3]
  have heq : pureRun P (Op.equal ty (.agg cx.toArray) (.agg cy.toArray)) = some c := h5
  have hgd : ∀ op, op = .eql ∨ op = .neq → pureRun P (eqGuard op ty x y (.agg cx.toArray) (.agg cy.toArray)) = some () := by
    intro op hop
    have e1 : eqGuard op ty x y (.agg cx.toArray) (.agg cy.toArray) = (do
        if !(← program).eqGuardType (← program).depth ty then return
        if ← Op.eqGuardIn Op.maxDepth ty (.agg cx.toArray) (.agg cy.toArray) then unsupported (.noEntry "binop/eql: two nil values of an interface type with methods, in a part of a struct or an array")) := by
      rcases hop with rfl | rfl <;> rfl
    rw [e1, pureRun_bind, pr_program]
    simp only [Option.bind_some]
    rw [pureRun_bind, pr_program]
    simp only [Option.bind_some]
    rw [if_pos (by rw [hg]; rfl)]
    rfl
  have run : ∀ (f : Bool → Value), pureRun P (do pure (f (← Op.equal ty (.agg cx.toArray) (.agg cy.toArray)))) = some (f c) := by
    intro f
    rw [pureRun_bind, heq]
    rfl
  refine ⟨c, h6, fun q => ?_, fun q => ?_⟩
  · subst q
    unfold pureOp
    rw [if_pos hall]
    simp only [ho]
    unfold execOp
    simp only [ho, rx, ry]
    rw [pureRun_bind, pureRun_bind, hgd _ (.inl rfl)]
    simp only [Option.bind_some]
    rw [show binOp .eql ty (.agg cx.toArray) (.agg cy.toArray) = (do pure (.bool (← Op.equal ty (.agg cx.toArray) (.agg cy.toArray)))) from rfl, run fun b => .bool b]
    rfl
  · subst q
    unfold pureOp
    rw [if_pos hall]
    simp only [ho]
    unfold execOp
    simp only [ho, rx, ry]
    rw [pureRun_bind, pureRun_bind, hgd _ (.inr rfl)]
    simp only [Option.bind_some]
    rw [show binOp .neq ty (.agg cx.toArray) (.agg cy.toArray) = (do pure (.bool (!(← Op.equal ty (.agg cx.toArray) (.agg cy.toArray))))) from rfl, run fun b => .bool (!b)]
    rfl
end
end
end Go.Proofs.Ytifgifhbefhkmaa.VM
