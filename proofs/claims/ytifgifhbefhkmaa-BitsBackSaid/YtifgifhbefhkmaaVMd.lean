/- The machine of values: operations without memory. No conditions. -/
import Derived.Test.YtifgifhbefhkmaaVMc
namespace Go.Proofs.Ytifgifhbefhkmaa.VM
set_option linter.unusedSimpArgs false
set_option linter.unusedVariables false
open Go Go.RowKit
noncomputable section

theorem RelL.mapO_of {E : Env} {f : Value → Option V} (hf : ∀ c v, f c = some v → Rel E v c) : ∀ {cs : List Value} {vs : List V}, mapO f cs = some vs → RelL E vs cs
  | [], vs, h => by cases h; exact .nil
  | c :: cs, vs, h => by
    simp only [mapO] at h
    cases h1 : f c with
    | none => simp [h1] at h
    | some v =>
      cases h2 : mapO f cs with
      | none => simp [h1, h2] at h
      | some r =>
        simp [h1, h2] at h
        subst h
        exact .cons (hf _ _ h1) (RelL.mapO_of hf h2)
theorem ofSc_rel {E : Env} {c : Value} {v : V} (h : ofSc c = some v) : Rel E v c := by
  unfold ofSc at h
  split at h <;> first | (cases h; constructor) | cases h
theorem ofAg_rel {E : Env} {c : Value} {v : V} (h : ofAg c = some v) : Rel E v c := by
  unfold ofAg at h
  split at h
  · rename_i cs
    cases h1 : mapO ofSc cs.toList with
    | none => simp [h1] at h
    | some r =>
      simp [h1] at h
      subst h
      have := Rel.agg (RelL.mapO_of (E := E) (fun c v => ofSc_rel) h1)
      simpa using this
  · exact ofSc_rel h
theorem ofVal_rel {E : Env} {c : Value} {v : V} (h : ofVal c = some v) : Rel E v c := by
  unfold ofVal at h
  split at h
  · rename_i t v'
    cases h1 : ofAg v' with
    | none => simp [h1] at h
    | some r => simp [h1] at h; subst h; exact .iface t (ofAg_rel h1)
  · rename_i vs
    cases h1 : mapO ofAg vs.toList with
    | none => simp [h1] at h
    | some r =>
      simp [h1] at h
      subst h
      have := Rel.tup (RelL.mapO_of (E := E) (fun c v => ofAg_rel) h1)
      simpa using this
  · rename_i fn f c
    cases h1 : mapO ofSc f.toList with
    | none => simp [h1] at h
    | some r =>
      cases h2 : mapO ofSc c.toList with
      | none => simp [h1, h2] at h
      | some r2 =>
        simp [h1, h2] at h
        subst h
        have := Rel.func fn (RelL.mapO_of (E := E) (fun c v => ofSc_rel) h1) (RelL.mapO_of (E := E) (fun c v => ofSc_rel) h2)
        simpa using this
  · exact ofAg_rel h
theorem toSc_eq {E : Env} {v : V} {c c' : Value} (h : toSc v = some c') (r : Rel E v c) : c = c' := by
  cases r <;> simp only [toSc] at h <;> first | (cases h; rfl) | cases h
theorem mapO_toSc_eq {E : Env} : ∀ {vs : List V} {cs cs' : List Value}, mapO toSc vs = some cs' → RelL E vs cs → cs = cs'
  | _, _, cs', h, .nil => by cases h; rfl
  | v :: vs, c :: cs, cs', h, .cons r s => by
    simp only [mapO] at h
    cases h1 : toSc v with
    | none => simp [h1] at h
    | some x =>
      cases h2 : mapO toSc vs with
      | none => simp [h1, h2] at h
      | some y =>
        simp [h1, h2] at h
        subst h
        rw [toSc_eq h1 r, mapO_toSc_eq h2 s]
theorem toAg_eq {E : Env} {v : V} {c c' : Value} (h : toAg v = some c') (r : Rel E v c) : c = c' := by
  unfold toAg at h
  split at h
  · rename_i cs
    cases r with
    | agg s =>
      cases h1 : mapO toSc cs with
      | none => simp [h1] at h
      | some y => simp [h1] at h; subst h; rw [mapO_toSc_eq h1 s]
  · exact toSc_eq h r
theorem toVal_eq {E : Env} {v : V} {c c' : Value} (h : toVal v = some c') (r : Rel E v c) : c = c' := by
  unfold toVal at h
  split at h
  · rename_i t v'
    cases r with
    | iface t s =>
      cases h1 : toAg v' with
      | none => simp [h1] at h
      | some y => simp [h1] at h; subst h; rw [toAg_eq h1 s]
  · exact toAg_eq h r

theorem pureRun_run {α : Type} {P : Program} : ∀ {s : Sem α} {a : α}, pureRun P s = some a → ∀ w, s.run P w = .ok a w
  | .pure b, a, h, w => by simp only [pureRun] at h; cases h; rfl
  | .program k, a, h, w => by simp only [pureRun] at h; exact pureRun_run h w
  | .mark m k, a, h, w => by simp only [pureRun] at h; exact pureRun_run (s := k) h w
  | .load .., a, h, w => by simp only [pureRun] at h; cases h
  | .store .., a, h, w => by simp only [pureRun] at h; cases h
  | .new .., a, h, w => by simp only [pureRun] at h; cases h
  | .shape .., a, h, w => by simp only [pureRun] at h; cases h
  | .freeze .., a, h, w => by simp only [pureRun] at h; cases h
  | .frozen .., a, h, w => by simp only [pureRun] at h; cases h
  | .getObj .., a, h, w => by simp only [pureRun] at h; cases h
  | .setObj .., a, h, w => by simp only [pureRun] at h; cases h
  | .choose .., a, h, w => by simp only [pureRun] at h; cases h
  | .sys .., a, h, w => by simp only [pureRun] at h; cases h
  | .halt .., a, h, w => by simp only [pureRun] at h; cases h

theorem nth_eq : ∀ (t : List V) (i : Nat), nth t i = t.getD i (.tup [])
  | [], i => by simp; rfl
  | v :: r, 0 => rfl
  | v :: r, i + 1 => by have := nth_eq r i; exact this
theorem setn_eq : ∀ (t : List V) (i : Nat) (x : V), setn t i x = t.set i x
  | [], i, x => rfl
  | v :: r, 0, x => rfl
  | v :: r, i + 1, x => by have := setn_eq r i x; exact congrArg (v :: ·) this

theorem undef_rel {E : Env} : Rel E (.tup []) undef := by
  have := Rel.tup (E := E) .nil
  simpa [undef] using this
theorem nth_rel {E : Env} {t : List V} {a : Act} (h : RelL E t a.tmps.toList) (i : Nat) : Rel E (nth t i) (a.tmps.getD i undef) := by
  rw [nth_eq]
  by_cases hi : i < t.length
  · obtain ⟨y, h1, h2⟩ := h.get i t[i] (List.getElem?_eq_getElem hi)
    have h3 : a.tmps[i]? = some y := by simpa using h1
    have h4 : a.tmps.getD i undef = y := by rw [Array.getD_eq_getD_getElem?, h3]; rfl
    rw [h4, List.getD_eq_getElem?_getD, List.getElem?_eq_getElem hi]
    exact h2
  · have hl := h.length
    have h3 : a.tmps[i]? = none := by
      rw [Array.getElem?_eq_none]
      have : a.tmps.toList.length = a.tmps.size := by simp
      omega
    have h4 : a.tmps.getD i undef = undef := by rw [Array.getD_eq_getD_getElem?, h3]; rfl
    rw [h4, List.getD_eq_getElem?_getD, List.getElem?_eq_none (by omega)]
    exact undef_rel
theorem evalV_rel {E : Env} {t : List V} {a : Act} (h : RelL E t a.tmps.toList) {x : Operand} {v : V} (hv : evalV t x = some v) : Rel E v (a.eval x) := by
  cases x with
  | tmp i => simp only [evalV] at hv; cases hv; exact nth_rel h i
  | const c => simp only [evalV] at hv; exact ofVal_rel hv
  | global g => simp only [evalV] at hv; cases hv
  | func f =>
    simp only [evalV] at hv
    cases hv
    have := Rel.func (E := E) (.func f) .nil .nil
    simpa [Act.eval] using this
theorem put_rel {E : Env} {t : List V} {a : Act} (h : RelL E t a.tmps.toList) (d : Option Tmp) {v : V} {c : Value} (r : Rel E v c) :
    RelL E (match d with | some d => setn t d v | none => t) (a.put d c).tmps.toList := by
  cases d with
  | none => exact h
  | some d =>
    simp only [setn_eq, Act.put, Array.toList_setIfInBounds]
    exact h.set d r

/-- What an operation owes: it goes on, with its value, in an environment behind. -/
def OpSound (P : Program) (E : Env) (a : Act) (o : Oper) (base : Nat) (eff : Eff) : Prop :=
  ∀ (next : Act → World → Prop) (Q : Exit → Act → World → Prop),
    (∀ cv E', E'.B = E.B → E'.O = E.O → E'.H = applyF E.H base eff → Ext E E' → HRel E' → Rel E' eff.v cv → Below E.B E.w E'.w →
      (∀ b, E.ρ b = none → ¬ (base ≤ b ∧ b < base + eff.new.length) → E'.ρ b = none) → next (a.put o.dst cv) E'.w) → o.wp P a E.w next Q

theorem opSound_of_run {P : Program} {E : Env} {a : Act} {o : Oper} {base : Nat} {eff : Eff} {cv : Value} {E' : Env}
    (hrun : (execOp a.eval o).run P E.w = .ok (.value cv) E'.w ∨ ((execOp a.eval o).run P E.w = .ok .skip E'.w ∧ cv = undef))
    (h1 : E'.B = E.B) (h2 : E'.O = E.O) (h3 : E'.H = applyF E.H base eff) (h4 : Ext E E') (h5 : HRel E') (h6 : Rel E' eff.v cv) (h7 : Below E.B E.w E'.w)
    (h8 : ∀ b, E.ρ b = none → ¬ (base ≤ b ∧ b < base + eff.new.length) → E'.ρ b = none) : OpSound P E a o base eff := by
  intro next Q hn
  have := hn cv E' h1 h2 h3 h4 h5 h6 h7 h8
  unfold Oper.wp
  rcases hrun with h | ⟨h, rfl⟩
  · rw [h]; exact this
  · rw [h]; exact this
theorem opSound_pure {P : Program} {E : Env} {a : Act} {o : Oper} {base : Nat} {v : V} {cv : Value} (hR : HRel E)
    (hrun : (execOp a.eval o).run P E.w = .ok (.value cv) E.w) (hv : Rel E v cv) : OpSound P E a o base (Eff.pure v) :=
  opSound_of_run (E' := E) (.inl hrun) rfl rfl (applyF_pure _ _ _).symm (Ext.refl E) hR hv (Below.refl _ _) (fun _ h _ => h)

/-- The operands as values without memory. -/
def ρOf (t : List V) (x : Operand) : Value := ((evalV t x).bind toVal).getD undef
def pureOp (P : Program) (t : List V) (o : Oper) : Option Eff :=
  if o.op.operands.toList.all (fun x => ((evalV t x).bind toVal).isSome) = true then
    match o.op with
    | .select .. => none
    | _ => match pureRun P (execOp (ρOf t) o) with
      | some (.value c) => (ofVal c).map Eff.pure
      | _ => none
  else none
theorem pureOp_sound {P : Program} {E : Env} {a : Act} {o : Oper} {base : Nat} {t : List V} {eff : Eff} (hR : HRel E) (ht : RelL E t a.tmps.toList)
    (h : pureOp P t o = some eff) : OpSound P E a o base eff := by
  unfold pureOp at h
  split at h
  · rename_i hall
    have hs : ∀ cs b, o.op ≠ .select cs b := by
      intro cs b e
      rw [e] at h
      cases h
    have hx : ∀ x ∈ o.op.operands, ρOf t x = a.eval x := by
      intro x hx
      have := List.all_eq_true.1 hall x (by simpa using hx)
      unfold ρOf
      cases h1 : evalV t x with
      | none => simp [h1] at this
      | some v =>
        cases h2 : toVal v with
        | none => simp [h1, h2] at this
        | some c => simp [h2, toVal_eq h2 (evalV_rel ht h1)]
    rw [execOp_congr o hs hx] at h
    split at h
    · cases h
    · split at h
      · rename_i c hc
        cases hv : ofVal c with
        | none => simp [hv] at h
        | some v =>
          simp [hv] at h
          subst h
          exact opSound_pure hR (pureRun_run hc E.w) (ofVal_rel hv)
      · cases h
  · cases h

end
end Go.Proofs.Ytifgifhbefhkmaa.VM
