/- The machine of values: calls. No conditions. -/
import Derived.Test.YtifgifhbefhkmaaVMn
namespace Go.Proofs.Ytifgifhbefhkmaa.VM
set_option linter.unusedSimpArgs false
set_option linter.unusedVariables false
open Go Go.RowKit
noncomputable section

abbrev CallF := FuncId → Nat → List V → Option (V × List Blk)
def callAl (rs : List Nat) (rv : V) (blks : List Blk) : Bool := rs.isEmpty || alias 60 rv || blks.any fun b => aliasL (alias 60) b.cells
def callE (call : CallF) (L : Heap) (base : Nat) (f : FuncId) (vs : List V) : Option Eff :=
  match mapRL (reify L false 60) vs with
  | some (as, rs) => match call f base as with
    | some (rv, blks) => match freezeL L (if callAl rs rv blks then rs else []) with
      | some wr => some ⟨rv, wr, blks⟩
      | none => none
    | none => none
  | none => none
def CallOK (P : Program) (call : CallF) : Prop := ∀ f base vs rv blks, call f base vs = some (rv, blks) → IsoSound P f base vs rv blks

/-- What is owed behind a call, with its value. -/
def Behind (E : Env) (base : Nat) (eff : Eff) (e : Ending) (w' : World) : Prop :=
  ∃ cv E', e = .returned cv ∧ E'.w = w' ∧ E'.B = E.B ∧ E'.O = E.O ∧ E'.H = applyF E.H base eff ∧ Ext E E' ∧ HRel E' ∧ Rel E' eff.v cv ∧ Below E.B E.w w' ∧
    (∀ b, E.ρ b = none → ¬ (base ≤ b ∧ b < base + eff.new.length) → E'.ρ b = none)

theorem callE_sound {P : Program} {call : CallF} (hc : CallOK P call) {E : Env} {L : Heap} (hR : HRel E) (hL : Sub L E) {base : Nat} {f : FuncId} {vs : List V} {cs : List Value} (hvs : RelL E vs cs) {eff : Eff}
    (h : callE call L base f vs = some eff) (hfresh : ∀ b, base ≤ b → b < base + eff.new.length → E.ρ b = none) : Calls P f cs.toArray E.w (Behind E base eff) := by
  unfold callE at h
  split at h
  · rename_i as rs has
    split at h
    · rename_i rv blks hcall
      split at h
      · rename_i wr hwr
        cases h
        simp only at hfresh
        generalize hal : callAl rs rv blks = al at hwr
        have hf := freeze_env (L := L) (E := E) hR (fun b blk hb => .inl (hL b blk hb)) hwr
        obtain ⟨x1, x2, x3, x4⟩ := hf
        let O : Nat → Prop := fun c => E.S c ∨ ∃ b, b ∈ rs ∧ ∃ blk e o, hget L b = some blk ∧ E.ρ b = some e ∧ e.pos = some (c, o)
        have hreads : Reads L E ⟨E.w, fun _ => none, fun _ => none, E.w.heap.size, O⟩ false rs := by
          refine ⟨rfl, fun c hs => ⟨hs.1, fun _ => .inl hs, fun b blk e o h1 => by cases h1⟩, fun b hb blk e c o h1 h2 h3 => ?_, fun q => by cases q⟩
          obtain ⟨e', he', hl⟩ := hR.at_ b blk (hL b blk h1)
          rw [h2] at he'
          cases he'
          exact ⟨(hl.lt h3).2, fun _ => .inr ⟨b, hb, blk, e, o, h1, h2, h3⟩, fun b blk e o h1 => by cases h1⟩
        have hargs := mapRL_rel (L := L) (E := E) (res := false) (fun v v' rs c h1 h2 h3 => reify_rel hR hL 60 v v' rs c h1 h2 h3) has hvs hreads
        refine (hc f base as rv blks hcall E.w O cs hargs).mono fun e w' hpost => ?_
        obtain ⟨cv, ρ, he, hb, hRR, hrv, hρ⟩ := hpost
        have hO : al = true → ∀ c, O c → (Env.S { E with H := setsF wr E.H }) c := by
          intro hat c hoc
          rcases hoc with hs | ⟨b, hb1, blk, e1, o, h1, h2, h3⟩
          · exact x1.S c hs
          · obtain ⟨e', he', hl⟩ := hR.at_ b blk (hL b blk h1)
            rw [h2] at he'
            cases he'
            have hlt := hl.lt h3
            refine ⟨hlt.2, fun q => ?_, fun b1 blk1 e2 o2 g1 g2 g3 g4 => ?_⟩
            · have q' : c < E.B := q
              omega
            · rw [hat] at x3
              obtain ⟨blk0, k1, k2⟩ := x3 b (by simpa using hb1)
              have := x2.inj b b1 blk0 blk1 e1 e2 c o o2 k1 g1 h2 g3 h3 g4
              subst this
              simp only at g1
              rw [k1] at g1
              cases g1
              rw [k2] at g2
              cases g2
        have halq : al = true ∨ (alias 60 rv = false ∧ ∀ blk ∈ blks, aliasL (alias 60) blk.cells = false) := by
          cases al with
          | true => exact .inl rfl
          | false =>
            simp only [callAl, Bool.or_eq_false_iff] at hal
            refine .inr ⟨hal.1.2, fun blk hblk => ?_⟩
            have := List.any_eq_false.1 hal.2 blk hblk
            simpa using this
        have hback := back_env (E1 := { E with H := setsF wr E.H }) (al := al) (base := base) (ρ := ρ) (O := O) x2 hb hRR hρ (fun b h1 h2 => hfresh b h1 h2) hO (halq.imp id fun q blk hblk => ⟨60, q.2 blk hblk⟩)
        obtain ⟨y1, y2, y3, y4⟩ := hback
        refine ⟨cv, backEnv { E with H := setsF wr E.H } w' blks base ρ, he, rfl, rfl, rfl, rfl, x1.trans y1, y2, y4 rv cv (halq.imp id fun q => ⟨60, q.1⟩) hrv, y3, fun b hb1 hb2 => ?_⟩
        simp only [backEnv]
        cases hq : ρ b with
        | none => exact hb1
        | some e1 => exact absurd (hρ b (by rw [hq]; simp)) hb2
      · cases h
    · cases h
  · cases h

/-- Which function a call enters, with what. -/
def okFn (P : Program) (f : FuncId) : Bool :=
  match P.funcs[f]? with
  | some fn => fn.body.isSome && fn.name != "runtime.NumGoroutine"
  | none => false
def methodV (P : Program) (t : TypeId) (name : String) : Option FuncId :=
  match P.info? t with
  | some i => match i.methods.find? (·.name == name) with
    | some m => match m.path.toList, m.func, P.underlying t with
      | [], some (f, true), some (.pointer _) => some f
      | [], some (f, false), some d => (match d with | .pointer _ => none | _ => some f)
      | _, _, _ => none
    | none => none
  | none => none
def evalL (t : List V) : List Operand → Option (List V)
  | [] => some []
  | x :: r => match evalV t x, evalL t r with
    | some v, some vs => some (v :: vs)
    | _, _ => none
def resolveV (P : Program) (t : List V) (c : Call) : Option (FuncId × List V) :=
  match evalL t c.args.toList with
  | some vs => match c.callee with
    | .value x => match evalV t x with
      | some (.func (.func f) first captured) => if okFn P f = true then some (f, first ++ vs ++ captured) else none
      | _ => none
    | .invoke x name => match evalV t x with
      | some (.iface ty v) => match methodV P ty name with
        | some f => if okFn P f = true then some (f, v :: vs) else none
        | none => none
      | _ => none
    | .builtin _ => none
  | none => none
theorem evalL_rel {E : Env} {t : List V} {a : Act} (ht : RelL E t a.tmps.toList) : ∀ {xs : List Operand} {vs : List V}, evalL t xs = some vs → RelL E vs (xs.map a.eval)
  | [], vs, h => by cases h; exact .nil
  | x :: r, vs, h => by
    simp only [evalL] at h
    cases h1 : evalV t x with
    | none => rw [h1] at h; cases h
    | some v =>
      cases h2 : evalL t r with
      | none => rw [h1, h2] at h; cases h
      | some ws =>
        rw [h1, h2] at h
        cases h
        exact .cons (evalV_rel ht h1) (evalL_rel ht h2)
theorem callFunc_run {P : Program} {f : FuncId} (h : okFn P f = true) (args : Array Value) (w : World) : (callFunc f args).run P w = .ok (.enter f args) w := by
  unfold okFn at h
  cases hf : P.funcs[f]? with
  | none => rw [hf] at h; cases h
  | some fn =>
    rw [hf] at h
    simp only [Bool.and_eq_true, bne_iff_ne, ne_eq] at h
    have hb : fn.body.isNone = false := by
      cases hq : fn.body with
      | none => rw [hq] at h; simp at h
      | some c => rfl
    simp [callFunc, hf, h.2]
    intro hq
    rw [hq] at hb
    cases hb
theorem method_run {P : Program} {t : TypeId} {name : String} {f : FuncId} (h : methodV P t name = some f) (v : Value) (n : Nat) (w : World) : (method (n + 1) t v name).run P w = .ok (f, v) w := by
  unfold methodV at h
  cases hi : P.info? t with
  | none => rw [hi] at h; cases h
  | some i =>
    rw [hi] at h
    simp only at h
    cases hm : i.methods.find? (·.name == name) with
    | none => rw [hm] at h; cases h
    | some m =>
      rw [hm] at h
      simp only at h
      split at h
      · rename_i f' e hp hf hu
        cases h
        simp [method, typeInfo, hi, hm, hp, follow, hf, receiverAt, run_underlying hu, Place.get]
      · rename_i f' d hp hf hu
        cases d <;> simp only at h <;> cases h <;> simp [method, typeInfo, hi, hm, hp, follow, hf, receiverAt, run_underlying hu, Place.get]
      · cases h
theorem resolve_run {P : Program} {E : Env} {t : List V} {a : Act} {o : Oper} {c : Call} (ht : RelL E t a.tmps.toList) (ho : o.op = .call c) {f : FuncId} {vs : List V} (h : resolveV P t c = some (f, vs)) (w : World) :
    ∃ cs : List Value, RelL E vs cs ∧ (execOp a.eval o).run P w = .ok (.enter f cs.toArray) w := by
  unfold resolveV at h
  split at h
  · rename_i ws hws
    have rw_ := evalL_rel ht hws
    split at h
    · rename_i x hx
      split at h
      · rename_i f' first captured hv
        split at h
        · rename_i hok
          cases h
          have r := evalV_rel ht hv
          generalize hcx : a.eval x = cx at r
          cases r with
          | func fn s1 s2 =>
            rename_i cf cc
            refine ⟨cf ++ c.args.toList.map a.eval ++ cc, (s1.append rw_).append s2, ?_⟩
            rw [execOp, ho]
            have := callFunc_run hok (cf ++ c.args.toList.map a.eval ++ cc).toArray w
            have harr : (cf.toArray ++ c.args.map a.eval ++ cc.toArray) = (cf ++ c.args.toList.map a.eval ++ cc).toArray := by
              apply Array.ext'
              simp
            simp only [resolve, hx, hcx, Deferred.ofValue, Sem.run_bind, Sem.run_pure, Result.andThen_ok, invoke, harr, this]
        · cases h
      · cases h
    · rename_i x name hx
      split at h
      · rename_i ty v hv
        split at h
        · rename_i f' hm
          split at h
          · rename_i hok
            cases h
            have r := evalV_rel ht hv
            generalize hcx : a.eval x = cx at r
            cases r with
            | iface _ s =>
              rename_i cv
              refine ⟨cv :: c.args.toList.map a.eval, .cons s rw_, ?_⟩
              rw [execOp, ho]
              have hmr := method_run hm cv (P.types.size + 99) w
              have := callFunc_run hok (cv :: c.args.toList.map a.eval).toArray w
              have h1 : (#[Value.iface ty cv] ++ c.args.map a.eval)[0]? = some (Value.iface ty cv) := by rw [Array.getElem?_append_left (by simp)]; rfl
              have h2 : #[cv] ++ (#[Value.iface ty cv] ++ c.args.map a.eval).extract 1 (#[Value.iface ty cv] ++ c.args.map a.eval).size = (cv :: c.args.toList.map a.eval).toArray := by
                apply Array.ext'
                simp [List.extract_eq_take_drop]
                exact List.take_of_length_le (by simp)
              simp only [resolve, hx, hcx, Sem.run_bind, Sem.run_pure, Result.andThen_ok, invoke, h1, callMethod, run_program, Made.depth]
              rw [show P.types.size + 100 = (P.types.size + 99) + 1 from rfl, hmr]
              simp only [Result.andThen_ok, h2, this]
          · cases h
        · cases h
      · cases h
    · cases h
  · cases h

theorem call_sound {P : Program} {call : CallF} (hc : CallOK P call) {E : Env} {L : Heap} {t : List V} {a : Act} {o : Oper} {base : Nat} (hR : HRel E) (hL : Sub L E) (ht : RelL E t a.tmps.toList) {c : Call} (ho : o.op = .call c)
    {f : FuncId} {vs : List V} (h : resolveV P t c = some (f, vs)) {eff : Eff} (he : callE call L base f vs = some eff) (hfresh : ∀ b, base ≤ b → b < base + eff.new.length → E.ρ b = none) : OpSound P E a o base eff := by
  intro next Q hn
  obtain ⟨cs, hcs, hrun⟩ := resolve_run ht ho h E.w
  unfold Oper.wp
  rw [hrun]
  refine (callE_sound hc hR hL hcs he hfresh).mono ?_
  rintro e w' ⟨cv, E', rfl, rfl, h1, h2, h3, h4, h5, h6, h7, h8⟩
  exact hn cv E' h1 h2 h3 h4 h5 h6 h7 h8
end
end Go.Proofs.Ytifgifhbefhkmaa.VM
