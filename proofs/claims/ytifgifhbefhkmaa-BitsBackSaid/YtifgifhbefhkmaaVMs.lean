/- The machine of values: one walk serves every order. No conditions. -/
import Derived.Test.YtifgifhbefhkmaaVMr
namespace Go.Proofs.Ytifgifhbefhkmaa.VM
set_option linter.unusedSimpArgs false
set_option linter.unusedVariables false
open Go Go.RowKit
noncomputable section

def hF (H : Nat → Option Blk) (D : Nat → Bool) : List DRec → Nat → Option Blk
  | [] => H
  | r :: rest => if D r.i then applyF (hF H D rest) r.base r.eff else hF H D rest
def tF (t0 : List V) (D : Nat → Bool) : List DRec → List V
  | [] => t0
  | r :: rest => if D r.i then putV (tF t0 D rest) r.o.dst r.eff.v else tF t0 D rest
theorem heapOf_get (H0 : Heap) (D : Nat → Bool) : ∀ rs, hget (heapOf H0 D rs) = hF (hget H0) D rs
  | [] => rfl
  | r :: rest => by
    have ih := heapOf_get H0 D rest
    rw [heapOf, hF]
    split
    · rename_i h1 h2
      have : ∀ H, applyF H r.base r.eff = H := fun H => by unfold applyF; rw [h1, h2]; rfl
      rw [ih]
      split
      · rw [this]
      · rfl
    · split
      · rw [hget_applyL, ih]
      · exact ih
theorem hrem_get : ∀ (L : Heap) (X : List Nat) (b : Nat), hget (hrem L X) b = if X.contains b then none else hget L b
  | [], X, b => by simp [hrem, hget]
  | (i, x) :: r, X, b => by
    rw [hrem]
    split
    · rename_i h
      rw [hrem_get r X b, hget_cons]
      unfold updF
      by_cases q : b = i
      · subst q; rw [if_pos h, if_pos h]
      · rw [if_neg q]
    · rename_i h
      rw [hget_cons, hget_cons]
      unfold updF
      by_cases q : b = i
      · subst q; rw [if_pos rfl, if_neg h, if_pos rfl]
      · rw [if_neg q, if_neg q, hrem_get r X b]

/-- What an operation's effect touches. -/
def Aff (r : DRec) (b : Nat) : Prop := b ∈ r.eff.wr.map (·.1) ∨ (r.base ≤ b ∧ b < r.base + r.eff.new.length)
theorem setsF_not {l : List (Nat × Blk)} {b : Nat} : ∀ {H : Nat → Option Blk}, b ∉ l.map (·.1) → setsF l H b = H b := by
  induction l with
  | nil => intro H _; rfl
  | cons p l ih =>
    intro H h
    obtain ⟨j, x⟩ := p
    simp only [List.map_cons, List.mem_cons, not_or] at h
    rw [setsF, ih h.2]
    unfold updF
    rw [if_neg h.1]
theorem setsF_in {l : List (Nat × Blk)} {b : Nat} : b ∈ l.map (·.1) → ∃ x, ∀ H, setsF l H b = some x := by
  induction l with
  | nil => intro h; cases h
  | cons p l ih =>
    intro h
    obtain ⟨j, x⟩ := p
    by_cases q : b ∈ l.map (·.1)
    · obtain ⟨y, hy⟩ := ih q
      exact ⟨y, fun H => by rw [setsF, hy]⟩
    · simp only [List.map_cons, List.mem_cons] at h
      have hb : b = j := h.resolve_right q
      refine ⟨x, fun H => ?_⟩
      rw [setsF, setsF_not q]
      unfold updF
      rw [if_pos hb]
theorem applyF_not {r : DRec} {b : Nat} (h : ¬ Aff r b) (H : Nat → Option Blk) : applyF H r.base r.eff b = H b := by
  unfold Aff at h
  rw [not_or] at h
  unfold applyF
  rw [newsF_get, if_neg h.2, setsF_not h.1]
theorem applyF_aff {r : DRec} {b : Nat} (h : Aff r b) : ∃ x, ∀ H, applyF H r.base r.eff b = some x := by
  unfold applyF
  by_cases q : r.base ≤ b ∧ b < r.base + r.eff.new.length
  · refine ⟨r.eff.new[b - r.base]'(by omega), fun H => ?_⟩
    rw [newsF_get, if_pos q, List.getElem?_eq_getElem]
  · obtain ⟨x, hx⟩ := setsF_in (h.resolve_right q)
    exact ⟨x, fun H => by rw [newsF_get, if_neg q, hx]⟩
theorem hF_congr {H : Nat → Option Blk} {D D' : Nat → Bool} {b : Nat} : ∀ {rs : List DRec}, (∀ r ∈ rs, Aff r b → D r.i = D' r.i) → hF H D rs b = hF H D' rs b
  | [], _ => rfl
  | r :: rest, h => by
    have ih := hF_congr (H := H) (rs := rest) fun x hx => h x (List.mem_cons_of_mem _ hx)
    rw [hF, hF]
    by_cases ha : Aff r b
    · rw [h r (List.mem_cons_self ..) ha]
      obtain ⟨x, hx⟩ := applyF_aff ha
      split
      · rw [hx, hx]
      · exact ih
    · split <;> split <;> (try rw [applyF_not ha]) <;> (try rw [applyF_not ha]) <;> exact ih
theorem hF_none {H : Nat → Option Blk} {D : Nat → Bool} {b : Nat} : ∀ {rs : List DRec} {x : Blk}, hF H D rs b = some x → H b = some x ∨ ∃ r ∈ rs, D r.i = true ∧ Aff r b
  | [], x, h => .inl h
  | r :: rest, x, h => by
    rw [hF] at h
    split at h
    · rename_i hd
      by_cases ha : Aff r b
      · exact .inr ⟨r, List.mem_cons_self .., hd, ha⟩
      · rw [applyF_not ha] at h
        exact (hF_none h).imp id fun ⟨y, h1, h2⟩ => ⟨y, List.mem_cons_of_mem _ h1, h2⟩
    · exact (hF_none h).imp id fun ⟨y, h1, h2⟩ => ⟨y, List.mem_cons_of_mem _ h1, h2⟩
theorem applyF_comm {r x : DRec} (h : ∀ b, ¬ (Aff r b ∧ Aff x b)) (H : Nat → Option Blk) : applyF (applyF H r.base r.eff) x.base x.eff = applyF (applyF H x.base x.eff) r.base r.eff := by
  funext b
  by_cases hx : Aff x b
  · have hr : ¬ Aff r b := fun q => h b ⟨q, hx⟩
    obtain ⟨y, hy⟩ := applyF_aff hx
    rw [hy, applyF_not hr, hy]
  · by_cases hr : Aff r b
    · obtain ⟨y, hy⟩ := applyF_aff hr
      rw [applyF_not hx, hy, hy]
    · rw [applyF_not hx, applyF_not hr, applyF_not hr, applyF_not hx]
theorem hF_add {H : Nat → Option Blk} {D : Nat → Bool} {r : DRec} {rest : List DRec} (hD : D r.i = false) (hrest : ∀ x ∈ rest, x.i ≠ r.i) : ∀ {pre : List DRec}, (∀ x ∈ pre, x.i ≠ r.i) → (∀ x ∈ pre, D x.i = true → ∀ b, ¬ (Aff r b ∧ Aff x b)) →
    hF H (fun j => D j || j == r.i) (pre ++ r :: rest) = applyF (hF H D (pre ++ r :: rest)) r.base r.eff
  | [], _, _ => by
    have h1 : hF H (fun j => D j || j == r.i) rest = hF H D rest := by
      funext b
      exact hF_congr fun x hx _ => by simp [hrest x hx]
    simp only [List.nil_append, hF, hD, beq_self_eq_true, Bool.or_true, if_true, Bool.false_eq_true, if_false, h1]
  | x :: pre, hp, ha => by
    have ih := hF_add (H := H) hD hrest (pre := pre) (fun y hy => hp y (List.mem_cons_of_mem _ hy)) (fun y hy => ha y (List.mem_cons_of_mem _ hy))
    have hx : (x.i == r.i) = false := by simpa using hp x (List.mem_cons_self ..)
    simp only [List.cons_append, hF, hx, Bool.or_false, ih]
    split
    · rename_i hd
      exact applyF_comm (ha x (List.mem_cons_self ..) hd) _
    · rfl

theorem putV_length (t : List V) (d : Option Tmp) (v : V) : (putV t d v).length = t.length := by
  cases d with
  | none => rfl
  | some d => simp [putV, setn_eq]
theorem tF_length (t0 : List V) (D : Nat → Bool) : ∀ rs, (tF t0 D rs).length = t0.length
  | [] => rfl
  | r :: rest => by
    rw [tF]
    split
    · rw [putV_length, tF_length t0 D rest]
    · exact tF_length t0 D rest
theorem putV_get {t t' : List V} {d : Option Tmp} {v : V} {s : Nat} (hl : t.length = t'.length) (h : t[s]? = t'[s]?) : (putV t d v)[s]? = (putV t' d v)[s]? := by
  cases d with
  | none => exact h
  | some d =>
    simp only [putV, setn_eq, List.getElem?_set]
    split
    · rw [hl]
    · exact h
theorem putV_ne {t : List V} {d : Option Tmp} {v : V} {s : Nat} (h : d ≠ some s) : (putV t d v)[s]? = t[s]? := by
  cases d with
  | none => rfl
  | some d =>
    have : d ≠ s := fun e => h (by rw [e])
    simp [putV, setn_eq, List.getElem?_set, this]
theorem tF_congr {t0 : List V} {D D' : Nat → Bool} {s : Nat} : ∀ {rs : List DRec}, (∀ r ∈ rs, r.o.dst = some s → D r.i = D' r.i) → (tF t0 D rs)[s]? = (tF t0 D' rs)[s]?
  | [], _ => rfl
  | r :: rest, h => by
    have ih := tF_congr (t0 := t0) (rs := rest) fun x hx => h x (List.mem_cons_of_mem _ hx)
    have hl : (tF t0 D rest).length = (tF t0 D' rest).length := by rw [tF_length, tF_length]
    rw [tF, tF]
    by_cases hd : r.o.dst = some s
    · rw [h r (List.mem_cons_self ..) hd]
      split
      · exact putV_get hl ih
      · exact ih
    · split <;> split <;> (try rw [putV_ne hd]) <;> (try rw [putV_ne hd]) <;> exact ih
theorem putV_comm (t : List V) {d e : Option Tmp} (v u : V) (h : ∀ s, d = some s → e ≠ some s) : putV (putV t d v) e u = putV (putV t e u) d v := by
  cases d with
  | none => rfl
  | some d =>
    cases e with
    | none => rfl
    | some e =>
      have hne : d ≠ e := fun q => h d rfl (by rw [q])
      simp only [putV, setn_eq]
      exact List.set_comm _ _ hne
theorem tF_add {t0 : List V} {D : Nat → Bool} {r : DRec} {rest : List DRec} (hD : D r.i = false) (hrest : ∀ x ∈ rest, x.i ≠ r.i) : ∀ {pre : List DRec}, (∀ x ∈ pre, x.i ≠ r.i) → (∀ x ∈ pre, D x.i = true → ∀ s, r.o.dst = some s → x.o.dst ≠ some s) →
    tF t0 (fun j => D j || j == r.i) (pre ++ r :: rest) = putV (tF t0 D (pre ++ r :: rest)) r.o.dst r.eff.v
  | [], _, _ => by
    have h1 : tF t0 (fun j => D j || j == r.i) rest = tF t0 D rest := by
      apply List.ext_getElem?
      intro s
      exact tF_congr fun x hx _ => by simp [hrest x hx]
    simp only [List.nil_append, tF, hD, beq_self_eq_true, Bool.or_true, if_true, Bool.false_eq_true, if_false, h1]
  | x :: pre, hp, ha => by
    have ih := tF_add (t0 := t0) hD hrest (pre := pre) (fun y hy => hp y (List.mem_cons_of_mem _ hy)) (fun y hy => ha y (List.mem_cons_of_mem _ hy))
    have hx : (x.i == r.i) = false := by simpa using hp x (List.mem_cons_self ..)
    simp only [List.cons_append, tF, hx, Bool.or_false, ih]
    split
    · rename_i hd
      exact putV_comm _ _ _ (ha x (List.mem_cons_self ..) hd)
    · rfl

/-- What came behind. -/
structure Later (E E' : Env) : Prop where
  x : Ext E E'
  O : E'.O = E.O
  bel : Below E.B E.w E'.w
theorem Later.refl (E : Env) : Later E E := ⟨Ext.refl E, rfl, Below.refl _ _⟩
theorem Later.trans {E E' E'' : Env} (h : Later E E') (k : Later E' E'') : Later E E'' :=
  ⟨h.x.trans k.x, k.O.trans h.O, h.bel.trans (by have := k.bel; rwa [h.x.B] at this)⟩
def ShareOK (P : Program) (sh : ShareF) : Prop := ∀ f vs H nx v H' nx', sh f vs H nx = some (v, H', nx') → ∀ (E : Env) (cs : List Value), HRel E → E.H = hget H → (∀ b, nx ≤ b → E.ρ b = none) → RelL E vs cs →
  Calls P f cs.toArray E.w (fun e w' => ∃ cv E', e = .returned cv ∧ E'.w = w' ∧ Later E E' ∧ E'.H = hget H' ∧ HRel E' ∧ Rel E' v cv ∧ ∀ b, nx' ≤ b → E'.ρ b = none)
theorem sharedV_call {P : Program} {cf : Cfg} {t : List V} {o : Oper} {f : FuncId} {vs : List V} (h : sharedV P cf t o = some (f, vs)) : ∃ c, o.op = .call c ∧ resolveV P t c = some (f, vs) := by
  unfold sharedV at h
  split at h
  · rename_i c hop
    split at h
    · cases h
    · split at h
      · rename_i f' vs' hres
        split at h
        · cases h; exact ⟨c, hop, hres⟩
        · cases h
      · cases h
  · cases h
theorem sharedV_congr {P : Program} {cf : Cfg} {t t' : List V} {o : Oper} (h : ∀ x ∈ o.op.operands, evalV t x = evalV t' x) : sharedV P cf t o = sharedV P cf t' o := by
  obtain ⟨dst, op, type, pos, after, guard⟩ := o
  unfold sharedV
  cases op <;> simp only [Op.operands] at h <;> try rfl
  case call c =>
    obtain ⟨cal, args, ats⟩ := c
    have hargs : ∀ x ∈ args.toList, evalV t x = evalV t' x := fun x hx => h x (by simp [Call.operands]; exact .inr (by simpa using hx))
    cases cal with
    | builtin b => rfl
    | value f => simp only [resolveV, evalL_congr hargs, h f (by simp [Call.operands])]
    | invoke r m => simp only [resolveV, evalL_congr hargs, h r (by simp [Call.operands])]
theorem hget_key : ∀ {L : Heap} {b : Nat} {x : Blk}, hget L b = some x → ∃ p ∈ L, p.1 = b
  | [], b, x, h => by cases h
  | (i, y) :: r, b, x, h => by
    rw [hget_cons] at h
    unfold updF at h
    split at h
    · rename_i e; exact ⟨(i, y), List.mem_cons_self .., e.symm⟩
    · obtain ⟨p, h1, h2⟩ := hget_key h
      exact ⟨p, List.mem_cons_of_mem _ h1, h2⟩
theorem beqB_eq {a b : Blk} (h : beqB a b = true) : a = b := by
  have := beqBs_eq (a := [a]) (b := [b]) (by simp [beqBs, h])
  simpa using this
theorem mapO_at {α β : Type} {f : α → Option β} : ∀ {l : List α} {r : List β}, mapO f l = some r → r.length = l.length ∧ ∀ (i : Nat) (x : α), l[i]? = some x → r[i]? = f x
  | [], r, h => by cases h; exact ⟨rfl, fun i x q => by simp at q⟩
  | a :: l, r, h => by
    simp only [mapO] at h
    cases h1 : f a with
    | none => rw [h1] at h; cases h
    | some y =>
      cases h2 : mapO f l with
      | none => rw [h1, h2] at h; cases h
      | some ys =>
        rw [h1, h2] at h
        cases h
        obtain ⟨g1, g2⟩ := mapO_at h2
        refine ⟨by simp [g1], fun i x q => ?_⟩
        cases i with
        | zero => simp at q; subst q; simp [h1]
        | succ i => simp at q; simpa using g2 i x q
theorem setsF_all {l : List (Nat × Blk)} {b : Nat} {y : Blk} (h : ∀ p ∈ l, p.1 = b → p.2 = y) : b ∈ l.map (·.1) → ∀ H, setsF l H b = some y := by
  induction l with
  | nil => intro h; cases h
  | cons p l ih =>
    intro hm H
    obtain ⟨j, x⟩ := p
    rw [setsF]
    by_cases q : b ∈ l.map (·.1)
    · exact ih (fun p hp => h p (List.mem_cons_of_mem _ hp)) q _
    · simp only [List.map_cons, List.mem_cons] at hm
      have hb : b = j := hm.resolve_right q
      rw [setsF_not q]
      unfold updF
      have hx : x = y := h (j, x) (List.mem_cons_self ..) hb.symm
      rw [if_pos hb, hx]
theorem effH_spec {L H' : Heap} {nx nx' : Nat} {v : V} {e : Eff} (h : effH L H' nx nx' v = some e) : e.v = v ∧ nx + e.new.length = nx' ∧ hget H' = applyF (hget L) nx e ∧ ∀ b, b ∈ e.wr.map (·.1) → (hget L b).isSome = true := by
  unfold effH at h
  split at h
  · rename_i hc
    simp only [Bool.and_eq_true, decide_eq_true_eq] at hc
    obtain ⟨⟨h1, h2⟩, h3⟩ := hc
    split at h
    · rename_i new hnew
      cases h
      obtain ⟨g1, g2⟩ := mapO_at hnew
      simp only [List.length_range] at g1
      have hwr : ∀ p ∈ L.filterMap (effD L H'), (hget L p.1).isSome = true ∧ hget H' p.1 = some p.2 := by
        intro p hp
        obtain ⟨q, hq1, hq2⟩ := List.mem_filterMap.1 hp
        unfold effD at hq2
        split at hq2
        · rename_i x y hx hy
          split at hq2
          · cases hq2
          · cases hq2
            exact ⟨by rw [hx]; rfl, hy⟩
        · cases hq2
      refine ⟨rfl, by simp only [g1]; omega, ?_, fun b hb => ?_⟩
      · funext b
        unfold applyF
        rw [newsF_get]
        simp only [g1]
        split
        · rename_i hb
          rw [g2 (b - nx) (b - nx) (by rw [List.getElem?_range (by omega)])]
          congr 1
          omega
        · rename_i hb
          by_cases q : b ∈ (L.filterMap (effD L H')).map (·.1)
          · obtain ⟨p, hp1, hp2⟩ := List.mem_map.1 q
            have hy := (hwr p hp1).2
            rw [setsF_all (y := p.2) (fun p' hp' he => ?_) q, ← hp2, hy]
            have := (hwr p' hp').2
            rw [he, ← hp2, hy] at this
            exact (Option.some.inj this).symm
          · rw [setsF_not q]
            cases hL : hget L b with
            | none =>
              cases hH : hget H' b with
              | none => rfl
              | some y =>
                obtain ⟨p, hp1, hp2⟩ := hget_key hH
                have := List.all_eq_true.1 h3 p hp1
                rw [hp2, hL] at this
                simp at this
                omega
            | some x =>
              obtain ⟨p, hp1, hp2⟩ := hget_key hL
              have := List.all_eq_true.1 h2 p hp1
              rw [Bool.and_eq_true, hp2] at this
              obtain ⟨y, hy⟩ := Option.isSome_iff_exists.1 this.2
              rw [hy]
              by_cases hb2 : beqB x y = true
              · rw [beqB_eq hb2]
              · exfalso
                refine q (List.mem_map.2 ⟨(p.1, y), List.mem_filterMap.2 ⟨p, hp1, ?_⟩, hp2⟩)
                unfold effD
                rw [hp2, hL, hy]
                simp only [hb2]
                rfl
      · obtain ⟨p, hp1, hp2⟩ := List.mem_map.1 hb
        rw [← hp2]
        exact (hwr p hp1).1
    · cases h
  · cases h

/-- The records of a walk. -/
inductive WF (P : Program) (cf : Cfg) (call : CallF) (sh : ShareF) (ops : List Oper) (ms : List Nat) (H0 : Heap) (t0 : List V) (nx0 : Nat) : List DRec → List V → Nat → Prop
  | nil : WF P cf call sh ops ms H0 t0 nx0 [] t0 nx0
  | cons {r : DRec} {rest : List DRec} : WF P cf call sh ops ms H0 t0 nx0 rest r.t r.base → r.i = rest.length → ops[r.i]? = some r.o → r.wt = wantedV ops r.t r.o →
      (r.wt = true → stepE P cf call sh (heapOf H0 (bitM ms r.i) rest) r.base r.t r.o = some (r.ex, r.eff)) → (r.wt = false → r.eff = Eff.pure (.tup []) ∧ r.ex = false) →
      WF P cf call sh ops ms H0 t0 nx0 (r :: rest) (putV r.t r.o.dst r.eff.v) (r.base + r.eff.new.length)
section
variable {P : Program} {cf : Cfg} {call : CallF} {sh : ShareF} {ops : List Oper} {ms : List Nat} {H0 : Heap} {t0 : List V} {nx0 : Nat}
theorem fwd_wf : ∀ {l : List Oper} {i : Nat} {t : List V} {nx : Nat} {recs : List DRec} {t' : List V} {nx' : Nat} {recs' : List DRec}, WF P cf call sh ops ms H0 t0 nx0 recs t nx → i = recs.length → (∀ j, l[j]? = ops[i + j]?) →
    fwd P cf call sh ops ms H0 l i t nx recs = some (t', nx', recs') → WF P cf call sh ops ms H0 t0 nx0 recs' t' nx' ∧ recs'.length = i + l.length
  | [], i, t, nx, recs, t', nx', recs', hw, hi, hl, h => by
    simp only [fwd, Option.some.injEq, Prod.mk.injEq] at h
    obtain ⟨rfl, rfl, rfl⟩ := h
    exact ⟨hw, by simp [hi]⟩
  | o :: r, i, t, nx, recs, t', nx', recs', hw, hi, hl, h => by
    have ho : ops[i]? = some o := by simpa using (hl 0).symm
    have hl' : ∀ j, r[j]? = ops[i + 1 + j]? := fun j => by have := hl (j + 1); simpa [Nat.add_assoc, Nat.add_comm 1 j] using this
    rw [fwd] at h
    split at h
    · rename_i hwt
      split at h
      · rename_i ex eff heff
        have hw' := WF.cons (r := ⟨i, o, true, nx, t, eff, ex⟩) (rest := recs) hw hi ho hwt.symm (fun _ => heff) (fun q => by cases q)
        have := fwd_wf hw' (by simp [hi]) hl' h
        refine ⟨this.1, ?_⟩
        rw [this.2]
        simp
        omega
      · cases h
    · rename_i hwt
      have hw' := WF.cons (r := ⟨i, o, false, nx, t, Eff.pure (.tup []), false⟩) (rest := recs) hw hi ho (by simpa using hwt) (fun q => by cases q) (fun _ => ⟨rfl, rfl⟩)
      have := fwd_wf hw' (by simp [hi]) hl' h
      refine ⟨this.1, ?_⟩
      rw [this.2]
      simp
      omega
theorem WF.t {rs : List DRec} {t : List V} {nx : Nat} (h : WF P cf call sh ops ms H0 t0 nx0 rs t nx) : t = tF t0 (fun _ => true) rs := by
  induction h with
  | nil => rfl
  | cons h1 h2 h3 h4 h5 h6 ih => rw [tF, if_pos rfl, ← ih]
theorem WF.idx {rs : List DRec} {t : List V} {nx : Nat} (h : WF P cf call sh ops ms H0 t0 nx0 rs t nx) : ∀ r ∈ rs, r.i < rs.length := by
  induction h with
  | nil => intro r hr; cases hr
  | cons h1 h2 h3 h4 h5 h6 ih =>
    intro r hr
    cases hr with
    | head => simp; omega
    | tail _ hr => have := ih r hr; simp; omega
theorem WF.nx {rs : List DRec} {t : List V} {nx : Nat} (h : WF P cf call sh ops ms H0 t0 nx0 rs t nx) : nx0 ≤ nx ∧ ∀ r ∈ rs, nx0 ≤ r.base ∧ r.base + r.eff.new.length ≤ nx := by
  induction h with
  | nil => exact ⟨Nat.le_refl _, fun r hr => by cases hr⟩
  | cons h1 h2 h3 h4 h5 h6 ih =>
    refine ⟨by omega, fun r hr => ?_⟩
    cases hr with
    | head => exact ⟨ih.1, Nat.le_refl _⟩
    | tail _ hr => have := ih.2 r hr; omega
theorem WF.cover {rs : List DRec} {t : List V} {nx : Nat} (h : WF P cf call sh ops ms H0 t0 nx0 rs t nx) : ∀ b, nx0 ≤ b → b < nx → ∃ r ∈ rs, r.base ≤ b ∧ b < r.base + r.eff.new.length := by
  induction h with
  | nil => intro b h1 h2; omega
  | @cons r rest h1 h2 h3 h4 h5 h6 ih =>
    intro b hb1 hb2
    rcases Nat.lt_or_ge b r.base with q | q
    · obtain ⟨x, hx, hq⟩ := ih b hb1 q
      exact ⟨x, List.mem_cons_of_mem _ hx, hq⟩
    · exact ⟨r, List.mem_cons_self .., q, hb2⟩
/-- A walk's records, taken apart at one. -/
theorem WF.split {rs : List DRec} {t : List V} {nx : Nat} (h : WF P cf call sh ops ms H0 t0 nx0 rs t nx) : ∀ i, i < rs.length → ∃ pre r rest, rs = pre ++ r :: rest ∧ r.i = i ∧ rest.length = i ∧ WF P cf call sh ops ms H0 t0 nx0 rest r.t r.base ∧ ops[i]? = some r.o ∧
    r.wt = wantedV ops r.t r.o ∧ (r.wt = true → stepE P cf call sh (heapOf H0 (bitM ms i) rest) r.base r.t r.o = some (r.ex, r.eff)) ∧ (r.wt = false → r.eff = Eff.pure (.tup []) ∧ r.ex = false) ∧ (∀ x ∈ pre, i < x.i) ∧ (∀ x ∈ rest, x.i < i) ∧ (∀ x ∈ pre, r.base + r.eff.new.length ≤ x.base) := by
  induction h with
  | nil => intro i hi; simp at hi
  | @cons r rest h1 h2 h3 h4 h5 h6 ih =>
    intro i hi
    by_cases hq : i < rest.length
    · obtain ⟨pre, x, rest', g1, g2, g3, g4, g5, g6, g7, g8, g9, g10, g11⟩ := ih i hq
      refine ⟨r :: pre, x, rest', by rw [g1]; rfl, g2, g3, g4, g5, g6, g7, g8, fun y hy => ?_, g10, fun y hy => ?_⟩
      · cases hy with
        | head => omega
        | tail _ hy => exact g9 y hy
      · cases hy with
        | head => exact (h1.nx.2 x (by rw [g1]; simp)).2
        | tail _ hy => exact g11 y hy
    · have hir : i = r.i := by simp at hi; omega
      subst hir
      exact ⟨[], r, rest, rfl, rfl, h2.symm, h1, h3, h4, h5, h6, (fun x hx => by cases hx), (fun x hx => by have := h1.idx x hx; omega), (fun x hx => by cases hx)⟩
end
end
end Go.Proofs.Ytifgifhbefhkmaa.VM
