/- The machine of values: regions whose order is open, proved. No conditions. -/
import Derived.Test.YtifgifhbefhkmaaVMs
namespace Go.Proofs.Ytifgifhbefhkmaa.VM
set_option linter.unusedSimpArgs false
set_option linter.unusedVariables false
open Go Go.RowKit
noncomputable section

theorem wt_congr {ops : List Oper} {t t' : List V} {o : Oper} (h : ∀ s, s ∈ looksV ops o → nth t s = nth t' s) : wantedV ops t o = wantedV ops t' o := by
  unfold wantedV
  cases hg : o.guard with
  | none => rfl
  | some p =>
    obtain ⟨j, w⟩ := p
    simp only
    cases hd : (ops[j]?).bind (·.dst) with
    | none => rfl
    | some d =>
      have := h d (by simp [looksV, hg, hd])
      simp only [this]
theorem ev_congr {ops : List Oper} {t t' : List V} {o : Oper} (h : ∀ s, s ∈ looksV ops o → nth t s = nth t' s) : ∀ x ∈ o.op.operands, evalV t x = evalV t' x := by
  intro x hx
  cases x with
  | tmp s => rw [evalV, evalV, h s (List.mem_append_left _ (List.mem_filterMap.2 ⟨.tmp s, by simpa using hx, rfl⟩))]
  | _ => rfl

structure Orders (ops : List Oper) (ms : List Nat) : Prop where
  edge : ∀ j y e, ops[j]? = some y → e ∈ y.after → Region.binds .any e = true → e.on < j ∧ bitM ms j e.on = true
  back : ∀ j y i, ops[j]? = some y → i < j → bitM ms j i = true → ∃ e ∈ y.after, Region.binds .any e = true ∧ (e.on = i ∨ i < e.on ∧ bitM ms e.on i = true)
  trans : ∀ j y i k, ops[j]? = some y → i < j → k < i → bitM ms j i = true → bitM ms i k = true → bitM ms j k = true
  apart : ∀ j y i x, ops[j]? = some y → i < j → ops[i]? = some x → bitM ms j i = false → apartV ops x y = true
theorem orders_of {ops : List Oper} {ms : List Nat} (h : drawOK ops ms = true) : Orders ops ms := by
  unfold drawOK at h
  have h0 : ∀ j y, ops[j]? = some y → okEdges ms j y = true ∧ okPairs ops ms j y = true := fun j y hy => by
    have hj : j < ops.length := by
      rcases Nat.lt_or_ge j ops.length with q | q
      · exact q
      · simp [List.getElem?_eq_none q] at hy
    have := List.all_eq_true.1 h j (List.mem_range.2 hj)
    simpa only [hy, Bool.and_eq_true] using this
  refine ⟨fun j y e hy he hb => ?_, fun j y i hy hi hbit => ?_, fun j y i k hy hi hk h1 h2 => ?_, fun j y i x hy hi hx hbit => ?_⟩
  · have := List.all_eq_true.1 (h0 j y hy).1 e (by simpa using he)
    simpa [hb] using this
  · have := List.all_eq_true.1 (h0 j y hy).2 i (List.mem_range.2 hi)
    simp only [hbit, if_true, Bool.and_eq_true] at this
    obtain ⟨e, he, hq⟩ := List.any_eq_true.1 this.1
    simp only [Bool.and_eq_true, Bool.or_eq_true, beq_iff_eq, decide_eq_true_eq] at hq
    exact ⟨e, by simpa using he, hq.1, hq.2⟩
  · have := List.all_eq_true.1 (h0 j y hy).2 i (List.mem_range.2 hi)
    simp only [h1, if_true, Bool.and_eq_true] at this
    have := List.all_eq_true.1 this.2 k (List.mem_range.2 hk)
    simpa [h2] using this
  · have := List.all_eq_true.1 (h0 j y hy).2 i (List.mem_range.2 hi)
    simpa [hbit, hx] using this
theorem apartV_spec {ops : List Oper} {x y : Oper} (h : apartV ops x y = true) :
    (∀ d, x.dst = some d → d ∉ looksV ops y) ∧ (∀ d, x.dst = some d → y.dst ≠ some d) ∧ (∀ d, y.dst = some d → d ∉ looksV ops x) := by
  refine ⟨fun d hd => ?_, fun d hd => ?_, fun d hd => ?_⟩ <;> simp [apartV, hd] at h
  · exact h.1.1
  · exact h.1.2
  · exact h.2

/-- Downward closed. -/
def Down (ops : List Oper) (D : Nat → Bool) : Prop := ∀ j y, ops[j]? = some y → D j = true → ∀ e ∈ y.after, Region.binds .any e = true → D e.on = true
theorem Down.mask {ops : List Oper} {ms : List Nat} (ho : Orders ops ms) {D : Nat → Bool} (hD : Down ops D) : ∀ (n j : Nat) (y : Oper) (i : Nat), j ≤ n → ops[j]? = some y → i < j → D j = true → bitM ms j i = true → D i = true
  | 0, j, y, i, hn, hy, hi, _, _ => by omega
  | n + 1, j, y, i, hn, hy, hi, hj, hb => by
    obtain ⟨e, he, hbind, hq⟩ := ho.back j y i hy hi hb
    have hDe := hD j y hy hj e he hbind
    rcases hq with rfl | hq
    · exact hDe
    · have hlt := (ho.edge j y e hy he hbind).1
      have hey : ∃ z, ops[e.on]? = some z := by
        have : j < ops.length := by
          rcases Nat.lt_or_ge j ops.length with q | q
          · exact q
          · simp [List.getElem?_eq_none q] at hy
        exact ⟨ops[e.on], List.getElem?_eq_getElem (by omega)⟩
      obtain ⟨z, hz⟩ := hey
      exact Down.mask ho hD n e.on z i (by omega) hz hq.1 hDe hq.2
section
variable {P : Program} {cf : Cfg} {call : CallF} {sh : ShareF} {ops : List Oper} {ms : List Nat} {H0 : Heap} {t0 : List V} {nx0 : Nat}

/-- What a walk's operations write was there. -/
def WrIn (ms : List Nat) (H0 : Heap) (rs : List DRec) : Prop :=
  ∀ pre r rest, rs = pre ++ r :: rest → ∀ b, b ∈ r.eff.wr.map (·.1) → (hget (heapOf H0 (bitM ms r.i) rest) b).isSome = true
theorem WrIn.tail {r : DRec} {rest : List DRec} (h : WrIn ms H0 (r :: rest)) : WrIn ms H0 rest := fun pre y rest' e => h (r :: pre) y rest' (by rw [e]; rfl)
theorem WrIn.drop {pre rest : List DRec} (h : WrIn ms H0 (pre ++ rest)) : WrIn ms H0 rest := fun pre' y rest' e => h (pre ++ pre') y rest' (by rw [e, List.append_assoc])
/-- Blocks behind a part of a walk have numbers below the next. -/
theorem WF.dom {rs : List DRec} {t : List V} {nx : Nat} (h : WF P cf call sh ops ms H0 t0 nx0 rs t nx) (h0 : ∀ b x, hget H0 b = some x → b < nx0) :
    WrIn ms H0 rs → (∀ D b x, hget (heapOf H0 D rs) b = some x → b < nx) ∧ ∀ r ∈ rs, ∀ b, b ∈ r.eff.wr.map (·.1) → b < nx := by
  induction h with
  | nil => exact fun _ => ⟨fun D b x hb => h0 b x hb, fun r hr => by cases hr⟩
  | @cons r rest h1 h2 h3 h4 h5 h6 ih =>
    intro hw
    obtain ⟨i1, i2⟩ := ih hw.tail
    have hhead : ∀ b, b ∈ r.eff.wr.map (·.1) → b < r.base := fun b hb => by
      obtain ⟨z, hz⟩ := Option.isSome_iff_exists.1 (hw [] r rest rfl b hb)
      exact i1 _ b z hz
    refine ⟨fun D b x hb => ?_, fun y hy b hb => ?_⟩
    · rw [heapOf_get] at hb
      rcases hF_none hb with hb | ⟨y, hy, _, ha⟩
      · have := h0 b x hb; have := h1.nx.1; omega
      · cases hy with
        | head =>
          rcases ha with ha | ha
          · have := hhead b ha; omega
          · exact ha.2
        | tail _ hy =>
          rcases ha with ha | ha
          · have := i2 y hy b ha; omega
          · have := (h1.nx.2 y hy).2; omega
    · cases hy with
      | head => have := hhead b hb; omega
      | tail _ hy => have := i2 y hy b hb; omega

theorem WF.sep {rs : List DRec} {t : List V} {nx : Nat} (h : WF P cf call sh ops ms H0 t0 nx0 rs t nx) : ∀ r1 ∈ rs, ∀ r2 ∈ rs, r1.i < r2.i → r1.base + r1.eff.new.length ≤ r2.base := by
  induction h with
  | nil => intro r1 hr; cases hr
  | @cons r rest h1 h2 h3 h4 h5 h6 ih =>
    intro r1 hr1 r2 hr2 hlt
    cases hr1 with
    | head =>
      cases hr2 with
      | head => omega
      | tail _ hr2 => have := h1.idx r2 hr2; omega
    | tail _ hr1 =>
      cases hr2 with
      | head => exact (h1.nx.2 r1 hr1).2
      | tail _ hr2 => exact ih r1 hr1 r2 hr2 hlt
theorem WF.uniq {rs : List DRec} {t : List V} {nx : Nat} (h : WF P cf call sh ops ms H0 t0 nx0 rs t nx) : ∀ r1 ∈ rs, ∀ r2 ∈ rs, r1.i = r2.i → r1 = r2 := by
  induction h with
  | nil => intro r1 hr; cases hr
  | @cons r rest h1 h2 h3 h4 h5 h6 ih =>
    intro r1 hr1 r2 hr2 heq
    cases hr1 with
    | head =>
      cases hr2 with
      | head => rfl
      | tail _ hr2 => have := h1.idx r2 hr2; omega
    | tail _ hr1 =>
      cases hr2 with
      | head => have := h1.idx r1 hr1; omega
      | tail _ hr2 => exact ih r1 hr1 r2 hr2 heq
/-- New blocks of an operation are seen behind it alone. -/
theorem WF.unseen (ho : Orders ops ms) {rs : List DRec} {t : List V} {nx : Nat} (h : WF P cf call sh ops ms H0 t0 nx0 rs t nx) (h0 : ∀ b x, hget H0 b = some x → b < nx0) (hw : WrIn ms H0 rs) (i : Nat) :
    ∀ pre r rest, rs = pre ++ r :: rest → r.i = i → ∀ x ∈ rest, ∀ b, x.base ≤ b → b < x.base + x.eff.new.length → (hget (heapOf H0 (bitM ms i) rest) b).isSome = true → bitM ms i x.i = true := by
  induction i using Nat.strongRecOn with
  | _ i ih =>
    intro pre r rest hrs hri x hx b hb1 hb2 hs
    have hmem : ∀ z, z ∈ rest → z ∈ rs := fun z hz => by rw [hrs]; simp [hz]
    have hir : i < rs.length := by have := h.idx r (by rw [hrs]; simp); omega
    obtain ⟨pre', r', rest', g1, g2, g3, g4, g5, g6, g7, g8, g9, g10, g11⟩ := h.split i hir
    have hrest : ∀ z, z ∈ rest → z.i < i := by
      intro z hz
      -- z lies behind r
      have hz' : z ∈ pre' ++ r' :: rest' := g1 ▸ hmem z hz
      rcases List.mem_append.1 hz' with q | q
      · -- indices fall along the list
        have hsort : ∀ {rs : List DRec} {t : List V} {nx : Nat}, WF P cf call sh ops ms H0 t0 nx0 rs t nx → ∀ pre r rest, rs = pre ++ r :: rest → ∀ z ∈ rest, z.i < r.i := by
          intro rs t nx hwf
          induction hwf with
          | nil => intro pre r rest e; simp at e
          | @cons r0 rest0 k1 k2 k3 k4 k5 k6 kih =>
            intro pre r rest e z hz
            cases pre with
            | nil =>
              simp only [List.nil_append, List.cons.injEq] at e
              obtain ⟨rfl, rfl⟩ := e
              have := k1.idx z hz
              omega
            | cons p pre =>
              simp only [List.cons_append, List.cons.injEq] at e
              exact kih pre r rest e.2 z hz
        have := hsort h pre r rest hrs z hz
        omega
      · cases q with
        | head =>
          have hsort : r' = r := h.uniq r' (hmem r' hz) r (by rw [hrs]; simp) (by omega)
          subst hsort
          have hnd : ∀ {rs : List DRec} {t : List V} {nx : Nat}, WF P cf call sh ops ms H0 t0 nx0 rs t nx → ∀ pre r rest, rs = pre ++ r :: rest → r ∉ rest := by
            intro rs t nx hwf
            induction hwf with
            | nil => intro pre r rest e; simp at e
            | @cons r0 rest0 k1 k2 k3 k4 k5 k6 kih =>
              intro pre r rest e hz
              cases pre with
              | nil =>
                simp only [List.nil_append, List.cons.injEq] at e
                obtain ⟨rfl, rfl⟩ := e
                have := k1.idx _ hz
                omega
              | cons p pre =>
                simp only [List.cons_append, List.cons.injEq] at e
                exact kih pre r rest e.2 hz
          exact absurd hz (hnd h pre _ rest hrs)
        | tail _ q => exact g10 z q
    obtain ⟨z, hz⟩ := Option.isSome_iff_exists.1 hs
    rw [heapOf_get] at hz
    rcases hF_none hz with hz | ⟨y, hy, hyb, ha⟩
    · have := h0 b z hz
      have := (h.nx.2 x (hmem x hx)).1
      omega
    · rcases ha with ha | ha
      · have hyi : y.i < rs.length := h.idx y (hmem y hy)
        obtain ⟨pre2, y2, rest2, k1, k2, k3, k4, k5, k6, k7, k8, k9, k10, k11⟩ := h.split y.i hyi
        obtain rfl : y = y2 := h.uniq y (hmem y hy) y2 (by rw [k1]; simp) k2.symm
        have hs2 := hw pre2 y rest2 k1 b ha
        have hd2 : b < y.base := by
          obtain ⟨q, hq⟩ := Option.isSome_iff_exists.1 hs2
          have hw2 : WrIn ms H0 rest2 := by
            have : WrIn ms H0 (pre2 ++ y :: rest2) := k1 ▸ hw
            exact (this.drop).tail
          exact (k4.dom h0 hw2).1 _ b q hq
        have hxy : x.i < y.i := by
          rcases Nat.lt_trichotomy x.i y.i with q | q | q
          · exact q
          · have := h.uniq x (hmem x hx) y (hmem y hy) q
            subst this
            omega
          · have := h.sep y (hmem y hy) x (hmem x hx) q
            omega
        have hx2 : x ∈ rest2 := by
          have hx' : x ∈ pre2 ++ y :: rest2 := k1 ▸ hmem x hx
          rcases List.mem_append.1 hx' with q | q
          · have := k9 x q; omega
          · cases q with
            | head => omega
            | tail _ q => exact q
        have := ih y.i (hrest y hy) pre2 y rest2 k1 rfl x hx2 b hb1 hb2 hs2
        exact ho.trans i r'.o y.i x.i g5 (hrest y hy) hxy hyb this
      · rcases Nat.lt_trichotomy x.i y.i with q | q | q
        · have := h.sep x (hmem x hx) y (hmem y hy) q; omega
        · rw [q]; exact hyb
        · have := h.sep y (hmem y hy) x (hmem x hx) q; omega
end
end
end Go.Proofs.Ytifgifhbefhkmaa.VM
