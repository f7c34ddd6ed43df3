/- Values with labels: the machine tells what a run asks. No conditions. -/
import Derived.Test.YtifgifhbefhkmaaSVo
namespace Go.Proofs.Ytifgifhbefhkmaa.VM
set_option linter.unusedSimpArgs false
set_option linter.unusedVariables false
open Go Go.RowKit
noncomputable section
section
variable {P : Program} {cf : Cfg} {sx : SX}

structure RSt (ε : Nat → Option BE) (ss : SSt) (s : St) : Prop where
  t : RL ε ss.t s.t
  H : RH ε ss.H s.H
  fs : ∀ b, ss.nx ≤ b → ε b = none
  fv : ∀ b, s.nx ≤ b → hget s.H b = none

theorem putS_rel {ε : Nat → Option BE} {t : List SV} {tv : List V} (h : RL ε t tv) (d : Option Tmp) {s : SV} {v : V} (r : RV ε s v) : RL ε (putS t d s) (putV tv d v) := by
  cases d with
  | none => exact h
  | some d =>
    simp only [putS, putV, ssetn_eq, setn_eq]
    exact h.set d r
theorem applyL_none {L : Heap} {nx : Nat} {e : Eff} (hw : ∀ p ∈ e.wr, (hget L p.1).isSome = true) (hn : ∀ b, nx ≤ b → hget L b = none) : ∀ b, nx + e.new.length ≤ b → hget (applyL L nx e) b = none := by
  intro b hb
  have hns : b ∉ e.wr.map (·.1) := by
    intro hm
    obtain ⟨p, hp, rfl⟩ := List.mem_map.1 hm
    have := hw p hp
    rw [hn p.1 (by omega)] at this
    cases this
  rw [hget_applyL]
  unfold applyF
  rw [newsF_get, if_neg (by omega), setsF_not hns]
  exact hn b (by omega)
theorem RSt.step {ε ε' : Nat → Option BE} {ss : SSt} {s : St} (hr : RSt ε ss s) {t : List SV} (ht : RL ε t s.t) {se : SEff} {e : Eff} (he : ER ε ε' ss.H s.H ss.nx s.nx se e) (d : Option Tmp) :
    RSt ε' ⟨putS t d se.v, sapply ss.H ss.nx se, ss.nx + se.new.length⟩ ⟨putV s.t d e.v, applyL s.H s.nx e, s.nx + e.new.length⟩ :=
  ⟨putS_rel (ht.mono he.ex) d he.v, he.heap _ _ hr.H (fun _ _ => rfl) hr.fv hr.fs, fun b hb => he.fresh b (hr.fs b (by have : ss.nx + se.new.length ≤ b := hb; omega)) (by have : ss.nx + se.new.length ≤ b := hb; omega), applyL_none he.wrIn hr.fv⟩

theorem wantedS_of {ε : Nat → Option BE} {ops : List Oper} {t : List SV} {tv : List V} (ht : RL ε t tv) {o : Oper} {K : Bool → List SV → Prop} (h : wantedS ops t o K) : ∃ t', K (wantedV ops tv o) t' ∧ RL ε t' tv := by
  unfold wantedS at h
  unfold wantedV
  cases hg : o.guard with
  | none => simp only [hg] at h; exact ⟨t, h, ht⟩
  | some p =>
    obtain ⟨j, want⟩ := p
    simp only [hg] at h ⊢
    cases hd : (ops[j]?).bind (·.dst) with
    | none => simp only [hd] at h; exact ⟨t, h, ht⟩
    | some d =>
      simp only [hd] at h ⊢
      have hr := snth_rel ht d
      generalize hs : snth t d = s at h hr
      generalize hv : nth tv d = v at hr ⊢
      have keep : ∀ (b : Bool), RV ε (.bool (.lit b)) v → RL ε (ssetn t d (.bool (.lit b))) tv := by
        intro b hb
        rw [ssetn_eq]
        have h1 := ht.set d hb
        by_cases hdl : d < tv.length
        · have : tv.set d v = tv := by
            rw [← hv, nth_eq, List.getD_eq_getElem?_getD, List.getElem?_eq_getElem hdl]
            simp
          rwa [this] at h1
        · have hl := ht.length
          rw [List.set_eq_of_length_le (show t.length ≤ d by rw [hl]; exact Nat.not_lt.1 hdl)]
          exact ht
      cases s <;> try (cases h; done)
      · rename_i b
        cases hr with
        | bool _ c hc =>
          cases b with
          | lit b =>
            simp only [SB.holds] at hc
            have : c = b := by cases c <;> cases b <;> simp_all
            subst this
            exact ⟨t, h, ht⟩
          | sym p =>
            cases c with
            | true =>
              refine ⟨_, ?_, keep true (.bool _ _ (by simp [SB.holds]))⟩
              have := h.1 (hc.1 rfl)
              cases want <;> exact this
            | false =>
              refine ⟨_, ?_, keep false (.bool _ _ (by simp [SB.holds]))⟩
              have := h.2 (fun q => by have := hc.2 q; cases this)
              cases want <;> exact this
      · rename_i vs
        cases vs with
        | nil => cases hr with | tup q => exact ⟨t, h, ht⟩
        | cons x r => cases h

/-- A step of a region, or all of it. -/
def GoStep (P : Program) (cf : Cfg) (ops : List Oper) (s : St) (o : Oper) (s' : St) : Prop := ∃ N, ∀ n, N ≤ n → stepOp P cf (callI P cf (exec P cf n)) (callS P (exec P cf n)) ops s o = some s'
def Runs (P : Program) (cf : Cfg) (c : Code) (s : St) (ex : Ex) (s' : St) : Prop := ∃ N, ∀ n, N ≤ n → exec P cf n c s = some (ex, s')
def SWP (P : Program) (cf : Cfg) (c : Code) (ss : SSt) (K : SKont) : Prop :=
  ∀ ε s, RSt ε ss s → ∃ ex s', Runs P cf c s ex s' ∧ ∃ ε' ss', EX ε ε' ∧ RSt ε' ss' s' ∧ K ex ss'
def SExecOK (P : Program) (cf : Cfg) (ih : SExec) : Prop := ∀ c ss K, ih c ss K → SWP P cf c ss K
def CtOK (P : Program) (cf : Cfg) (f : FuncId) (C : SCall) : Prop :=
  ∀ base as K, C f base as K → ∀ as', RL noE as as' → ∀ vbase, ∃ rv blks srv sblks, (∃ N, ∀ n, N ≤ n → callI P cf (exec P cf n) f vbase as' = some (rv, blks)) ∧ K srv sblks ∧ NewR (newsE noE base vbase sblks.length) sblks blks ∧ RV (newsE noE base vbase sblks.length) srv rv
structure SXOK (P : Program) (cf : Cfg) (sx : SX) : Prop where
  ct : ∀ f C, sx.ct f = some C → CtOK P cf f C
  loop : ∀ i L, sx.loop i = some L → ∀ ss K, L.C ss K → SWP P cf (.loop (loopBody P L.f L.k)) ss K

def SShareOK (P : Program) (cf : Cfg) (sh : SShare) : Prop :=
  ∀ f vs H nx K, sh f vs H nx K → ∀ ε vs' L nxv, RL ε vs vs' → RH ε H L → (∀ b, nx ≤ b → ε b = none) → (∀ b, nxv ≤ b → hget L b = none) →
    ∃ v L' nxv', (∃ N, ∀ n, N ≤ n → callS P (exec P cf n) f vs' L nxv = some (v, L', nxv')) ∧ ∃ ε' s H' nx', EX ε ε' ∧ RV ε' s v ∧ RH ε' H' L' ∧ (∀ b, nx' ≤ b → ε' b = none) ∧ (∀ b, nxv' ≤ b → hget L' b = none) ∧ K s H' nx'

theorem sharedS_of {ε : Nat → Option BE} {t : List SV} {tv : List V} (ht : RL ε t tv) {o : Oper} {f : FuncId} {vs : List SV} (h : sharedS P cf t o = some (f, vs)) : ∃ vs', sharedV P cf tv o = some (f, vs') ∧ RL ε vs vs' := by
  unfold sharedS at h
  unfold sharedV
  split at h
  · rename_i c ho
    simp only [ho]
    split at h
    · cases h
    · rename_i hb
      split at h
      · rename_i g ws hr
        obtain ⟨ws', h1, h2⟩ := resolveS_of ht hr
        split at h
        · rename_i hsh
          cases h
          cases hcal : c.callee with
          | builtin b => exact absurd hcal (hb b)
          | value x => simp only [h1]; rw [if_pos hsh]; exact ⟨_, rfl, h2⟩
          | invoke x n => simp only [h1]; rw [if_pos hsh]; exact ⟨_, rfl, h2⟩
        · cases h
      · cases h
  · cases h
theorem sharedS_none {ε : Nat → Option BE} {t : List SV} {tv : List V} (ht : RL ε t tv) {o : Oper} (h : sharedS P cf t o = none) {cx : SCfg} {call : SCall} {H : SHeap} {base : Nat} {K : SEff → Prop} (hs : sop cx P call H base t o K) : sharedV P cf tv o = none := by
  unfold sharedS at h
  unfold sharedV
  cases ho : o.op <;> simp only
  rename_i c
  simp only [ho] at h
  cases hcal : c.callee with
  | builtin b => rfl
  | value x =>
    simp only [hcal] at h
    cases hr : resolveS P t c with
    | none =>
      unfold sop at hs
      simp only [ho, hcal, hr] at hs
      cases hs
    | some p =>
      obtain ⟨f, vs⟩ := p
      obtain ⟨vs', g1, g2⟩ := resolveS_of ht hr
      simp only [hr] at h
      simp only [g1]
      split at h
      · cases h
      · rename_i q; rw [if_neg q]
  | invoke x nm =>
    simp only [hcal] at h
    cases hr : resolveS P t c with
    | none =>
      unfold sop at hs
      simp only [ho, hcal, hr] at hs
      cases hs
    | some p =>
      obtain ⟨f, vs⟩ := p
      obtain ⟨vs', g1, g2⟩ := resolveS_of ht hr
      simp only [hr] at h
      simp only [g1]
      split at h
      · cases h
      · rename_i q; rw [if_neg q]

theorem sstep_of {call : SCall} {sh : SShare} (hC : SCallOK call (fun n => callI P cf (exec P cf n))) (hsh : SShareOK P cf sh) {ops : List Oper} {ss : SSt} {s : St} {ε : Nat → Option BE} (hr : RSt ε ss s) {o : Oper} {K : SSt → Prop}
    (h : sstep sx P cf call sh ops ss o K) : ∃ s', GoStep P cf ops s o s' ∧ ∃ ε' ss', EX ε ε' ∧ RSt ε' ss' s' ∧ K ss' := by
  obtain ⟨t, h1, ht⟩ := wantedS_of hr.t h
  cases hw : wantedV ops s.t o with
  | false =>
    rw [hw] at h1
    simp only [cond_false] at h1
    refine ⟨⟨putV s.t o.dst (.tup []), s.H, s.nx⟩, ⟨0, fun n _ => by unfold stepOp; rw [hw]; rfl⟩, ε, ⟨putS t o.dst (.tup []), ss.H, ss.nx⟩, EX.refl ε, ⟨putS_rel ht o.dst undef_rv, hr.H, hr.fs, hr.fv⟩, h1⟩
  | true =>
    rw [hw] at h1
    simp only [cond_true] at h1
    split at h1
    · rename_i f vs hs
      obtain ⟨vs', g1, g2⟩ := sharedS_of ht hs
      obtain ⟨v, L', nxv', ⟨N, k1⟩, ε', sv, H', nx', k2, k3, k4, k5, k6, k7⟩ := hsh f vs _ _ _ h1 ε vs' s.H s.nx g2 hr.H hr.fs hr.fv
      exact ⟨⟨putV s.t o.dst v, L', nxv'⟩, ⟨N, fun n hn => by unfold stepOp; rw [hw]; simp only [if_true, g1, k1 n hn]⟩, ε', _, k2, ⟨putS_rel (ht.mono k2) o.dst k3, k4, k5, k6⟩, k7⟩
    · rename_i hs
      have hn := sharedS_none ht hs h1
      obtain ⟨se, e, ε', k1, ⟨N, k2⟩, k3⟩ := sop_of hC hr.H ht hr.fs (vbase := s.nx) h1
      exact ⟨_, ⟨N, fun n hN => by unfold stepOp; rw [hw]; simp only [if_true, hn, opE_eq, k2 n hN]⟩, ε', _, k3.ex, hr.step ht k3 o.dst, k1⟩
theorem sseq_of {call : SCall} {sh : SShare} (hC : SCallOK call (fun n => callI P cf (exec P cf n))) (hsh : SShareOK P cf sh) {ops : List Oper} {K : SSt → Prop} : ∀ {l : List Oper} {ss : SSt} {s : St} {ε : Nat → Option BE}, RSt ε ss s → sseq sx P cf call sh ops l ss K →
    ∃ s', (∃ N, ∀ n, N ≤ n → runSeq P cf (callI P cf (exec P cf n)) (callS P (exec P cf n)) ops l s = some s') ∧ ∃ ε' ss', EX ε ε' ∧ RSt ε' ss' s' ∧ K ss'
  | [], ss, s, ε, hr, h => ⟨s, ⟨0, fun n _ => rfl⟩, ε, ss, EX.refl ε, hr, h⟩
  | o :: l, ss, s, ε, hr, h => by
    obtain ⟨s1, ⟨N1, h1⟩, ε1, ss1, h2, h3, h4⟩ := sstep_of hC hsh hr (show sstep sx P cf call sh ops ss o (sseq sx P cf call sh ops l · K) from h)
    obtain ⟨s2, ⟨N2, h5⟩, ε2, ss2, h6, h7, h8⟩ := sseq_of hC hsh h3 h4
    refine ⟨s2, ⟨max N1 N2, fun n hn => ?_⟩, ε2, ss2, h2.trans h6, h7, h8⟩
    rw [runSeq_cons, h1 n (by omega)]
    exact h5 n (by omega)
end
end
end Go.Proofs.Ytifgifhbefhkmaa.VM
