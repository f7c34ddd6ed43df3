/- The machine of values: a region whose order is open, whole. No conditions. -/
import Derived.Test.YtifgifhbefhkmaaVMu
namespace Go.Proofs.Ytifgifhbefhkmaa.VM
set_option linter.unusedSimpArgs false
set_option linter.unusedVariables false
open Go Go.RowKit
noncomputable section

/-- How a state of the machine of values stands to the model's. -/
structure StRel (E : Env) (t : List V) (H : Heap) (nx : Nat) (a : Act) : Prop where
  H : E.H = hget H
  t : RelL E t a.tmps.toList
  R : HRel E
  fresh : ∀ b, nx ≤ b → E.ρ b = none
  df : a.defers = []
theorem countP_lt {p q : Nat → Bool} : ∀ {l : List Nat}, (∀ x ∈ l, q x = true → p x = true) → (∃ x ∈ l, p x = true ∧ q x = false) → l.countP q < l.countP p
  | [], _, ⟨x, hx, _⟩ => by cases hx
  | y :: l, h, ⟨x, hx, h1, h2⟩ => by
    have hle : l.countP q ≤ l.countP p := List.countP_mono_left fun z hz hq => h z (List.mem_cons_of_mem _ hz) hq
    rw [List.countP_cons, List.countP_cons]
    cases hx with
    | head => rw [h1, h2]; simp; omega
    | tail _ hx =>
      have ih := countP_lt (fun z hz => h z (List.mem_cons_of_mem _ hz)) ⟨x, hx, h1, h2⟩
      cases hq : q y with
      | true => rw [h y (List.mem_cons_self ..) hq]; simp; omega
      | false => simp; omega

section
variable {P : Program} {cf : Cfg} {call : CallF} {sh : ShareF}
theorem draw_any {opsA : Array Oper} {ops : List Oper} (hA : opsA.toList = ops) {ms : List Nat} {H0 : Heap} {t0 : List V} {nx0 : Nat} (hc : CallOK P call) (hsh : ShareOK P sh) (ho : Orders ops ms) {E0 : Env} {a0 : Act} {rs : List DRec} {t' : List V} {nx' : Nat}
    (hwf : WF P cf call sh ops ms H0 t0 nx0 rs t' nx') (hlen : rs.length = ops.length) (h0 : ∀ b x, hget H0 b = some x → b < nx0) (hseen : ∀ pre r rest, rs = pre ++ r :: rest → Seen P call ms H0 rs r rest) {Q : Exit → Act → World → Prop}
    (hQ : ∀ E' a', Inv H0 t0 nx0 E0 a0 rs (fun j => decide (j < ops.length)) E' a' → Q .normal a' E'.w) :
    ∀ (fuel : Nat) (listed : Array Bool) (E : Env) (a : Act), listed.size = ops.length → (List.range ops.length).countP (fun j => !listed.getD j false) ≤ fuel → Down ops (fun j => listed.getD j false) →
      Inv H0 t0 nx0 E0 a0 rs (fun j => listed.getD j false) E a → wpAny P .any opsA Q fuel listed a E.w := by
  have hsz : opsA.size = ops.length := by rw [← hA]; simp
  have hops : ∀ i, opsA[i]? = ops[i]? := fun i => by rw [← hA]; exact (Array.getElem?_toList ..).symm
  have hin : ∀ {i : Nat} {y : Oper}, ops[i]? = some y → i < ops.length := by
    intro i y h
    rcases Nat.lt_or_ge i ops.length with q | q
    · exact q
    · simp [List.getElem?_eq_none q] at h
  have alldone : ∀ {listed : Array Bool} {E : Env} {a : Act}, listed.size = ops.length → Region.ready .any opsA listed = [] → Inv H0 t0 nx0 E0 a0 rs (fun j => listed.getD j false) E a → Q .normal a E.w := by
    intro listed E a hls hr hI
    have hall : ∀ j, j < ops.length → listed.getD j false = true := by
      intro j
      induction j using Nat.strongRecOn with
      | _ j ih =>
        intro hj
        cases hq : listed.getD j false with
        | true => rfl
        | false =>
          exfalso
          have : j ∈ Region.ready .any opsA listed := by
            rw [mem_ready]
            refine ⟨?_, ops[j], by rw [hops]; exact List.getElem?_eq_getElem hj, fun e he hb => ?_⟩
            · rw [Array.getD_eq_getD_getElem?, Array.getElem?_eq_getElem (by omega)] at hq ⊢
              exact hq
            · have := ho.edge j ops[j] e (List.getElem?_eq_getElem hj) he hb
              exact ih e.on this.1 (by omega)
          rw [hr] at this
          cases this
    have hfun : (fun j => listed.getD j false) = fun j => decide (j < ops.length) := by
      funext j
      by_cases hj : j < ops.length
      · rw [hall j hj, decide_eq_true hj]
      · rw [decide_eq_false hj, Array.getD_eq_getD_getElem?, Array.getElem?_eq_none (by omega)]; rfl
    rw [hfun] at hI
    exact hQ E a hI
  intro fuel
  induction fuel with
  | zero =>
    intro listed E a hls hcount hD hI
    have hr : Region.ready .any opsA listed = [] := by
      cases hq : Region.ready .any opsA listed with
      | nil => rfl
      | cons j l =>
        exfalso
        have hj : j ∈ Region.ready .any opsA listed := by rw [hq]; exact List.mem_cons_self ..
        rw [mem_ready] at hj
        obtain ⟨h1, o, h2, _⟩ := hj
        rw [hops] at h2
        have hjl := hin h2
        have : 0 < (List.range ops.length).countP (fun j => !listed.getD j false) := by
          rw [List.countP_pos_iff]
          refine ⟨j, List.mem_range.2 hjl, ?_⟩
          rw [Array.getD_eq_getD_getElem?, Array.getElem?_eq_getElem (by omega)] at h1 ⊢
          simp only [Option.getD_some] at h1 ⊢
          rw [h1]; rfl
        omega
    exact ⟨hr, alldone hls hr hI⟩
  | succ fuel ih =>
    intro listed E a hls hcount hD hI
    refine ⟨fun hr => alldone hls hr hI, fun i hi => ?_⟩
    rw [mem_ready] at hi
    obtain ⟨h1, o, h2, h3⟩ := hi
    rw [hops] at h2
    have hil := hin h2
    have hDi : listed.getD i false = false := by
      rw [Array.getD_eq_getD_getElem?, Array.getElem?_eq_getElem (by omega)] at h1 ⊢
      exact h1
    have hset : ∀ j, (listed.setIfInBounds i true).getD j false = (listed.getD j false || j == i) := by
      intro j
      by_cases hj : i = j
      · subst hj
        rw [Array.getD_eq_getD_getElem?, Array.getElem?_setIfInBounds_self_of_lt (by omega)]
        simp
      · have hji : (j == i) = false := by simpa using fun e => hj e.symm
        rw [hji, Bool.or_false, Array.getD_eq_getD_getElem?, Array.getElem?_setIfInBounds_ne hj, Array.getD_eq_getD_getElem?]
    have hfun : (fun j => (listed.setIfInBounds i true).getD j false) = fun j => (listed.getD j false || j == i) := funext hset
    refine draw_step hA hc hsh ho hwf hlen h0 hseen hD hI h2 hDi h3 fun E' a' hI' => ?_
    refine ih _ E' a' (by simp [hls]) ?_ ?_ (by rw [hfun]; exact hI')
    · have hlt : (List.range ops.length).countP (fun j => !(listed.setIfInBounds i true).getD j false) < (List.range ops.length).countP (fun j => !listed.getD j false) := by
        refine countP_lt (fun x _ hx => ?_) ⟨i, List.mem_range.2 hil, by rw [hDi]; rfl, by rw [hset]; simp⟩
        rw [hset] at hx
        cases hq : listed.getD x false with
        | true => rw [hq] at hx; simp at hx
        | false => rfl
      omega
    · intro j z hz hj e he hb
      simp only [hset] at hj ⊢
      rw [Bool.or_eq_true] at hj
      rcases hj with hj | hj
      · have q : listed.getD e.on false = true := hD j z hz hj e he hb
        rw [q]; rfl
      · have : j = i := by simpa using hj
        subst this
        rw [h2] at hz
        cases hz
        rw [h3 e he hb]; rfl

theorem draw_sound {opsA : Array Oper} (hm : P.follows .mixedOrders = true) (hc : CallOK P call) (hsh : ShareOK P sh) {id : Nat} {t : List V} {H0 : Heap} {nx : Nat} {E : Env} {a : Act} (hS : StRel E t H0 nx a) {t' : List V} {H' : Heap} {nx' : Nat}
    (h : runDraw P cf call sh opsA.toList t H0 nx = some (t', H', nx')) {Q : Exit → Act → World → Prop} (hQ : ∀ E' a', StRel E' t' H' nx' a' → Later E E' → Q .normal a' E'.w) : (Code.region id opsA true).wp P Q a E.w := by
  unfold runDraw at h
  simp only at h
  split at h
  · rename_i hok
    have ho := orders_of hok
    split at h
    · rename_i t1 nx1 recs hf
      split at h
      · rename_i hchk
        simp only [Option.some.injEq, Prod.mk.injEq] at h
        obtain ⟨rfl, rfl, rfl⟩ := h
        obtain ⟨hwf, hlen⟩ := fwd_wf (WF.nil (P := P) (cf := cf) (call := call) (sh := sh) (ops := opsA.toList) (ms := masks opsA.toList []) (H0 := H0) (t0 := t) (nx0 := nx)) rfl (fun j => by simp) hf
        rw [List.length_nil, Nat.zero_add] at hlen
        have hseen : ∀ pre r rest, recs = pre ++ r :: rest → Seen P call (masks opsA.toList []) H0 recs r rest := by
          rcases Bool.or_eq_true_iff.1 hchk with q | q
          · have hw2 : ∀ r ∈ recs, r.eff.wr = [] ∧ r.ex = false := fun r hr => by have := List.all_eq_true.1 q r hr; simpa using this
            have hw : ∀ r ∈ recs, r.eff.wr = [] := fun r hr => (hw2 r hr).1
            intro pre r rest e
            have hex := (hw2 r (by rw [e]; simp)).2
            exact ⟨(fun h => by rw [hex] at h; cases h), .inl ⟨xids_nil hw, fun b hb => by rw [hw r (by rw [e]; simp)] at hb; cases hb⟩⟩
          · exact chk_seen q
        have hb : ∀ b x, hget H0 b = some x → b < nx := by
          intro b x hbx
          obtain ⟨e, he, _⟩ := hS.R.at_ b x (by rw [hS.H]; exact hbx)
          rcases Nat.lt_or_ge b nx with q | q
          · exact q
          · rw [hS.fresh b q] at he; cases he
        let E1 : Env := { E with w := { E.w with drawn := E.w.drawn + 1 } }
        have hx1 : Ext E E1 := ext_world (fun _ _ => rfl) (Nat.le_refl _)
        have hR1 : HRel E1 := hrel_world hS.R (fun _ _ => rfl) (Nat.le_refl _)
        have hb1 : Below E.B E.w E1.w := ⟨rfl, rfl, rfl, Nat.le_refl _, fun _ _ => rfl⟩
        have hnone : ∀ {rs : List DRec} {H : Nat → Option Blk}, hF H (fun _ => false) rs = H := by
          intro rs
          induction rs with
          | nil => intro H; rfl
          | cons r rs ih => intro H; simp only [hF, Bool.false_eq_true, if_false]; exact ih
        have hnoneT : ∀ {rs : List DRec} {t : List V}, tF t (fun _ => false) rs = t := by
          intro rs
          induction rs with
          | nil => intro t; rfl
          | cons r rs ih => intro t; simp only [tF, Bool.false_eq_true, if_false]; exact ih
        have hlist : (fun j => (Array.replicate opsA.size false).getD j false) = fun _ => false := by
          funext j
          rw [Array.getD_eq_getD_getElem?, Array.getElem?_replicate]
          split <;> rfl
        refine wp_region_any hm ?_
        refine draw_any (ops := opsA.toList) (E0 := E) (a0 := a) rfl hc hsh ho hwf hlen hb hseen (fun E' a' hI => ?_) opsA.size (Array.replicate opsA.size false) E1 a (by simp) ?_ ?_ ?_
        · have hDall : ∀ r ∈ recs, decide (r.i < opsA.toList.length) = true := fun r hr => decide_eq_true (by have := hwf.idx r hr; omega)
          refine hQ E' a' ⟨?_, ?_, hI.R, fun b hb => ?_, hI.df.trans hS.df⟩ ⟨hI.x, hI.O, hI.bel⟩
          · rw [hI.H, heapOf_get]
            funext b
            exact hF_congr fun r hr _ => hDall r hr
          · have ht := hI.t
            have : tF t (fun j => decide (j < opsA.toList.length)) recs = tF t (fun _ => true) recs := by
              apply List.ext_getElem?
              intro s
              exact tF_congr fun r hr _ => hDall r hr
            rw [this, ← hwf.t] at ht
            exact ht
          · refine hI.fresh b (Nat.le_trans hwf.nx.1 hb) fun r hr _ hq => ?_
            have := (hwf.nx.2 r hr).2
            omega
        · rw [show opsA.size = (List.range opsA.toList.length).length from by simp]
          exact List.countP_le_length ..
        · intro j y hy hj
          have : (Array.replicate opsA.size false).getD j false = false := congrFun hlist j
          simp only [this] at hj
          cases hj
        · rw [hlist]
          refine ⟨by rw [hnone]; exact hS.H, by rw [hnoneT]; exact hS.t.mono hx1, hR1, hx1, rfl, hb1, fun b hb _ => hS.fresh b hb, rfl⟩
      · cases h
    · cases h
  · cases h
end
end
end Go.Proofs.Ytifgifhbefhkmaa.VM
