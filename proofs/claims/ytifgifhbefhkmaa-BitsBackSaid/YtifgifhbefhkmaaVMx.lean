/- The machine of values: it is the model's. No conditions. -/
import Derived.Test.YtifgifhbefhkmaaVMw
namespace Go.Proofs.Ytifgifhbefhkmaa.VM
set_option linter.unusedSimpArgs false
set_option linter.unusedVariables false
open Go Go.RowKit
noncomputable section
section
variable {P : Program}

theorem loadVar_run {E : Env} {L : Heap} (hR : HRel E) (hL : Sub L E) {ty : TypeId} {p v : V} {c : Value} (hv : loadV P L ty p = some v) (r : Rel E p c) :
    ∃ ad cv, c = .pointer (some ad) ∧ (loadVar ty ad).run P E.w = .ok cv E.w ∧ Rel E v cv := by
  unfold loadV at hv
  split at hv
  · rename_i n cs hz hc
    obtain ⟨h1, h2⟩ := tySz_run hz
    obtain ⟨b, o', cvs, e1, e2, e3⟩ := cellsAt_rel hR hL hc r
    split at hv
    · rename_i hn
      cases hv
      have hl := run_loadCells_at (P := P) e3 n (by rw [← e2.length]; exact hn)
      exact ⟨_, .agg (cvs.take n).toArray, e1, by simp [loadVar, h1, h2, hl], .agg (e2.take n)⟩
    · cases hv
  · rename_i n cs hz hc
    obtain ⟨h1, h2⟩ := tySz_run hz
    obtain ⟨b, o', cvs, e1, e2, e3⟩ := cellsAt_rel hR hL hc r
    obtain ⟨y, g1, g2⟩ := e2.get 0 v hv
    have g3 := e3 0 y g1
    simp only [Nat.add_zero] at g3
    exact ⟨_, y, e1, by simp [loadVar, h1, g3], g2⟩
  · cases hv

def resC (tmps : Array Value) : ResultVar → Sem Value
  | .tmp i => pure (tmps.getD i undef)
  | .cell q ty => do loadVar ty (← asAddr (tmps.getD q undef))
theorem results_resC (fn : Func) (tmps : Array Value) : results fn tmps = (do
    let vs ← fn.results.mapM (resC tmps)
    pure (if h : vs.size = 1 then vs[0] else .tuple vs)) := by
  unfold results
  congr 1
theorem resM_run {E : Env} {H : Heap} (hR : HRel E) (hL : Sub H E) {t : List V} {a : Act} (ht : RelL E t a.tmps.toList) : ∀ {rs : List ResultVar} {vs : List V}, mapO (resV P t H) rs = some vs →
    ∃ cs : List Value, (rs.mapM (resC a.tmps)).run P E.w = .ok cs E.w ∧ RelL E vs cs
  | [], vs, h => by cases h; exact ⟨[], by simp, .nil⟩
  | r :: rs, vs, h => by
    simp only [mapO] at h
    cases h1 : resV P t H r with
    | none => rw [h1] at h; cases h
    | some v =>
      cases h2 : mapO (resV P t H) rs with
      | none => rw [h1, h2] at h; cases h
      | some ws =>
        rw [h1, h2] at h
        cases h
        obtain ⟨cs, g1, g2⟩ := resM_run hR hL ht h2
        cases r with
        | tmp i =>
          simp only [resV] at h1
          cases h1
          refine ⟨a.tmps.getD i undef :: cs, ?_, .cons (nth_rel ht i) g2⟩
          rw [List.mapM_cons]
          simp only [resC, Sem.run_bind, Sem.run_pure, Result.andThen_ok, g1]
        | cell q ty =>
          simp only [resV] at h1
          obtain ⟨ad, cv, k1, k2, k3⟩ := loadVar_run hR hL h1 (nth_rel ht q)
          refine ⟨cv :: cs, ?_, .cons k3 g2⟩
          rw [List.mapM_cons]
          simp only [resC, Sem.run_bind, k1, asAddr, Sem.run_pure, Result.andThen_ok, k2, g1]
theorem results_rel {E : Env} {H : Heap} (hR : HRel E) (hL : Sub H E) {t : List V} {a : Act} (ht : RelL E t a.tmps.toList) {fn : Func} {v : V} (h : resultsV P fn t H = some v) :
    ∃ cv, (results fn a.tmps).run P E.w = .ok cv E.w ∧ Rel E v cv := by
  unfold resultsV at h
  have key : ∀ {vs : List V}, mapO (resV P t H) fn.results.toList = some vs → ∃ cs : List Value, (results fn a.tmps).run P E.w = .ok (if h : cs.toArray.size = 1 then cs.toArray[0] else .tuple cs.toArray) E.w ∧ RelL E vs cs := by
    intro vs hvs
    obtain ⟨cs, g1, g2⟩ := resM_run (P := P) hR hL ht hvs
    refine ⟨cs, ?_, g2⟩
    rw [results_resC, Array.mapM_eq_mapM_toList]
    simp only [Sem.run_bind, Sem.run_map, g1, Result.andThen_ok, Sem.run_pure]
  split at h
  · rename_i v' hv
    cases h
    obtain ⟨cs, g1, g2⟩ := key hv
    cases g2 with
    | cons r s =>
      cases s
      exact ⟨_, g1, r⟩
  · rename_i vs hne hv
    cases h
    obtain ⟨cs, g1, g2⟩ := key hv
    have hl := g2.length
    have : ¬ cs.toArray.size = 1 := by
      intro q
      have hq : vs.length = 1 := by simp at q; omega
      match vs, hq with
      | [x], _ => exact hne x rfl
    rw [dif_neg this] at g1
    exact ⟨_, g1, .tup g2⟩
  · cases h

theorem frame_rel {E : Env} {fn : Func} {vs : List V} {cs : List Value} (h : RelL E vs cs) : RelL E (frame fn vs) (cs.toArray ++ Array.replicate (fn.ntmps - cs.toArray.size) undef).toList := by
  have hl := h.length
  simp only [Array.toList_append, Array.toList_replicate, List.size_toArray, frame, ← hl]
  refine h.append ?_
  generalize fn.ntmps - vs.length = n
  induction n with
  | zero => exact .nil
  | succ n ih => exact .cons undef_rel ih

theorem exportI_rel {E : Env} {H : Heap} (hR : HRel E) (hL : Sub H E) {v v' : V} {blks : List Blk} {c : Value} (h : exportI H v = some (v', blks)) (r : Rel E v c) (base : Nat) :
    HRel ⟨E.w, newsF blks base (fun _ => none), fun _ => none, E.B, E.O⟩ ∧ Rel ⟨E.w, newsF blks base (fun _ => none), fun _ => none, E.B, E.O⟩ v' c := by
  unfold exportI at h
  split at h
  · rename_i v1 rs hv
    simp only [Option.some.injEq, Prod.mk.injEq] at h
    obtain ⟨rfl, rfl⟩ := h
    refine ⟨⟨(fun b blk hb => by cases hb), (fun b b' blk blk' e e' c o o' h1 => by cases h1), hR.le⟩, ?_⟩
    refine reify_rel (A := ⟨E.w, newsF [] base (fun _ => none), fun _ => none, E.B, E.O⟩) hR hL 60 v v1 rs c hv r ⟨rfl, (fun d hd => ⟨hd.1, hd.2.1, fun b blk e o h1 => by cases h1⟩), (fun b hb blk e d o h1 h2 h3 => ?_), (fun _ => rfl)⟩
    obtain ⟨e', he', hl⟩ := hR.at_ b blk (hL b blk h1)
    rw [h2] at he'
    cases he'
    have := hl.lt h3
    exact ⟨this.2, fun q => by have q' : d < E.B := q; omega, fun b blk e o h1 => by cases h1⟩
  · cases h

/-- A function's body, walked, is a call of it. -/
theorem calls_body {fn : Func} {c : Code} {f : FuncId} (hb : bodyOf P f = some (fn, c)) {E : Env} {vs : List V} {cs : List Value} {H : Heap} {nx : Nat} (hR : HRel E) (hH : E.H = hget H) (hfr : ∀ b, nx ≤ b → E.ρ b = none) (hvs : RelL E vs cs)
    {ih : ExecF} (hih : ∀ c st ex st', ih c st = some (ex, st') → ∀ E a, StRel E st.t st.H st.nx a → ∀ Q : Exit → Act → World → Prop, (∀ E' a', StRel E' st'.t st'.H st'.nx a' → Later E E' → Q (match ex with | .normal => .normal | .exit id => .exit id | .ret => .ret) a' E'.w) → c.wp P Q a E.w)
    {ex : Ex} {st : St} (h : ih c ⟨frame fn vs, H, nx⟩ = some (ex, st)) (hex : ∀ id, ex ≠ .exit id) {v : V} (hv : resultsV P fn st.t st.H = some v) :
    Calls P f cs.toArray E.w (fun e w' => ∃ cv E', e = .returned cv ∧ E'.w = w' ∧ Later E E' ∧ E'.H = hget st.H ∧ HRel E' ∧ Rel E' v cv ∧ ∀ b, st.nx ≤ b → E'.ρ b = none) := by
  have hf : P.funcs[f]? = some fn ∧ fn.body = some c := by
    unfold bodyOf at hb
    split at hb
    · rename_i fn' hfn
      split at hb
      · rename_i c' hc
        cases hb
        exact ⟨hfn, hc⟩
      · cases hb
    · cases hb
  refine calls_of_wp hf.1 hf.2 ?_
  refine hih c _ ex st h E _ ⟨hH, frame_rel hvs, hR, hfr, rfl⟩ _ fun E' a' hS hl => ?_
  obtain ⟨cv, g1, g2⟩ := results_rel (P := P) (fn := fn) hS.R (fun b blk hb => by rw [hS.H]; exact hb) hS.t hv
  cases ex with
  | exit id => exact absurd rfl (hex id)
  | normal => exact ⟨hS.df, cv, g1, cv, E', rfl, rfl, hl, hS.H, hS.R, g2, hS.fresh⟩
  | ret => exact ⟨hS.df, cv, g1, cv, E', rfl, rfl, hl, hS.H, hS.R, g2, hS.fresh⟩

def ExecOK (P : Program) (ih : ExecF) : Prop :=
  ∀ c st ex st', ih c st = some (ex, st') → ∀ E a, StRel E st.t st.H st.nx a → ∀ Q : Exit → Act → World → Prop,
    (∀ E' a', StRel E' st'.t st'.H st'.nx a' → Later E E' → Q (match ex with | .normal => .normal | .exit id => .exit id | .ret => .ret) a' E'.w) → c.wp P Q a E.w
theorem callS_ok {ih : ExecF} (hih : ExecOK P ih) : ShareOK P (callS P ih) := by
  intro f vs H nx v H' nx' hcall E cs hR hH hfr hcs
  unfold callS at hcall
  split at hcall
  · rename_i fn code hb
    split at hcall
    · cases hcall
    · rename_i ex st2 hex hex2
      split at hcall
      · rename_i v2 hv2
        cases hcall
        exact calls_body hb hR hH hfr hcs hih hex2 (fun id q => hex id q) hv2
      · cases hcall
    · cases hcall
  · cases hcall
def ExtOK (P : Program) (cf : Cfg) : Prop := ∀ f g, cf.ext f = some g → ∀ base vs rv blks, g base vs = some (rv, blks) → IsoSound P f base vs rv blks

theorem nodupB_get : ∀ {l : List Nat}, nodupB l = true → ∀ (i j b : Nat), l[i]? = some b → l[j]? = some b → i = j
  | [], _, i, j, b, h, _ => by simp at h
  | a :: r, h, i, j, b, h1, h2 => by
    simp only [nodupB, Bool.and_eq_true, Bool.not_eq_true'] at h
    have hn : ∀ k, r[k]? ≠ some a := fun k q => by
      have := List.mem_of_getElem? q
      have h3 := h.1
      rw [← Bool.not_eq_true] at h3
      exact h3 (by simpa using this)
    cases i with
    | zero =>
      simp at h1
      subst h1
      cases j with
      | zero => rfl
      | succ j => simp at h2; exact absurd h2 (hn j)
    | succ i =>
      cases j with
      | zero => simp at h1 h2; subst h2; exact absurd h1 (hn i)
      | succ j => simp at h1 h2; rw [nodupB_get h.2 i j b h1 h2]
theorem idxN_get : ∀ {l : List Nat} {b k j : Nat}, idxN l b k = some j → k ≤ j ∧ l[j - k]? = some b
  | [], b, k, j, h => by cases h
  | a :: r, b, k, j, h => by
    rw [idxN] at h
    split at h
    · rename_i hab
      cases h
      subst hab
      exact ⟨Nat.le_refl _, by simp⟩
    · obtain ⟨h1, h2⟩ := idxN_get h
      refine ⟨by omega, ?_⟩
      rw [show j - k = (j - (k + 1)) + 1 from by omega]
      exact h2
theorem mapO_get {α β : Type} {f : α → Option β} : ∀ {l : List α} {r : List β}, mapO f l = some r → r.length = l.length ∧ ∀ (i : Nat) (x : β), r[i]? = some x → ∃ a, l[i]? = some a ∧ f a = some x
  | [], r, h => by cases h; exact ⟨rfl, fun i x h => by simp at h⟩
  | a :: l, r, h => by
    simp only [mapO] at h
    cases h1 : f a with
    | none => rw [h1] at h; cases h
    | some b =>
      cases h2 : mapO f l with
      | none => rw [h1, h2] at h; cases h
      | some bs =>
        rw [h1, h2] at h
        cases h
        obtain ⟨g1, g2⟩ := mapO_get h2
        refine ⟨by simp [g1], fun i x hx => ?_⟩
        cases i with
        | zero => simp at hx; subst hx; exact ⟨a, rfl, h1⟩
        | succ i => simp at hx; obtain ⟨y, k1, k2⟩ := g2 i x hx; exact ⟨y, by simpa using k1, k2⟩
theorem mapRL_length {f : V → Option (V × List Nat)} : ∀ {vs vs' : List V} {rs : List Nat}, mapRL f vs = some (vs', rs) → vs'.length = vs.length
  | [], vs', rs, h => by simp only [mapRL, Option.some.injEq, Prod.mk.injEq] at h; obtain ⟨rfl, rfl⟩ := h; rfl
  | v :: vs, vs', rs, h => by
    simp only [mapRL] at h
    cases h1 : f v with
    | none => rw [h1] at h; cases h
    | some p =>
      cases h2 : mapRL f vs with
      | none => rw [h1, h2] at h; cases h
      | some q =>
        rw [h1, h2] at h
        simp only [Option.some.injEq, Prod.mk.injEq] at h
        obtain ⟨rfl, rfl⟩ := h
        simp [mapRL_length h2]

def expρ (E : Env) (qs : List (Nat × Nat × Nat × Nat)) (base : Nat) (x : Nat) : Option RE :=
  if base ≤ x then match qs[x - base]? with
    | some (b, off, _, _) => match E.ρ b with
      | some e => some ⟨e.pos.map fun p => (p.1, p.2 + off), e.k, 0, e.asz⟩
      | none => none
    | none => none
  else none

theorem exportT_rel {E : Env} {H : Heap} (hR : HRel E) (hH : E.H = hget H) {v v' : V} {blks : List Blk} {c : Value} {base : Nat} (h : exportT H base v = some (v', blks)) (r : Rel E v c) :
    ∃ ρ, HRel ⟨E.w, newsF blks base (fun _ => none), ρ, E.B, E.O⟩ ∧ Rel ⟨E.w, newsF blks base (fun _ => none), ρ, E.B, E.O⟩ v' c ∧ ∀ b, ρ b ≠ none → base ≤ b ∧ b < base + blks.length := by
  unfold exportT at h
  simp only at h
  split at h
  · rename_i hnd
    generalize hqs : allIds v = qs at h hnd
    split at h
    · rename_i v1 bl hv hb
      simp only [Option.some.injEq, Prod.mk.injEq] at h
      obtain ⟨rfl, rfl⟩ := h
      obtain ⟨hlen, hget'⟩ := mapO_get hb
      -- what a block that goes along was
      have hone : ∀ x blk, newsF bl base (fun _ => none) x = some blk → base ≤ x ∧ ∃ b off ver n blk0 e rs, qs[x - base]? = some (b, off, ver, n) ∧ hget H b = some blk0 ∧ E.ρ b = some e ∧ Lies E blk0 e ∧ blk0.ver = ver ∧ blk0.fz = false ∧
          off + n * blk0.k ≤ blk0.cells.length ∧ mapRL (reify (hrem H (qs.map (·.1))) true 60) ((blk0.cells.drop off).take (n * blk0.k)) = some (blk.cells, rs) ∧ blk.k = blk0.k ∧ blk.ver = 0 ∧ expρ E qs base x = some ⟨e.pos.map fun p => (p.1, p.2 + off), e.k, 0, e.asz⟩ := by
        intro x blk hx
        rw [newsF_get] at hx
        split at hx
        · rename_i hrange
          obtain ⟨q, hq1, hq2⟩ := hget' _ blk hx
          obtain ⟨b, off, ver, n⟩ := q
          simp only [expB] at hq2
          split at hq2
          · rename_i blk0 hb0
            split at hq2
            · rename_i hc
              split at hq2
              · rename_i cs rs hcs
                cases hq2
                obtain ⟨e, he, hl⟩ := hR.at_ b blk0 (by rw [hH]; exact hb0)
                exact ⟨hrange.1, b, off, ver, n, blk0, e, rs, hq1, hb0, he, hl, hc.1, hc.2.1, hc.2.2, hcs, rfl, rfl, by unfold expρ; rw [if_pos hrange.1, hq1]; simp only [he]⟩
              · cases hq2
            · cases hq2
          · cases hq2
        · cases hx
      have hids : ∀ (j b off ver n : Nat), qs[j]? = some (b, off, ver, n) → (qs.map (·.1))[j]? = some b := by
        intro j b off ver n hj
        rw [List.getElem?_map, hj]; rfl
      have hreads : ∀ rs, Reads (hrem H (qs.map (·.1))) E ⟨E.w, newsF bl base (fun _ => none), expρ E qs base, E.B, E.O⟩ true rs := by
        intro rs
        refine ⟨rfl, (fun d hd => ⟨hd.1, hd.2.1, fun x blk e1 o h1 h2 h3 h4 => ?_⟩), (fun b hb1 blk e d o h1 h2 h3 => ?_), (fun _ => rfl)⟩
        · obtain ⟨_, b, off, ver, n, blk0, e, rs', k1, k2, k3, k4, k5, k6, k7, k8, k9, k10, k11⟩ := hone x blk h1
          have h3' : expρ E qs base x = some e1 := h3
          rw [k11] at h3'
          cases h3'
          cases hp : e.pos with
          | none => rw [hp] at h4; cases h4
          | some p =>
            rw [hp] at h4
            simp only [Option.map_some, Option.some.injEq, Prod.mk.injEq] at h4
            exact hd.2.2 b blk0 e p.2 (by rw [hH]; exact k2) k6 k3 (by rw [hp, ← h4.1])
        · rw [hrem_get] at h1
          split at h1
          · cases h1
          · rename_i hni
            obtain ⟨e', he', hl⟩ := hR.at_ b blk (by rw [hH]; exact h1)
            rw [h2] at he'
            cases he'
            have hlt := hl.lt h3
            refine ⟨hlt.2, (fun q => by have q' : d < E.B := q; omega), fun x blk1 e1 o1 g1 g2 g3 g4 => ?_⟩
            obtain ⟨_, b1, off, ver, n, blk0, e2, rs', k1, k2, k3, k4, k5, k6, k7, k8, k9, k10, k11⟩ := hone x blk1 g1
            have g3' : expρ E qs base x = some e1 := g3
            rw [k11] at g3'
            cases g3'
            cases hp : e2.pos with
            | none => rw [hp] at g4; cases g4
            | some p =>
              rw [hp] at g4
              simp only [Option.map_some, Option.some.injEq, Prod.mk.injEq] at g4
              have := hR.inj b b1 blk blk0 e e2 d o p.2 (by rw [hH]; exact h1) (by rw [hH]; exact k2) h2 k3 h3 (by rw [hp, ← g4.1])
              subst this
              exact hni (by simpa using List.mem_of_getElem? (hids _ _ _ _ _ k1))
      have hsub : Sub (hrem H (qs.map (·.1))) E := by
        intro b blk hb1
        rw [hrem_get] at hb1
        split at hb1
        · cases hb1
        · rw [hH]; exact hb1
      have hRR : HRel ⟨E.w, newsF bl base (fun _ => none), expρ E qs base, E.B, E.O⟩ := by
        refine ⟨fun x blk hx => ?_, fun x x' blk blk' e1 e1' d o o' h1 h2 h3 h4 h5 h6 => ?_, hR.le⟩
        · obtain ⟨_, b, off, ver, n, blk0, e, rs', k1, k2, k3, k4, k5, k6, k7, k8, k9, k10, k11⟩ := hone x blk hx
          refine ⟨_, k11, k10.symm, k4.2.1.trans k9.symm, ?_⟩
          have hbl := mapRL_length k8
          have h3 := k4.2.2
          cases hp : e.pos with
          | none =>
            rw [hp] at h3
            simp only [Option.map_none]
            have : blk.cells.length = 0 := by rw [hbl, h3.1]; simp
            exact ⟨List.length_eq_zero_iff.1 this, h3.2⟩
          | some p =>
            rw [hp] at h3
            obtain ⟨g1, arr, el, lo, hi, g2, g3, g4, g5, g6⟩ := h3
            simp only [Option.map_some]
            have hcl : blk.cells.length = n * blk0.k := by rw [hbl]; simp; omega
            refine ⟨g1, arr, el, lo, hi, g2, g3, by rw [hcl]; omega, g5, ?_⟩
            have hw := ((g6.drop off).take (n * blk0.k))
            have h7 := mapRL_rel (L := hrem H (qs.map (·.1))) (E := E) (A := ⟨E.w, newsF bl base (fun _ => none), expρ E qs base, E.B, E.O⟩) (res := true)
              (fun v v' rs c h1 h2 h3 => reify_rel hR hsub 60 v v' rs c h1 h2 h3) k8 hw (hreads _)
            rw [List.drop_take, List.drop_drop, List.take_take, Nat.min_eq_left (by omega)] at h7
            rw [hcl]
            exact h7
        · obtain ⟨hx1, b, off, ver, n, blk0, e, rs', k1, k2, k3, k4, k5, k6, k7, k8, k9, k10, k11⟩ := hone x blk h1
          obtain ⟨hx2, b2, off2, ver2, n2, blk2, e2, rs2, q1, q2, q3, q4, q5, q6, q7, q8, q9, q10, q11⟩ := hone x' blk' h2
          have h3' : expρ E qs base x = some e1 := h3
          have h4' : expρ E qs base x' = some e1' := h4
          rw [k11] at h3'
          rw [q11] at h4'
          cases h3'
          cases h4'
          cases hp : e.pos with
          | none => rw [hp] at h5; cases h5
          | some p =>
            cases hp2 : e2.pos with
            | none => rw [hp2] at h6; cases h6
            | some p2 =>
              rw [hp] at h5
              rw [hp2] at h6
              simp only [Option.map_some, Option.some.injEq, Prod.mk.injEq] at h5 h6
              have hbb := hR.inj b b2 blk0 blk2 e e2 d p.2 p2.2 (by rw [hH]; exact k2) (by rw [hH]; exact q2) k3 q3 (by rw [hp, ← h5.1]) (by rw [hp2, ← h6.1])
              subst hbb
              have := nodupB_get hnd _ _ b (hids _ _ _ _ _ k1) (hids _ _ _ _ _ q1)
              omega
      -- values
      have hcell : ∀ x x' cx, (∀ b off ver n, x = V.slB b off ver n → (b, off, ver, n) ∈ qs) → expC (hrem H (qs.map (·.1))) (qs.map (·.1)) base x = some x' → Rel E x cx → Rel ⟨E.w, newsF bl base (fun _ => none), expρ E qs base, E.B, E.O⟩ x' cx := by
        intro x x' cx hq hx hr
        have other : ∀ {y y' : V}, (reify (hrem H (qs.map (·.1))) true 60 y).map (·.1) = some y' → Rel E y cx → Rel ⟨E.w, newsF bl base (fun _ => none), expρ E qs base, E.B, E.O⟩ y' cx := by
          intro y y' hy hr
          obtain ⟨p, hp, rfl⟩ := map_some hy
          exact reify_rel hR hsub 60 y p.1 p.2 cx hp hr (hreads _)
        cases x <;> simp only [expC] at hx <;> try exact other hx hr
        rename_i b off ver n
        obtain ⟨j, hj, rfl⟩ := map_some hx
        obtain ⟨_, hj2⟩ := idxN_get hj
        simp only [Nat.sub_zero] at hj2
        have hmem : (b, off, ver, n) ∈ qs := hq b off ver n rfl
        obtain ⟨j2, hj3⟩ := List.getElem?_of_mem hmem
        have hjj : j = j2 := nodupB_get hnd j j2 b hj2 (hids _ _ _ _ _ hj3)
        subst hjj
        have hjl : j < bl.length := by
          rw [hlen]
          rcases Nat.lt_or_ge j qs.length with q | q
          · exact q
          · simp [List.getElem?_eq_none q] at hj3
        obtain ⟨_, b1, off1, ver1, n1, blk0, e, rs', k1, k2, k3, k4, k5, k6, k7, k8, k9, k10, k11⟩ := hone (base + j) bl[j] (by rw [newsF_get, if_pos ⟨by omega, by omega⟩, Nat.add_sub_cancel_left]; exact List.getElem?_eq_getElem hjl)
        rw [Nat.add_sub_cancel_left, hj3] at k1
        simp only [Option.some.injEq, Prod.mk.injEq] at k1
        obtain ⟨rfl, rfl, rfl, rfl⟩ := k1
        cases hr with
        | slB he hle hpos =>
          rw [k3] at he
          cases he
          obtain ⟨hn, hq⟩ := hpos (k4.1.trans k5)
          refine .slB k11 (Nat.le_refl _) fun _ => ⟨hn, ?_⟩
          rcases hq with ⟨c', o', g1, g2, g3, g4⟩ | ⟨g1, g2, g3, g4⟩
          · exact .inl ⟨c', o' + off, by simp [g1], g2, g3, by simpa using g4⟩
          · exact .inr ⟨by simp [g1], g2, rfl, g4⟩
      have hcells : ∀ (xs xs' : List V) (cxs : List Value), (∀ x ∈ xs, ∀ b off ver n, x = V.slB b off ver n → (b, off, ver, n) ∈ qs) → mapO (expC (hrem H (qs.map (·.1))) (qs.map (·.1)) base) xs = some xs' → RelL E xs cxs →
          RelL ⟨E.w, newsF bl base (fun _ => none), expρ E qs base, E.B, E.O⟩ xs' cxs := by
        intro xs
        induction xs with
        | nil => intro xs' cxs _ h1 h2; cases h1; cases h2; exact .nil
        | cons x xs ih =>
          intro xs' cxs hq h1 h2
          simp only [mapO] at h1
          cases h3 : expC (hrem H (qs.map (·.1))) (qs.map (·.1)) base x with
          | none => rw [h3] at h1; cases h1
          | some y =>
            cases h4 : mapO (expC (hrem H (qs.map (·.1))) (qs.map (·.1)) base) xs with
            | none => rw [h3, h4] at h1; cases h1
            | some ys =>
              rw [h3, h4] at h1
              cases h1
              cases h2 with
              | cons r s => exact .cons (hcell x y _ (hq x (List.mem_cons_self ..)) h3 r) (ih ys _ (fun z hz => hq z (List.mem_cons_of_mem _ hz)) h4 s)
      have htop : ∀ x x' cx, (∀ q ∈ topIds x, q ∈ qs) → expT (hrem H (qs.map (·.1))) (qs.map (·.1)) base x = some x' → Rel E x cx → Rel ⟨E.w, newsF bl base (fun _ => none), expρ E qs base, E.B, E.O⟩ x' cx := by
        intro x x' cx hq hx hr
        unfold expT at hx
        split at hx
        · rename_i cs
          obtain ⟨ys, h1, rfl⟩ := map_some hx
          cases hr with
          | agg s =>
            refine .agg (hcells cs ys _ (fun y hy b off ver n e => hq _ ?_) h1 s)
            simp only [topIds, List.mem_filterMap]
            exact ⟨y, hy, by rw [e]⟩
        · refine hcell x x' cx (fun b off ver n e => hq _ ?_) hx hr
          rw [e]
          simp [topIds]
      refine ⟨expρ E qs base, hRR, ?_, fun x hx => ?_⟩
      · unfold expV at hv
        split at hv
        · rename_i vs
          obtain ⟨ys, h1, rfl⟩ := map_some hv
          cases r with
          | tup s =>
            refine .tup ?_
            have hsub2 : ∀ x ∈ vs, ∀ q ∈ topIds x, q ∈ qs := by
              intro x hx q hq
              rw [← hqs]
              simp only [allIds, List.mem_flatMap]
              exact ⟨x, hx, hq⟩
            have htops : ∀ (xs xs' : List V) (cxs : List Value), (∀ x ∈ xs, ∀ q ∈ topIds x, q ∈ qs) → mapO (expT (hrem H (qs.map (·.1))) (qs.map (·.1)) base) xs = some xs' → RelL E xs cxs →
                RelL ⟨E.w, newsF bl base (fun _ => none), expρ E qs base, E.B, E.O⟩ xs' cxs := by
              intro xs
              induction xs with
              | nil => intro xs' cxs _ h1 h2; cases h1; cases h2; exact .nil
              | cons x xs ih =>
                intro xs' cxs hq h1 h2
                simp only [mapO] at h1
                cases h3 : expT (hrem H (qs.map (·.1))) (qs.map (·.1)) base x with
                | none => rw [h3] at h1; cases h1
                | some y =>
                  cases h4 : mapO (expT (hrem H (qs.map (·.1))) (qs.map (·.1)) base) xs with
                  | none => rw [h3, h4] at h1; cases h1
                  | some ys =>
                    rw [h3, h4] at h1
                    cases h1
                    cases h2 with
                    | cons r s => exact .cons (htop x y _ (hq x (List.mem_cons_self ..)) h3 r) (ih ys _ (fun z hz => hq z (List.mem_cons_of_mem _ hz)) h4 s)
            exact htops vs ys _ hsub2 h1 s
        · rename_i hne
          refine htop v v1 c (fun q hq => ?_) hv r
          rw [← hqs]
          unfold allIds
          split
          · rename_i vs; exact (hne vs rfl).elim
          · exact hq
      · unfold expρ at hx
        split at hx
        · rename_i hle
          cases hj : qs[x - base]? with
          | none => rw [hj] at hx; exact absurd rfl hx
          | some q =>
            have : x - base < qs.length := by
              rcases Nat.lt_or_ge (x - base) qs.length with q' | q'
              · exact q'
              · simp [List.getElem?_eq_none q'] at hj
            rw [hlen]
            omega
        · exact absurd rfl hx
    · cases h
  · cases h

theorem callI_ok {cf : Cfg} (hext : ExtOK P cf) {ih : ExecF} (hih : ExecOK P ih) : CallOK P (callI P cf ih) := by
  intro f base vs rv blks h
  unfold callI at h
  split at h
  · rename_i g hg
    exact hext f g hg base vs rv blks h
  · split at h
    · rename_i fn c hb
      split at h
      · cases h
      · rename_i ex st hex hex2
        split at h
        · rename_i v hv
          intro w O cargs hargs
          have hR0 : HRel ⟨w, fun _ => none, fun _ => none, w.heap.size, O⟩ := ⟨(fun b blk hb => by cases hb), (fun b b' blk blk' e e' c o o' h1 => by cases h1), Nat.le_refl _⟩
          refine (calls_body hb (H := []) (nx := 0) hR0 rfl (fun _ _ => rfl) hargs hih hex2 (fun id q => hex id q) hv).mono fun e w' hpost => ?_
          obtain ⟨cv, E', he, rfl, hl, hH, hR, hrv, hfr⟩ := hpost
          have hB : E'.B = w.heap.size := hl.x.B
          have hO : E'.O = O := hl.O
          split at h
          · obtain ⟨ρ, g1, g2, g3⟩ := exportT_rel (base := base) hR hH h hrv
            rw [hB, hO] at g1 g2
            exact ⟨cv, ρ, he, hl.bel, g1, g2, g3⟩
          · have := exportI_rel hR (fun b blk hb => by rw [hH]; exact hb) h hrv base
            rw [hB, hO] at this
            exact ⟨cv, _, he, hl.bel, this.1, this.2, fun b hb => absurd rfl hb⟩
        · cases h
      · cases h
    · cases h

theorem seq_sound {cf : Cfg} {call : CallF} {sh : ShareF} (hc : CallOK P call) {ih : ExecF} (hih : ExecOK P ih) (hsh : sh = callS P ih) {opsA : Array Oper} {Q : Exit → Act → World → Prop} :
    ∀ {l : List Oper} {st st' : St} {E : Env} {a : Act}, StRel E st.t st.H st.nx a → runSeq P cf call sh opsA.toList l st = some st' → (∀ E' a', StRel E' st'.t st'.H st'.nx a' → Later E E' → Q .normal a' E'.w) → wpList P opsA Q l a E.w
  | [], st, st', E, a, hS, h, hQ => by
    simp only [runSeq, Option.some.injEq] at h
    subst h
    exact hQ E a hS (Later.refl E)
  | o :: r, st, st', E, a, hS, h, hQ => by
    rw [runSeq_cons] at h
    split at h
    · rename_i st1 hst1
      have hsub : Sub st.H E := fun b blk hb => by rw [hS.H]; exact hb
      unfold wpList
      rw [wantedV_eq hS.t]
      unfold stepOp at hst1
      split at hst1
      · rename_i hw
        rw [if_pos hw]
        refine .inl ?_
        have hnext : ∀ cv E1 v, StRel E1 st.t st1.H st1.nx { a with tmps := a.tmps } → Rel E1 v cv → st1.t = putV st.t o.dst v → Later E E1 → wpList P opsA Q r (a.put o.dst cv) E1.w := by
          intro cv E1 v hS1 hv ht1 hl
          refine seq_sound hc hih hsh (st := st1) (E := E1) ⟨hS1.H, ?_, hS1.R, hS1.fresh, ?_⟩ h fun E' a' hS' hl' => hQ E' a' hS' (hl.trans hl')
          · rw [ht1]
            have := put_rel hS1.t o.dst hv
            cases hd : o.dst with
            | none => rw [hd] at this; exact this
            | some d => rw [hd] at this; exact this
          · rw [← hS1.df]; cases o.dst <;> rfl
        split at hst1
        · rename_i f vs hshv
          split at hst1
          · rename_i v H' nx' hcall
            cases hst1
            -- a call in the same memory
            unfold sharedV at hshv
            split at hshv
            · rename_i c hop
              split at hshv
              · cases hshv
              · split at hshv
                · rename_i f' vs' hres
                  split at hshv
                  · cases hshv
                    obtain ⟨cs, hcs, hrun⟩ := resolve_run hS.t hop hres E.w
                    unfold Oper.wp
                    rw [hrun]
                    subst hsh
                    unfold callS at hcall
                    split at hcall
                    · rename_i fn code hb
                      split at hcall
                      · cases hcall
                      · rename_i ex st2 hex hex2
                        split at hcall
                        · rename_i v2 hv2
                          cases hcall
                          refine (calls_body hb hS.R hS.H hS.fresh hcs hih hex2 (fun id q => hex id q) hv2).mono ?_
                          rintro e w' ⟨cv, E1, rfl, rfl, hl, hH, hR, hrv, hfr⟩
                          exact hnext cv E1 v ⟨hH, hS.t.mono hl.x, hR, hfr, hS.df⟩ hrv rfl hl
                        · cases hcall
                      · cases hcall
                    · cases hcall
                  · cases hshv
                · cases hshv
            · cases hshv
          · cases hst1
        · split at hst1
          · rename_i eff heff
            cases hst1
            refine opE_sound hc hS.R hsub hS.t heff (fun b h1 _ => hS.fresh b h1) _ _ fun cv E1 k1 k2 k3 k4 k5 k6 k7 k8 => ?_
            refine hnext cv E1 eff.v ⟨?_, hS.t.mono k4, k5, fun b hb => ?_, hS.df⟩ k6 rfl ⟨k4, k2, k7⟩
            · rw [k3, hS.H]; exact (hget_applyL _ _ _).symm
            · simp only at hb
              exact k8 b (hS.fresh b (by omega)) (by omega)
          · cases hst1
      · rename_i hw
        cases hst1
        rw [if_neg hw]
        refine seq_sound hc hih hsh (st := ⟨putV st.t o.dst (.tup []), st.H, st.nx⟩) (E := E) ⟨hS.H, ?_, hS.R, hS.fresh, ?_⟩ h hQ
        · have := put_rel hS.t o.dst (undef_rel (E := E))
          cases hd : o.dst with
          | none => rw [hd] at this; exact this
          | some d => rw [hd] at this; exact this
        · rw [← hS.df]; cases o.dst <;> rfl
    · cases h

theorem exec_ok (hm : P.follows .mixedOrders = true) {cf : Cfg} (hext : ExtOK P cf) : ∀ n, ExecOK P (exec P cf n)
  | 0 => fun c st ex st' h => by cases h
  | n + 1 => by
    have hih := exec_ok hm hext n
    have hc := callI_ok hext hih
    intro c st ex st' h E a hS Q hQ
    have h' : execStep P cf n (exec P cf n) c st = some (ex, st') := h
    clear h
    unfold execStep at h'
    split at h'
    · cases h'; exact wp_skip (hQ E a hS (Later.refl E))
    · cases h'; exact wp_label (hQ E a hS (Later.refl E))
    · rename_i id ops draw
      unfold execRegion at h'
      split at h'
      · rename_i hd
        subst hd
        split at h'
        · rename_i t H nx hr
          cases h'
          exact draw_sound hm hc (callS_ok hih) hS hr hQ
        · cases h'
      · rename_i hd
        have hd' : draw = false := by simpa using hd
        subst hd'
        split at h'
        · rename_i st1 hr
          cases h'
          exact wp_region_list (seq_sound hc hih rfl hS hr hQ)
        · cases h'
    · rename_i x y
      refine wp_seq ?_
      unfold onward at h'
      split at h'
      · rename_i st1 h1
        refine hih x st _ st1 h1 E a hS _ fun E1 a1 hS1 hl1 => ?_
        exact hih y st1 ex st' h' E1 a1 hS1 Q fun E' a' hS' hl' => hQ E' a' hS' (hl1.trans hl')
      · rename_i hne
        refine hih x st ex st' h' E a hS _ fun E1 a1 hS1 hl1 => ?_
        cases ex with
        | normal => exact absurd h' (hne st')
        | exit id => exact hQ E1 a1 hS1 hl1
        | ret => exact hQ E1 a1 hS1 hl1
    · rename_i c x y
      unfold execCond at h'
      split at h'
      · rename_i b hb
        have r := evalV_rel hS.t hb
        generalize hcx : a.eval c = cx at r
        cases r
        refine wp_cond hcx ?_
        have := hih _ st ex st' h' E a hS Q hQ
        exact this
      · cases h'
    · rename_i id body
      refine wp_block ?_
      unfold execBlock at h'
      split at h'
      · rename_i id' st1 h1
        refine hih body st _ st1 h1 E a hS _ fun E1 a1 hS1 hl1 => ?_
        split at h'
        · rename_i hid
          cases h'
          simp only [Exit.inBlock, hid, if_true]
          exact hQ E1 a1 hS1 hl1
        · rename_i hid
          cases h'
          simp only [Exit.inBlock, hid, if_false]
          exact hQ E1 a1 hS1 hl1
      · rename_i hne
        refine hih body st ex st' h' E a hS _ fun E1 a1 hS1 hl1 => ?_
        cases ex with
        | normal => exact hQ E1 a1 hS1 hl1
        | exit id' => exact absurd h' (hne id' st')
        | ret => exact hQ E1 a1 hS1 hl1
    · rename_i body
      have key : ∀ (k : Nat) (st : St) (E0 : Env) (a : Act), StRel E0 st.t st.H st.nx a → Later E E0 → iterN (exec P cf n body) k st = some (ex, st') → Code.rounds P body Q k a E0.w := by
        intro k
        induction k with
        | zero => intro st E0 a _ _ h; cases h
        | succ k ihk =>
          intro st E0 a hS0 hl0 h
          have h : onward (exec P cf n body st) (iterN (exec P cf n body) k) = some (ex, st') := h
          rw [rounds_succ]
          unfold onward at h
          split at h
          · rename_i st1 h1
            refine hih body st _ st1 h1 E0 a hS0 _ fun E1 a1 hS1 hl1 => ?_
            exact ihk st1 E1 a1 hS1 (hl0.trans hl1) h
          · rename_i hne
            refine hih body st ex st' h E0 a hS0 _ fun E1 a1 hS1 hl1 => ?_
            cases ex with
            | normal => exact absurd h (hne st')
            | exit id => exact hQ E1 a1 hS1 (hl0.trans hl1)
            | ret => exact hQ E1 a1 hS1 (hl0.trans hl1)
      exact wp_loop_rounds n (key n st E a hS (Later.refl E) h')
    · rename_i body
      refine wp_scope_straight ?_
      refine hih body st ex st' h' E a hS _ fun E1 a1 hS1 hl1 => ?_
      cases ex <;> exact hQ E1 a1 hS1 hl1
    · cases h'; exact wp_exit (hQ E a hS (Later.refl E))
    · cases h'; exact wp_ret (hQ E a hS (Later.refl E))
    · cases h'
/-- What the machine of values says of a call on its own is so. -/
theorem vcall_ok (hm : P.follows .mixedOrders = true) {cf : Cfg} (hext : ExtOK P cf) (n : Nat) : CallOK P (vcall P cf n) := callI_ok hext (exec_ok hm hext n)
/-- A law that is true of these values. -/
theorem calls_true (hm : P.follows .mixedOrders = true) {cf : Cfg} (hext : ExtOK P cf) {n : Nat} {f : FuncId} {vs : List V} (h : vcall P cf n f 0 vs = some (.bool true, [])) {w : World} {cs : List Value}
    (hvs : RelL ⟨w, fun _ => none, fun _ => none, w.heap.size, fun _ => True⟩ vs cs) : Calls P f cs.toArray w (fun e w' => e = .returned (.bool true) ∧ Below w.heap.size w w') := by
  refine (vcall_ok hm hext n f 0 vs _ _ h w (fun _ => True) cs hvs).mono fun e w' hp => ?_
  obtain ⟨cv, ρ, he, hb, _, hr, _⟩ := hp
  cases hr
  exact ⟨he, hb⟩
theorem extOK_none {thaw shared : FuncId → Bool} : ExtOK P ⟨thaw, shared, fun _ => none⟩ := fun f g h => by cases h
end
end
end Go.Proofs.Ytifgifhbefhkmaa.VM
