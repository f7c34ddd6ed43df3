/- The machine of values: regions whose order is open, at last. No conditions. -/
import Derived.Test.YtifgifhbefhkmaaVMt
namespace Go.Proofs.Ytifgifhbefhkmaa.VM
set_option linter.unusedSimpArgs false
set_option linter.unusedVariables false
open Go Go.RowKit
noncomputable section
section
variable {P : Program} {cf : Cfg} {call : CallF} {sh : ShareF} {ops : List Oper} {ms : List Nat} {H0 : Heap} {t0 : List V} {nx0 : Nat}

theorem tF_lt {r : DRec} {rest : List DRec} {i : Nat} (hr : r.i = i) (hrest : ∀ x ∈ rest, x.i < i) : ∀ {pre : List DRec}, (∀ x ∈ pre, i < x.i) → tF t0 (fun j => decide (j < i)) (pre ++ r :: rest) = tF t0 (fun _ => true) rest
  | [], _ => by
    have h1 : tF t0 (fun j => decide (j < i)) rest = tF t0 (fun _ => true) rest := by
      apply List.ext_getElem?
      intro s
      exact tF_congr fun x hx _ => by simp [hrest x hx]
    simp [tF, hr, h1]
  | x :: pre, hp => by
    have hx : ¬ (x.i < i) := by have := hp x (List.mem_cons_self ..); omega
    simp only [List.cons_append, tF, hx, decide_false, Bool.false_eq_true, if_false]
    exact tF_lt hr hrest fun y hy => hp y (List.mem_cons_of_mem _ hy)
theorem hF_lt {H : Nat → Option Blk} {bit : Nat → Bool} {r : DRec} {rest : List DRec} {i : Nat} (hr : r.i = i) (hrest : ∀ x ∈ rest, x.i < i) : ∀ {pre : List DRec}, (∀ x ∈ pre, i < x.i) →
    hF H (fun j => decide (j < i) && bit j) (pre ++ r :: rest) = hF H bit rest
  | [], _ => by
    have h1 : hF H (fun j => decide (j < i) && bit j) rest = hF H bit rest := by
      funext b
      exact hF_congr fun x hx _ => by simp [hrest x hx]
    simp [hF, hr, h1]
  | x :: pre, hp => by
    have hx : ¬ (x.i < i) := by have := hp x (List.mem_cons_self ..); omega
    simp only [List.cons_append, hF, hx, decide_false, Bool.false_and, Bool.false_eq_true, if_false]
    exact hF_lt hr hrest fun y hy => hp y (List.mem_cons_of_mem _ hy)

/-- Neither comes before the other by need. -/
def Unord (ms : List Nat) (i j : Nat) : Prop := j ≠ i ∧ (if j < i then bitM ms i j else bitM ms j i) = false
theorem xids_mem {i b : Nat} : ∀ {rs : List DRec} {x : DRec}, x ∈ rs → Unord ms i x.i → b ∈ x.eff.wr.map (·.1) → b ∈ xids ms i rs
  | [], x, hx, _, _ => by cases hx
  | r :: rest, x, hx, hu, hb => by
    rw [xids]
    cases hx with
    | head =>
      split
      · rename_i hq
        rw [hq] at hb
        cases hb
      · rename_i hq
        have h1 : (r.i == i) = false := by simpa using hu.1
        rw [if_neg (by rw [h1, Bool.false_or]; simpa using hu.2)]
        exact List.mem_append_left _ hb
    | tail _ hx =>
      have ih := xids_mem hx hu hb
      split
      · exact ih
      · by_cases q : (r.i == i || (if r.i < i then bitM ms i r.i else bitM ms r.i i)) = true
        · rw [if_pos q]; exact ih
        · rw [if_neg q]; exact List.mem_append_right _ ih

/-- What the looks behind a walk show of each operation. -/
def Seen (P : Program) (call : CallF) (ms : List Nat) (H0 : Heap) (all : List DRec) (r : DRec) (rest : List DRec) : Prop :=
  (r.ex = true → ∀ x ∈ all, Unord ms r.i x.i → x.eff.wr = [] ∧ x.eff.new = []) ∧
  ((xids ms r.i all = [] ∧ ∀ b, b ∈ r.eff.wr.map (·.1) → (hget (heapOf H0 (bitM ms r.i) rest) b).isSome = true) ∨
  (r.eff.wr = [] ∧ r.ex = false ∧ (r.wt = true → opE P call (hrem (heapOf H0 (bitM ms r.i) rest) (xids ms r.i all)) r.base r.t r.o = some r.eff ∨ freeOp r.o = true ∨
    (addrOp r.o = true ∧ ∀ x ∈ all, Unord ms r.i x.i → ∀ p ∈ x.eff.wr, ∀ blk, hget (heapOf H0 (bitM ms r.i) rest) p.1 = some blk → blk.ver = p.2.ver) ∨
    (∃ b, loadB r.t r.o = some b ∧ (xids ms r.i all).contains b = false))))
theorem chk_seen {all : List DRec} : ∀ {rs : List DRec}, chk P call ms H0 all rs = true → ∀ pre r rest, rs = pre ++ r :: rest → Seen P call ms H0 all r rest
  | [], _, pre, r, rest, e => by simp at e
  | x :: rs, h, pre, r, rest, e => by
    rw [chk, Bool.and_eq_true, Bool.and_eq_true] at h
    cases pre with
    | nil =>
      simp only [List.nil_append, List.cons.injEq] at e
      obtain ⟨rfl, rfl⟩ := e
      have h1 := h.1.1
      refine ⟨fun hex y hy hu => ?_, ?_⟩
      · have h2 := h.1.2
        rw [hex, Bool.not_true, Bool.false_or] at h2
        have h3 := List.all_eq_true.1 h2 y hy
        rw [Bool.or_eq_true, Bool.or_eq_true] at h3
        rcases h3 with (h3 | h3) | h3
        · exact absurd (by simpa using h3) hu.1
        · rw [hu.2] at h3; cases h3
        · simpa using h3
      split at h1
      · rename_i hq
        refine .inl ⟨hq, fun b hb => ?_⟩
        obtain ⟨p, hp, rfl⟩ := List.mem_map.1 hb
        exact List.all_eq_true.1 h1 p hp
      · rename_i hq
        simp only [Bool.and_eq_true, List.isEmpty_iff, Bool.or_eq_true, Bool.not_eq_true'] at h1
        refine .inr ⟨h1.1.1, h1.1.2, fun hw => ?_⟩
        rcases h1.2 with (((q | q) | q) | q) | q
        · rw [q] at hw; cases hw
        · exact .inr (.inl q)
        · left
          split at q
          · rename_i e' he'
            have := (effEq_eq q).1
            rw [he', this]
          · cases q
        · right; right; left
          refine ⟨q.1, fun y hy hu p hp blk hb => ?_⟩
          have h3 := List.all_eq_true.1 q.2 y hy
          rw [Bool.or_eq_true, Bool.or_eq_true] at h3
          rcases h3 with (h3 | h3) | h3
          · exact absurd (by simpa using h3) hu.1
          · rw [hu.2] at h3; cases h3
          · have h4 := List.all_eq_true.1 h3 p hp
            rw [hb] at h4
            simpa using h4
        · right; right; right
          split at q
          · rename_i b hb
            exact ⟨b, hb, by simpa using q⟩
          · cases q
    | cons p pre =>
      simp only [List.cons_append, List.cons.injEq] at e
      exact chk_seen h.2 pre r rest e.2
theorem xids_nil {i : Nat} : ∀ {rs : List DRec}, (∀ r ∈ rs, r.eff.wr = []) → xids ms i rs = []
  | [], _ => rfl
  | r :: rest, h => by
    rw [xids, h r (List.mem_cons_self ..)]
    exact xids_nil fun x hx => h x (List.mem_cons_of_mem _ hx)

theorem free_any {L L' : Heap} {base : Nat} {t : List V} {o : Oper} (ho : freeOp o = true) : opE P call L base t o = opE P call L' base t o := by
  rw [opE_eq, opE_eq]
  unfold freeOp at ho
  unfold opS
  split at ho <;> first | (rename_i h; simp only [h]) | cases ho
theorem load_same {L L' : Heap} {base : Nat} {t : List V} {o : Oper} {b : Nat} (ho : loadB t o = some b) (hb : hget L' b = hget L b) : opE P call L' base t o = opE P call L base t o := by
  rw [opE_eq, opE_eq]
  unfold loadB at ho
  split at ho
  · rename_i ty x hop
    split at ho
    · rename_i b' off ver hv
      cases ho
      unfold opS
      simp only [hop, hv, loadV, cellsAt, hb]
    · cases ho
  · cases ho
theorem addr_ver {L L' : Heap} {base : Nat} {t : List V} {o : Oper} {e : Eff} (ho : addrOp o = true) (hL : ∀ b blk, hget L b = some blk → ∃ blk', hget L' b = some blk' ∧ blk'.ver = blk.ver) (h : opE P call L base t o = some e) : opE P call L' base t o = some e := by
  have hp : ∀ {p : V} {k : Nat} {v : V}, ptrAdd L p k = some v → ptrAdd L' p k = some v := by
    intro p k v h
    unfold ptrAdd at h ⊢
    split at h
    · exact h
    · split at h
      · rename_i blk hb
        obtain ⟨blk', h1, h2⟩ := hL _ blk hb
        simp only [h1, h2]
        exact h
      · cases h
    · cases h
  have hi : ∀ {tt : TypeId} {x : V} {i : Int} {v : V}, idxAddr P L tt x i = some v → idxAddr P L' tt x i = some v := by
    intro tt x i v h
    unfold idxAddr at h ⊢
    split at h
    · rename_i h0
      split at h
      · rename_i h1; exact h
      · rename_i h1
        split at h
        · rename_i blk hb
          obtain ⟨blk', g1, g2⟩ := hL _ blk hb
          simp only [g1, g2]
          exact h
        · cases h
      · cases h
    · split at h
      · split at h
        · rename_i hc
          rw [if_pos hc]
          exact hp h
        · cases h
      · cases h
    · cases h
  rw [opE_eq] at h ⊢
  unfold addrOp at ho
  split at ho
  · rename_i hop
    unfold opS at h ⊢
    simp only [hop] at h ⊢
    split at h
    · obtain ⟨v, h1, rfl⟩ := map_some h
      rw [hp h1]; rfl
    · cases h
  · rename_i hop
    unfold opS at h ⊢
    simp only [hop] at h ⊢
    split at h
    · obtain ⟨v, h1, rfl⟩ := map_some h
      rw [hi h1]; rfl
    · cases h
  · cases ho
theorem hF_pick {H : Nat → Option Blk} {D D' : Nat → Bool} {b : Nat} : ∀ {rs : List DRec}, (∀ x ∈ rs, Aff x b → D' x.i = true → D x.i = true) →
    hF H D rs b = hF H D' rs b ∨ ∃ x ∈ rs, D x.i = true ∧ D' x.i = false ∧ Aff x b ∧ ∀ H', hF H D rs b = applyF H' x.base x.eff b
  | [], _ => .inl rfl
  | r :: rest, h => by
    have ih := hF_pick (H := H) (rs := rest) fun x hx => h x (List.mem_cons_of_mem _ hx)
    have lift : ∀ {y z : Option Blk}, y = hF H D rest b → z = hF H D' rest b → (y = z ∨ ∃ x ∈ r :: rest, D x.i = true ∧ D' x.i = false ∧ Aff x b ∧ ∀ H', y = applyF H' x.base x.eff b) := by
      rintro y z rfl rfl
      exact ih.imp id fun ⟨x, h1, h2⟩ => ⟨x, List.mem_cons_of_mem _ h1, h2⟩
    by_cases ha : Aff r b
    · obtain ⟨y, hy⟩ := applyF_aff ha
      cases hd : D r.i with
      | true =>
        cases hd' : D' r.i with
        | true => left; simp only [hF, hd, hd', if_true, hy]
        | false => right; exact ⟨r, List.mem_cons_self .., hd, hd', ha, fun H' => by simp only [hF, hd, if_true, hy]⟩
      | false =>
        have hd' : D' r.i = false := by
          cases q : D' r.i with
          | false => rfl
          | true => rw [h r (List.mem_cons_self ..) ha q] at hd; cases hd
        exact lift (by simp only [hF, hd, Bool.false_eq_true, if_false]) (by simp only [hF, hd', Bool.false_eq_true, if_false])
    · refine lift ?_ ?_
      · rw [hF]
        split
        · exact applyF_not ha _
        · rfl
      · rw [hF]
        split
        · exact applyF_not ha _
        · rfl
theorem setsF_val {l : List (Nat × Blk)} {b : Nat} {y : Blk} : ∀ {H : Nat → Option Blk}, b ∈ l.map (·.1) → setsF l H b = some y → ∃ p ∈ l, p.1 = b ∧ p.2 = y := by
  induction l with
  | nil => intro H h; cases h
  | cons p l ih =>
    intro H hm h
    obtain ⟨j, x⟩ := p
    rw [setsF] at h
    by_cases q : b ∈ l.map (·.1)
    · obtain ⟨p, h1, h2⟩ := ih q h
      exact ⟨p, List.mem_cons_of_mem _ h1, h2⟩
    · simp only [List.map_cons, List.mem_cons] at hm
      have hb : b = j := hm.resolve_right q
      rw [setsF_not q] at h
      unfold updF at h
      rw [if_pos hb] at h
      exact ⟨(j, x), List.mem_cons_self .., hb.symm, Option.some.inj h⟩

structure Inv (H0 : Heap) (t0 : List V) (nx0 : Nat) (E0 : Env) (a0 : Act) (rs : List DRec) (D : Nat → Bool) (E : Env) (a : Act) : Prop where
  H : E.H = hF (hget H0) D rs
  t : RelL E (tF t0 D rs) a.tmps.toList
  R : HRel E
  x : Ext E0 E
  O : E.O = E0.O
  bel : Below E0.B E0.w E.w
  fresh : ∀ b, nx0 ≤ b → (∀ r ∈ rs, D r.i = true → ¬ (r.base ≤ b ∧ b < r.base + r.eff.new.length)) → E.ρ b = none
  df : a.defers = a0.defers

theorem draw_step {opsA : Array Oper} (hA : opsA.toList = ops) (hc : CallOK P call) (hsh : ShareOK P sh) (ho : Orders ops ms) {E0 : Env} {a0 : Act} {rs : List DRec} {t' : List V} {nx' : Nat} (hwf : WF P cf call sh ops ms H0 t0 nx0 rs t' nx') (hlen : rs.length = ops.length)
    (h0 : ∀ b x, hget H0 b = some x → b < nx0) (hseen : ∀ pre r rest, rs = pre ++ r :: rest → Seen P call ms H0 rs r rest)
    {D : Nat → Bool} (hD : Down ops D) {E : Env} {a : Act} (hI : Inv H0 t0 nx0 E0 a0 rs D E a) {i : Nat} {y : Oper} (hy : ops[i]? = some y) (hDi : D i = false) (hready : ∀ e ∈ y.after, Region.binds .any e = true → D e.on = true)
    {Q : Exit → Act → World → Prop} {K : Act → World → Prop} (hK : ∀ E' a', Inv H0 t0 nx0 E0 a0 rs (fun j => D j || j == i) E' a' → K a' E'.w) : wpOp P opsA Q i K a E.w := by
  have hi : i < rs.length := by
    rw [hlen]
    rcases Nat.lt_or_ge i ops.length with q | q
    · exact q
    · simp [List.getElem?_eq_none q] at hy
  obtain ⟨pre, r, rest, g1, g2, g3, g4, g5, g6, g7, g8, g9, g10, g11⟩ := hwf.split i hi
  have hro : r.o = y := by rw [g5] at hy; cases hy; rfl
  have hrmem : r ∈ rs := by rw [g1]; simp
  have hrestmem : ∀ z, z ∈ rest → z ∈ rs := fun z hz => by rw [g1]; simp [hz]
  have hpremem : ∀ z, z ∈ pre → z ∈ rs := fun z hz => by rw [g1]; simp [hz]
  have hopx : ∀ x ∈ rs, ops[x.i]? = some x.o := by
    intro x hx
    obtain ⟨p2, x2, r2, k1, k2, k3, k4, k5, _⟩ := hwf.split x.i (hwf.idx x hx)
    obtain rfl : x = x2 := hwf.uniq x hx x2 (by rw [k1]; simp) k2.symm
    exact k5
  have hwr : WrIn ms H0 rs := by
    intro p2 x2 r2 e b hb
    rcases (hseen p2 x2 r2 e).2 with q | q
    · exact q.2 b hb
    · rw [q.1] at hb; cases hb
  have hDi' : D r.i = false := by rw [g2]; exact hDi
  -- what precedes has been done
  have hpred : ∀ x ∈ rs, x.i < i → bitM ms i x.i = true → D x.i = true := by
    intro x hx hlt hb
    obtain ⟨e, he, hbind, hq⟩ := ho.back i y x.i hy hlt hb
    have hDe := hready e he hbind
    rcases hq with q | q
    · rw [← q]; exact hDe
    · have helt := (ho.edge i y e hy he hbind).1
      have hez : ∃ z, ops[e.on]? = some z := ⟨ops[e.on]'(by rw [← hlen]; omega), List.getElem?_eq_getElem _⟩
      obtain ⟨z, hz⟩ := hez
      exact hD.mask ho e.on e.on z x.i (Nat.le_refl _) hz q.1 hDe q.2
  -- what has been done and comes later in the text does not wait for this one
  have hlater : ∀ x ∈ rs, i < x.i → D x.i = true → bitM ms x.i i = false := by
    intro x hx hlt hd
    cases hq : bitM ms x.i i with
    | false => rfl
    | true =>
      have := hD.mask ho x.i x.i x.o i (Nat.le_refl _) (hopx x hx) hlt hd hq
      rw [hDi] at this
      cases this
  -- the values looked at
  have hnth : ∀ s, s ∈ looksV ops r.o → nth r.t s = nth (tF t0 D rs) s := by
    intro s hs
    have h1 : (tF t0 D rs)[s]? = (tF t0 (fun j => decide (j < i)) rs)[s]? := by
      refine tF_congr fun x hx hd => ?_
      rcases Nat.lt_trichotomy x.i i with q | q | q
      · rw [decide_eq_true q]
        cases hb : bitM ms i x.i with
        | true => exact hpred x hx q hb
        | false => exact absurd hs ((apartV_spec (ho.apart i r.o x.i x.o g5 q (hopx x hx) hb)).1 s hd)
      · rw [decide_eq_false (by omega), q]; exact hDi
      · rw [decide_eq_false (by omega)]
        cases hd2 : D x.i with
        | false => rfl
        | true => exact absurd hs ((apartV_spec (ho.apart x.i x.o i r.o (hopx x hx) q g5 (hlater x hx q hd2))).2.2 s hd)
    rw [g1, tF_lt g2 g10 g9, ← g4.t, ← g1] at h1
    rw [nth_eq, nth_eq, List.getD_eq_getElem?_getD, List.getD_eq_getElem?_getD, h1]
  have hwt : wantedV ops (tF t0 D rs) r.o = r.wt := by rw [g6]; exact (wt_congr hnth).symm
  have hrest_ne : ∀ x ∈ rest, x.i ≠ r.i := fun x hx => by have := g10 x hx; omega
  have hpre_ne : ∀ x ∈ pre, x.i ≠ r.i := fun x hx => by have := g9 x hx; omega
  have hun : ∀ x ∈ rs, i < x.i → D x.i = true → Unord ms i x.i := fun x hx q hd => ⟨by omega, by rw [if_neg (by omega)]; exact hlater x hx q hd⟩
  have hdomr : ∀ b, (hget (heapOf H0 (bitM ms i) rest) b).isSome = true → b < r.base := by
    intro b hb
    obtain ⟨z, hz⟩ := Option.isSome_iff_exists.1 hb
    have hw2 : WrIn ms H0 rest := by
      have : WrIn ms H0 (pre ++ r :: rest) := g1 ▸ hwr
      exact (this.drop).tail
    exact (g4.dom h0 hw2).1 _ b z hz
  have hdis : ∀ x ∈ pre, D x.i = true → ∀ b, ¬ (Aff r b ∧ Aff x b) := by
    rintro x hx hd b ⟨ha, hb⟩
    have hlt := g9 x hx
    have hxm := hpremem x hx
    rcases ha with ha | ha
    · rcases hb with hb | hb
      · have hX : b ∈ xids ms r.i rs := xids_mem hxm (by rw [g2]; exact hun x hxm hlt hd) hb
        rcases (hseen pre r rest g1).2 with q | q
        · rw [q.1] at hX; cases hX
        · rw [q.1] at ha; cases ha
      · have := hdomr b (by have := hwr pre r rest g1 b ha; rwa [g2] at this)
        have := g11 x hx
        omega
    · rcases hb with hb | hb
      · obtain ⟨p2, x2, r2, k1, k2, k3, k4, k5, k6, k7, k8, k9, k10, k11⟩ := hwf.split x.i (hwf.idx x hxm)
        obtain rfl : x = x2 := hwf.uniq x hxm x2 (by rw [k1]; simp) k2.symm
        have hs := hwr p2 x r2 k1 b hb
        have hr2 : r ∈ r2 := by
          have hr' : r ∈ p2 ++ x :: r2 := k1 ▸ hrmem
          rcases List.mem_append.1 hr' with q | q
          · have := k9 r q; omega
          · cases q with
            | head => omega
            | tail _ q => exact q
        have := hwf.unseen ho h0 hwr x.i p2 x r2 k1 rfl r hr2 b ha.1 ha.2 hs
        rw [g2, hlater x hxm hlt hd] at this
        cases this
      · have := g11 x hx
        omega
  have htadd : tF t0 (fun j => D j || j == i) rs = putV (tF t0 D rs) r.o.dst r.eff.v := by
    have := tF_add (t0 := t0) (D := D) (r := r) (rest := rest) hDi' hrest_ne (pre := pre) hpre_ne (fun x hx hd s hs => by
      have hlt := g9 x hx
      exact (apartV_spec (ho.apart x.i x.o i r.o (hopx x (hpremem x hx)) hlt g5 (hlater x (hpremem x hx) hlt hd))).2.1 s hs)
    rw [g2] at this
    rw [g1]
    exact this
  have hhadd : hF (hget H0) (fun j => D j || j == i) rs = applyF (hF (hget H0) D rs) r.base r.eff := by
    have := hF_add (H := hget H0) (D := D) (r := r) (rest := rest) hDi' hrest_ne (pre := pre) hpre_ne hdis
    rw [g2] at this
    rw [g1]
    exact this
  have hA2 : opsA[i]? = some r.o := by rw [← Array.getElem?_toList, hA]; exact g5
  have hfr : ∀ b, r.base ≤ b → b < r.base + r.eff.new.length → E.ρ b = none := by
    intro b h1 h2
    refine hI.fresh b (by have := (hwf.nx.2 r hrmem).1; omega) fun x hx hd hb => ?_
    rcases Nat.lt_trichotomy x.i r.i with q | q | q
    · have := hwf.sep x hx r hrmem q; omega
    · rw [q, hDi'] at hd; cases hd
    · have := hwf.sep r hrmem x hx q; omega
  have hfresh' : ∀ (E' : Env), (∀ b, E.ρ b = none → ¬ (r.base ≤ b ∧ b < r.base + r.eff.new.length) → E'.ρ b = none) → ∀ b, nx0 ≤ b → (∀ x ∈ rs, (D x.i || x.i == i) = true → ¬ (x.base ≤ b ∧ b < x.base + x.eff.new.length)) → E'.ρ b = none := by
    intro E' hE b hb1 hb2
    refine hE b (hI.fresh b hb1 fun x hx hd => hb2 x hx (by rw [hd]; rfl)) (hb2 r hrmem (by rw [g2]; simp))
  have hput : ∀ {E' : Env} {cv : Value}, Ext E E' → Rel E' r.eff.v cv → RelL E' (tF t0 (fun j => D j || j == i) rs) (a.put r.o.dst cv).tmps.toList := by
    intro E' cv hx hv
    rw [htadd]
    have := put_rel (hI.t.mono hx) r.o.dst hv
    cases hd : r.o.dst with
    | none => rw [hd] at this; exact this
    | some d => rw [hd] at this; exact this
  have hdf : ∀ cv, (a.put r.o.dst cv).defers = a0.defers := by
    intro cv
    rw [← hI.df]
    cases r.o.dst <;> rfl
  unfold wpOp
  simp only [hA2]
  rw [wantedV_eq hI.t, hA, hwt]
  cases hw : r.wt with
  | false =>
    simp only [Bool.false_eq_true, if_false]
    have hpu := (g8 hw).1
    have hE : E.H = hF (hget H0) (fun j => D j || j == i) rs := by
      rw [hhadd, hpu, applyF_pure]
      exact hI.H
    refine hK E _ ⟨hE, hput (Ext.refl E) (by rw [hpu]; exact undef_rel), hI.R, hI.x, hI.O, hI.bel, hfresh' E (fun _ h _ => h), hdf _⟩
  | true =>
    simp only [if_true]
    refine .inl ?_
    -- the heap that was looked at lies in the one that is there
    have hsub : ∀ b blk, hget (heapOf H0 (bitM ms i) rest) b = some blk → b ∉ xids ms i rs → E.H b = some blk := by
      intro b blk hb hX
      rw [hI.H, ← hb, heapOf_get, ← hF_lt (pre := pre) g2 g10 g9, ← g1]
      refine hF_congr fun x hx ha => ?_
      rcases Nat.lt_trichotomy x.i i with q | q | q
      · rw [decide_eq_true q, Bool.true_and]
        cases hbit : bitM ms i x.i with
        | true => exact hpred x hx q hbit
        | false =>
          exfalso
          rcases ha with ha | ha
          · exact hX (xids_mem hx ⟨by omega, by rw [if_pos q]; exact hbit⟩ ha)
          · have hxr : x ∈ rest := by
              have hx' : x ∈ pre ++ r :: rest := g1 ▸ hx
              rcases List.mem_append.1 hx' with q' | q'
              · have := g9 x q'; omega
              · cases q' with
                | head => omega
                | tail _ q' => exact q'
            have := hwf.unseen ho h0 hwr i pre r rest g1 g2 x hxr b ha.1 ha.2 (by rw [hb]; rfl)
            rw [hbit] at this
            cases this
      · rw [decide_eq_false (by omega), Bool.false_and, q]; exact hDi
      · rw [decide_eq_false (by omega), Bool.false_and]
        cases hd2 : D x.i with
        | false => rfl
        | true =>
          exfalso
          rcases ha with ha | ha
          · exact hX (xids_mem hx (hun x hx q hd2) ha)
          · have h1 := hdomr b (by rw [hb]; rfl)
            have h2 := hwf.sep r hrmem x hx (by omega)
            omega
    have hstep := g7 hw
    unfold stepE at hstep
    split at hstep
    · -- a call in the same memory
      rename_i f vs hshv
      rw [sharedV_congr (ev_congr hnth)] at hshv
      obtain ⟨c, hop, hres⟩ := sharedV_call hshv
      split at hstep
      · rename_i v H' nx1 hcall
        split at hstep
        · rename_i e he
          simp only [Option.some.injEq, Prod.mk.injEq] at hstep
          obtain ⟨hex, rfl⟩ := hstep
          obtain ⟨e1, e2, e3, e4⟩ := effH_spec he
          have hx := (hseen pre r rest g1).1 hex.symm
          have hEH : E.H = hget (heapOf H0 (bitM ms i) rest) := by
            funext b
            rw [hI.H, heapOf_get, ← hF_lt (pre := pre) g2 g10 g9, ← g1]
            refine hF_congr fun x hx' ha => ?_
            have hno : ∀ u : Unord ms r.i x.i, False := fun u => by
              have := hx x hx' u
              rcases ha with ha | ha
              · rw [this.1] at ha; cases ha
              · rw [this.2] at ha; simp at ha; omega
            rcases Nat.lt_trichotomy x.i i with q | q | q
            · rw [decide_eq_true q, Bool.true_and]
              cases hbit : bitM ms i x.i with
              | true => exact hpred x hx' q hbit
              | false => exact (hno ⟨by omega, by rw [g2, if_pos q]; exact hbit⟩).elim
            · rw [decide_eq_false (by omega), Bool.false_and, q]; exact hDi
            · rw [decide_eq_false (by omega), Bool.false_and]
              cases hd2 : D x.i with
              | false => rfl
              | true => exact (hno (by rw [g2]; exact hun x hx' q hd2)).elim
          have hlow : ∀ b, nx0 ≤ b → r.base ≤ b ∨ ∃ x ∈ rs, D x.i = true ∧ x.base ≤ b ∧ b < x.base + x.eff.new.length := by
            intro b hb
            rcases Nat.lt_or_ge b r.base with q | q
            · obtain ⟨x, hx1, hx2, hx3⟩ := g4.cover b hb q
              have hlt := g10 x hx1
              cases hbit : bitM ms i x.i with
              | true => exact .inr ⟨x, hrestmem x hx1, hpred x (hrestmem x hx1) hlt hbit, hx2, hx3⟩
              | false =>
                have := (hx x (hrestmem x hx1) ⟨by omega, by rw [g2, if_pos hlt]; exact hbit⟩).2
                rw [this] at hx3
                simp at hx3
                omega
            · exact .inl q
          have hfr2 : ∀ b, r.base ≤ b → E.ρ b = none := by
            intro b h1
            refine hI.fresh b (by have := (hwf.nx.2 r hrmem).1; omega) fun x hx' hd hb => ?_
            rcases Nat.lt_trichotomy x.i r.i with q | q | q
            · have := hwf.sep x hx' r hrmem q; omega
            · rw [q, hDi'] at hd; cases hd
            · have := (hx x hx' (by rw [g2]; exact hun x hx' (by omega) hd)).2
              rw [this] at hb
              simp at hb
              omega
          obtain ⟨cs, hcs, hrun⟩ := resolve_run hI.t hop hres E.w
          unfold Oper.wp
          rw [hrun]
          refine (hsh f vs _ r.base v H' nx1 hcall E cs hI.R hEH hfr2 hcs).mono ?_
          rintro en w' ⟨cv, E1, rfl, rfl, hl, hH, hR, hrv, hfr3⟩
          refine hK E1 _ ⟨?_, hput hl.x (by rw [e1]; exact hrv), hR, hI.x.trans hl.x, hl.O.trans hI.O, hI.bel.trans (by have := hl.bel; rwa [hI.x.B] at this), fun b hb1 hb2 => ?_, hdf cv⟩
          · rw [hH, e3, hhadd, ← hI.H, hEH]
          · refine hfr3 b ?_
            rcases hlow b hb1 with q | ⟨x, hx1, hx2, hx3⟩
            · have := hb2 r hrmem (by rw [g2]; simp)
              omega
            · exact absurd hx3 (hb2 x hx1 (by rw [hx2]; rfl))
        · cases hstep
      · cases hstep
    rename_i hshn
    have hstep : r.ex = false ∧ opE P call (heapOf H0 (bitM ms i) rest) r.base r.t r.o = some r.eff := by
      split at hstep
      · rename_i e he
        simp only [Option.some.injEq, Prod.mk.injEq] at hstep
        obtain ⟨h1, rfl⟩ := hstep
        exact ⟨h1.symm, he⟩
      · cases hstep
    have hop : ∃ L, Sub L E ∧ opE P call L r.base (tF t0 D rs) r.o = some r.eff := by
      have hcg := fun L => opE_congr (P := P) (call := call) (L := L) (base := r.base) (ev_congr hnth)
      rcases (hseen pre r rest g1).2 with q | q
      · refine ⟨heapOf H0 (bitM ms i) rest, fun b blk hb => hsub b blk hb (by rw [← g2, q.1]; simp), ?_⟩
        rw [← hcg]
        exact hstep.2
      · rcases q.2.2 hw with q3 | q3 | ⟨q3, q4⟩ | ⟨b0, q3, q4⟩
        rotate_left
        · refine ⟨[], fun b blk hb => (by cases hb), ?_⟩
          rw [← hcg, free_any (L' := heapOf H0 (bitM ms i) rest) q3]
          exact hstep.2
        · refine ⟨heapOf H0 D rs, fun b blk hb => by rw [hI.H, ← heapOf_get]; exact hb, ?_⟩
          rw [← hcg]
          refine addr_ver q3 (fun b blk hb => ?_) hstep.2
          have hb0 := hb
          rw [heapOf_get, ← hF_lt (pre := pre) g2 g10 g9, ← g1] at hb
          rw [heapOf_get]
          rcases hF_pick (H := hget H0) (D := D) (D' := fun j => decide (j < i) && bitM ms i j) (b := b) (rs := rs) (fun x hx _ hd => by
              rw [Bool.and_eq_true, decide_eq_true_eq] at hd
              exact hpred x hx hd.1 hd.2) with k | ⟨x, hx, k1, k2, k3, k4⟩
          · exact ⟨blk, by rw [k, hb], rfl⟩
          · have hu : Unord ms i x.i := by
              rcases Nat.lt_trichotomy x.i i with q | q | q
              · rw [decide_eq_true q, Bool.true_and] at k2
                exact ⟨by omega, by rw [if_pos q]; exact k2⟩
              · rw [q, hDi] at k1; cases k1
              · exact hun x hx q k1
            have hnew : ¬ (x.base ≤ b ∧ b < x.base + x.eff.new.length) := by
              rintro ⟨n1, n2⟩
              rcases Nat.lt_trichotomy x.i i with q | q | q
              · have hxr : x ∈ rest := by
                  have hx' : x ∈ pre ++ r :: rest := g1 ▸ hx
                  rcases List.mem_append.1 hx' with q' | q'
                  · have := g9 x q'; omega
                  · cases q' with
                    | head => omega
                    | tail _ q' => exact q'
                have := hwf.unseen ho h0 hwr i pre r rest g1 g2 x hxr b n1 n2 (by rw [hb0]; rfl)
                rw [decide_eq_true q, Bool.true_and, this] at k2
                cases k2
              · rw [q, hDi] at k1; cases k1
              · have h1 := hdomr b (by rw [hb0]; rfl)
                have h2 := hwf.sep r hrmem x hx (by omega)
                omega
            have hin : b ∈ x.eff.wr.map (·.1) := k3.resolve_right hnew
            have hval := k4 (fun _ => none)
            unfold applyF at hval
            rw [newsF_get, if_neg hnew] at hval
            obtain ⟨y, hy⟩ := setsF_in hin
            rw [hy] at hval
            obtain ⟨p, p1, p2, p3⟩ := setsF_val hin (hy fun _ => none)
            refine ⟨y, hval, ?_⟩
            have := q4 x hx (by rw [g2]; exact hu) p p1 blk (by rw [p2, g2]; exact hb0)
            rw [this, p3]
        · refine ⟨hrem (heapOf H0 (bitM ms r.i) rest) (xids ms r.i rs), fun b blk hb => ?_, ?_⟩
          · rw [hrem_get] at hb
            split at hb
            · cases hb
            · rename_i hX
              rw [g2] at hb hX
              exact hsub b blk hb (by simpa using hX)
          · rw [← hcg]
            rw [load_same q3 (show hget (hrem (heapOf H0 (bitM ms r.i) rest) (xids ms r.i rs)) b0 = hget (heapOf H0 (bitM ms r.i) rest) b0 by rw [hrem_get, if_neg (by rw [q4]; simp)]), g2]
            exact hstep.2
        · refine ⟨hrem (heapOf H0 (bitM ms r.i) rest) (xids ms r.i rs), fun b blk hb => ?_, ?_⟩
          · rw [hrem_get] at hb
            split at hb
            · cases hb
            · rename_i hX
              rw [g2] at hb hX
              exact hsub b blk hb (by simpa using hX)
          · rw [← hcg]
            exact q3
    obtain ⟨L, hL, hopE⟩ := hop
    refine opE_sound hc hI.R hL hI.t hopE hfr _ _ fun cv E' h1 h2 h3 h4 h5 h6 h7 h8 => ?_
    refine hK E' _ ⟨by rw [h3, hhadd, hI.H], hput h4 h6, h5, hI.x.trans h4, h2.trans hI.O, hI.bel.trans (by have := h7; rwa [hI.x.B] at this), hfresh' E' h8, hdf cv⟩
end
end
end Go.Proofs.Ytifgifhbefhkmaa.VM
