/- The machine of values: what is handed to a call, and what comes back. No conditions. -/
import Derived.Test.YtifgifhbefhkmaaVMm
namespace Go.Proofs.Ytifgifhbefhkmaa.VM
set_option linter.unusedSimpArgs false
set_option linter.unusedVariables false
open Go Go.RowKit
noncomputable section

def mapRL (f : V → Option (V × List Nat)) : List V → Option (List V × List Nat)
  | [] => some ([], [])
  | v :: r => match f v, mapRL f r with
    | some (x, a), some (xs, b) => some (x :: xs, a ++ b)
    | _, _ => none
/-- A value as it stands now, with all that it leads to; the blocks that were looked at. -/
def reify (L : Heap) (res : Bool) : Nat → V → Option (V × List Nat)
  | 0, _ => none
  | n + 1, v => match v with
    | .int k i => some (.int k i, [])
    | .bool b => some (.bool b, [])
    | .str s => some (.str s, [])
    | .nilIface => some (.nilIface, [])
    | .nilFunc => some (.nilFunc, [])
    | .nilPtr => some (.nilPtr, [])
    | .nilSl => some (.nilSl, [])
    | .agg cs => (mapRL (reify L res n) cs).map fun p => (.agg p.1, p.2)
    | .tup cs => (mapRL (reify L res n) cs).map fun p => (.tup p.1, p.2)
    | .iface t v => (reify L res n v).map fun p => (.iface t p.1, p.2)
    | .func fn f c => match mapRL (reify L res n) f, mapRL (reify L res n) c with
      | some (f', a), some (c', b) => some (.func fn f' c', a ++ b)
      | _, _ => none
    | .ptrI fr cs => (mapRL (reify L res n) cs).map fun p => (.ptrI (fr && res) p.1, p.2)
    | .slI fr cs m tight => (mapRL (reify L res n) cs).map fun p => (.slI (fr && res) p.1 m tight, p.2)
    | .ptrB b off ver => match hget L b with
      | some blk => if blk.ver = ver then (mapRL (reify L res n) (blk.cells.drop off)).map fun p => (.ptrI res p.1, b :: p.2) else none
      | none => none
    | .slB b off ver m => match hget L b with
      | some blk => if blk.ver = ver ∧ off + m * blk.k ≤ blk.cells.length then
          (mapRL (reify L res n) ((blk.cells.drop off).take (m * blk.k))).map fun p => (.slI res p.1 m false, b :: p.2) else none
      | none => none

/-- Where what was looked at may be read. -/
structure Reads (L : Heap) (E A : Env) (res : Bool) (rs : List Nat) : Prop where
  w : A.w = E.w
  S : ∀ c, E.S c → A.S c
  rs : ∀ b, b ∈ rs → ∀ blk e c o, hget L b = some blk → E.ρ b = some e → e.pos = some (c, o) → A.S c
  B : res = true → A.B = E.B
theorem Reads.sub {L : Heap} {E A : Env} {res : Bool} {rs rs' : List Nat} (h : Reads L E A res rs) (hs : ∀ b, b ∈ rs' → b ∈ rs) : Reads L E A res rs' := ⟨h.w, h.S, fun b hb => h.rs b (hs b hb), h.B⟩

theorem mapRL_rel {L : Heap} {E A : Env} {res : Bool} {f : V → Option (V × List Nat)} (hf : ∀ v v' rs c, f v = some (v', rs) → Rel E v c → Reads L E A res rs → Rel A v' c) :
    ∀ {vs vs' : List V} {rs : List Nat} {cs : List Value}, mapRL f vs = some (vs', rs) → RelL E vs cs → Reads L E A res rs → RelL A vs' cs
  | _, vs', rs, _, h, .nil, _ => by
    simp only [mapRL, Option.some.injEq, Prod.mk.injEq] at h
    obtain ⟨rfl, rfl⟩ := h
    exact .nil
  | v :: vs, vs', rs, _, h, .cons r s, hr => by
    simp only [mapRL] at h
    cases h1 : f v with
    | none => rw [h1] at h; cases h
    | some p =>
      obtain ⟨x, a⟩ := p
      cases h2 : mapRL f vs with
      | none => rw [h1, h2] at h; cases h
      | some q =>
        obtain ⟨xs, b⟩ := q
        rw [h1, h2] at h
        simp only [Option.some.injEq, Prod.mk.injEq] at h
        obtain ⟨rfl, rfl⟩ := h
        exact .cons (hf v x a _ h1 r (hr.sub fun i hi => List.mem_append_left _ hi)) (mapRL_rel hf h2 s (hr.sub fun i hi => List.mem_append_right _ hi))

theorem map_some {α β : Type} {o : Option α} {f : α → β} {b : β} (h : o.map f = some b) : ∃ a, o = some a ∧ f a = b := by
  cases o with
  | none => cases h
  | some a => exact ⟨a, rfl, by simpa using h⟩

theorem reify_rel {E A : Env} {L : Heap} {res : Bool} (hR : HRel E) (hL : Sub L E) : ∀ (n : Nat) (v v' : V) (rs : List Nat) (c : Value), reify L res n v = some (v', rs) → Rel E v c → Reads L E A res rs → Rel A v' c
  | 0, _, _, _, _, h, _, _ => by cases h
  | n + 1, v, v', rs, c, h, r, hr => by
    have ih := fun v v' rs c => reify_rel (A := A) (res := res) hR hL n v v' rs c
    have ihl := fun {vs vs' : List V} {rs : List Nat} {cs : List Value} => mapRL_rel (L := L) (E := E) (A := A) (res := res) (f := reify L res n) (fun v v' rs c h1 h2 h3 => ih v v' rs c h1 h2 h3) (vs := vs) (vs' := vs') (rs := rs) (cs := cs)
    have cellA : ∀ {cvs : List Value} {c o : Nat}, (∀ (i : Nat) (v : Value), cvs[i]? = some v → E.w.cell? ⟨c, o + i, none⟩ = some v) → ∀ (i : Nat) (v : Value), cvs[i]? = some v → A.w.cell? ⟨c, o + i, none⟩ = some v := by
      intro cvs c o hc i v hv
      rw [hr.w]
      exact hc i v hv
    cases r <;> simp only [reify] at h
    case int => cases h; exact .int _ _
    case bool => cases h; exact .bool _
    case str => cases h; exact .str _
    case nilIface => cases h; exact .nilIface
    case nilFunc => cases h; exact .nilFunc
    case nilPtr => cases h; exact .nilPtr
    case nilSl => cases h; exact .nilSl
    case agg s =>
      obtain ⟨p, h1, h2⟩ := map_some h
      simp only [Prod.mk.injEq] at h2
      obtain ⟨rfl, rfl⟩ := h2
      exact .agg (ihl h1 s hr)
    case tup s =>
      obtain ⟨p, h1, h2⟩ := map_some h
      simp only [Prod.mk.injEq] at h2
      obtain ⟨rfl, rfl⟩ := h2
      exact .tup (ihl h1 s hr)
    case iface s =>
      obtain ⟨p, h1, h2⟩ := map_some h
      simp only [Prod.mk.injEq] at h2
      obtain ⟨rfl, rfl⟩ := h2
      exact .iface _ (ih _ _ _ _ h1 s hr)
    case func s1 s2 =>
      split at h
      · rename_i f' a c' b h1 h2
        simp only [Option.some.injEq, Prod.mk.injEq] at h
        obtain ⟨rfl, rfl⟩ := h
        exact .func _ (ihl h1 s1 (hr.sub fun i hi => List.mem_append_left _ hi)) (ihl h2 s2 (hr.sub fun i hi => List.mem_append_right _ hi))
      · cases h
    case ptrI hs hf s hc =>
      obtain ⟨p, h1, h2⟩ := map_some h
      simp only [Prod.mk.injEq] at h2
      obtain ⟨rfl, rfl⟩ := h2
      refine .ptrI (hr.S _ hs) (fun q => ?_) (ihl h1 s hr) (cellA hc)
      simp only [Bool.and_eq_true] at q
      rw [hr.B q.2]
      exact hf q.1
    case slI0 q =>
      obtain ⟨p, h1, h2⟩ := map_some h
      simp only [mapRL, Option.some.injEq] at h1
      subst h1
      simp only [Prod.mk.injEq] at h2
      obtain ⟨rfl, rfl⟩ := h2
      exact .slI0 q
    case slI hs hf hn ht hc s =>
      obtain ⟨p, h1, h2⟩ := map_some h
      simp only [Prod.mk.injEq] at h2
      obtain ⟨rfl, rfl⟩ := h2
      refine .slI (hr.S _ hs) (fun q => ?_) hn ht (ihl h1 (by first | exact s | exact hc) hr) (cellA (by first | exact hc | exact s))
      simp only [Bool.and_eq_true] at q
      rw [hr.B q.2]
      exact hf q.1
    case ptrB he hv hp =>
      split at h
      · rename_i blk hb
        split at h
        · rename_i hver
          obtain ⟨p, h1, h2⟩ := map_some h
          simp only [Prod.mk.injEq] at h2
          obtain ⟨rfl, rfl⟩ := h2
          obtain ⟨e', he', hl⟩ := hR.at_ _ blk (hL _ blk hb)
          rw [he] at he'
          cases he'
          obtain ⟨c', o', hpos, rfl⟩ := hp (hl.1.trans hver)
          obtain ⟨cvs, g1, g2⟩ := block_cells hl hpos
          refine .ptrI (hr.rs _ (List.mem_cons_self ..) _ _ _ _ hb he hpos) (fun q => by rw [hr.B q]; exact (hl.lt hpos).1) (ihl h1 (g1.drop _) (hr.sub fun i hi => List.mem_cons_of_mem _ hi)) (cellA fun i v hv => ?_)
          rw [List.getElem?_drop] at hv
          have := g2 _ v hv
          rwa [← Nat.add_assoc] at this
        · cases h
      · cases h
    case slB he hv hp =>
      split at h
      · rename_i blk hb
        split at h
        · rename_i hcond
          obtain ⟨p, h1, h2⟩ := map_some h
          simp only [Prod.mk.injEq] at h2
          obtain ⟨rfl, rfl⟩ := h2
          obtain ⟨e', he', hl⟩ := hR.at_ _ blk (hL _ blk hb)
          rw [he] at he'
          cases he'
          obtain ⟨_, hq⟩ := hp (hl.1.trans hcond.1)
          rcases hq with ⟨c', o', hpos, rfl, q1, q2⟩ | ⟨hpos, rfl, rfl, rfl⟩
          · obtain ⟨cvs, g1, g2⟩ := block_cells hl hpos
            refine .slI (hr.rs _ (List.mem_cons_self ..) _ _ _ _ hb he hpos) (fun q => by rw [hr.B q]; exact (hl.lt hpos).1) q1 (fun q => by cases q) (ihl h1 ((g1.drop _).take _) (hr.sub fun i hi => List.mem_cons_of_mem _ hi)) (cellA fun i v hv => ?_)
            rw [List.getElem?_take] at hv
            split at hv
            · rw [List.getElem?_drop] at hv
              have := g2 _ v hv
              rwa [← Nat.add_assoc] at this
            · cases hv
          · simp only [Nat.zero_mul, List.take_zero, mapRL, Option.some.injEq] at h1
            subst h1
            exact .slI0 fun q => by cases q
        · cases h
      · cases h

/-- Does a value lead to memory that is not new? -/
def aliasL (f : V → Bool) : List V → Bool
  | [] => false
  | v :: r => f v || aliasL f r
def alias : Nat → V → Bool
  | 0, _ => true
  | n + 1, v => match v with
    | .agg cs => aliasL (alias n) cs
    | .tup cs => aliasL (alias n) cs
    | .iface _ v => alias n v
    | .func _ f c => aliasL (alias n) f || aliasL (alias n) c
    | .ptrI fr cs => !fr || aliasL (alias n) cs
    | .slI fr cs m _ => if cs.isEmpty && m == 0 then false else !fr || aliasL (alias n) cs
    | _ => false

/-- From what a call handed back to the caller: what may be read. -/
structure Goes (R E : Env) (al : Bool) : Prop where
  w : E.w = R.w
  S : ∀ c, R.S c → (al = true ∨ R.B ≤ c) → E.S c
  B : E.B ≤ R.B

mutual
/-- A value without blocks of the callee's. -/
theorem Rel.goes {R E : Env} {al : Bool} (hg : Goes R E al) (hρ : ∀ b e, R.ρ b = some e → E.ρ b = some e) : ∀ {v : V} {c : Value}, Rel R v c → (al = true ∨ ∃ n, alias n v = false) → Rel E v c
  | _, _, .int k n, _ => .int k n
  | _, _, .bool b, _ => .bool b
  | _, _, .str s, _ => .str s
  | _, _, .agg r, h => .agg (RelL.goes hg hρ r (h.imp id fun ⟨n, q⟩ => by cases n with | zero => cases q | succ n => exact ⟨n, q⟩))
  | _, _, .tup r, h => .tup (RelL.goes hg hρ r (h.imp id fun ⟨n, q⟩ => by cases n with | zero => cases q | succ n => exact ⟨n, q⟩))
  | _, _, .iface t r, h => .iface t (Rel.goes hg hρ r (h.imp id fun ⟨n, q⟩ => by cases n with | zero => cases q | succ n => exact ⟨n, q⟩))
  | _, _, .nilIface, _ => .nilIface
  | _, _, .func fn r s, h => .func fn
      (RelL.goes hg hρ r (h.imp id fun ⟨n, q⟩ => by cases n with | zero => cases q | succ n => simp only [alias, Bool.or_eq_false_iff] at q; exact ⟨n, q.1⟩))
      (RelL.goes hg hρ s (h.imp id fun ⟨n, q⟩ => by cases n with | zero => cases q | succ n => simp only [alias, Bool.or_eq_false_iff] at q; exact ⟨n, q.2⟩))
  | _, _, .nilFunc, _ => .nilFunc
  | _, _, .nilPtr, _ => .nilPtr
  | _, _, .ptrI (fr := fr) hs hf r hc, h => by
    have h1 : al = true ∨ (fr = true ∧ ∃ n, aliasL (alias n) _ = false) := h.imp id fun ⟨n, q⟩ => by
      cases n with
      | zero => cases q
      | succ n => simp only [alias, Bool.or_eq_false_iff, Bool.not_eq_false'] at q; exact ⟨q.1, n, q.2⟩
    refine .ptrI (hg.S _ hs (h1.imp id fun q => hf q.1)) (fun q => Nat.le_trans hg.B (hf q)) (RelL.goes hg hρ r (h1.imp id And.right)) (fun i v hv => ?_)
    rw [hg.w]
    exact hc i v hv
  | _, _, .ptrB he hv hp, _ => .ptrB (hρ _ _ he) hv hp
  | _, _, .nilSl, _ => .nilSl
  | _, _, .slI0 q, _ => .slI0 q
  | _, _, .slI (fr := fr) (cs := cs) (n := m) hs hf hn ht r hc, h => by
    by_cases h0 : (cs.isEmpty && m == 0) = true
    · simp only [Bool.and_eq_true, List.isEmpty_iff, beq_iff_eq] at h0
      obtain ⟨rfl, rfl⟩ := h0
      exact .slI0 ht
    · have h1 : al = true ∨ (fr = true ∧ ∃ n, aliasL (alias n) cs = false) := h.imp id fun ⟨n, q⟩ => by
        cases n with
        | zero => cases q
        | succ n => simp only [alias, h0, Bool.false_eq_true, if_false, Bool.or_eq_false_iff, Bool.not_eq_false'] at q; exact ⟨q.1, n, q.2⟩
      refine .slI (hg.S _ hs (h1.imp id fun q => hf q.1)) (fun q => Nat.le_trans hg.B (hf q)) hn ht (RelL.goes hg hρ r (h1.imp id And.right)) (fun i v hv => ?_)
      rw [hg.w]
      exact hc i v hv
  | _, _, .slB he hv hp, _ => .slB (hρ _ _ he) hv hp
theorem RelL.goes {R E : Env} {al : Bool} (hg : Goes R E al) (hρ : ∀ b e, R.ρ b = some e → E.ρ b = some e) : ∀ {v : List V} {c : List Value}, RelL R v c → (al = true ∨ ∃ n, aliasL (alias n) v = false) → RelL E v c
  | _, _, .nil, _ => .nil
  | _, _, .cons r s, h => .cons
      (Rel.goes hg hρ r (h.imp id fun ⟨n, q⟩ => by simp only [aliasL, Bool.or_eq_false_iff] at q; exact ⟨n, q.1⟩))
      (RelL.goes hg hρ s (h.imp id fun ⟨n, q⟩ => by simp only [aliasL, Bool.or_eq_false_iff] at q; exact ⟨n, q.2⟩))
end

theorem newsF_get : ∀ (l : List Blk) (base : Nat) (H : Nat → Option Blk) (b : Nat), newsF l base H b = if base ≤ b ∧ b < base + l.length then l[b - base]? else H b
  | [], base, H, b => by rw [newsF, if_neg (by simp)]
  | x :: r, base, H, b => by
    rw [newsF, newsF_get r]
    by_cases h1 : base + 1 ≤ b ∧ b < base + 1 + r.length
    · rw [if_pos h1, if_pos (by simp; omega)]
      rw [show b - base = (b - (base + 1)) + 1 from by omega]
      rfl
    · rw [if_neg h1]
      unfold updF
      by_cases h2 : b = base
      · rw [if_pos h2, if_pos (by simp; omega), h2, Nat.sub_self]
        rfl
      · rw [if_neg h2, if_neg (by simp; omega)]

/-- What a call on its own promises. -/
def IsoSound (P : Program) (f : FuncId) (base : Nat) (vs : List V) (rv : V) (blks : List Blk) : Prop :=
  ∀ (w : World) (O : Nat → Prop) (cargs : List Value), RelL ⟨w, fun _ => none, fun _ => none, w.heap.size, O⟩ vs cargs →
    Calls P f cargs.toArray w (fun e w' => ∃ cv ρ, e = .returned cv ∧ Below w.heap.size w w' ∧ HRel ⟨w', newsF blks base (fun _ => none), ρ, w.heap.size, O⟩ ∧
      Rel ⟨w', newsF blks base (fun _ => none), ρ, w.heap.size, O⟩ rv cv ∧ ∀ b, ρ b ≠ none → base ≤ b ∧ b < base + blks.length)

def freezeL (L : Heap) : List Nat → Option (List (Nat × Blk))
  | [] => some []
  | b :: r => match hget L b, freezeL L r with
    | some blk, some l => some ((b, { blk with fz := true }) :: l)
    | _, _ => none
theorem freeze_env {L : Heap} : ∀ {rs : List Nat} {wr : List (Nat × Blk)} {E : Env}, HRel E → (∀ b blk, hget L b = some blk → E.H b = some blk ∨ E.H b = some { blk with fz := true }) → freezeL L rs = some wr →
    Ext E { E with H := setsF wr E.H } ∧ HRel { E with H := setsF wr E.H } ∧ (∀ b, b ∈ rs → ∃ blk, setsF wr E.H b = some blk ∧ blk.fz = true) ∧
      (∀ b blk, setsF wr E.H b = some blk → E.H b = some blk ∨ blk.fz = true)
  | [], wr, E, hR, _, h => by
    simp only [freezeL, Option.some.injEq] at h
    subst h
    exact ⟨Ext.refl E, hR, (fun b hb => nomatch hb), fun b blk h => Or.inl h⟩
  | b :: r, wr, E, hR, hL, h => by
    simp only [freezeL] at h
    cases h1 : hget L b with
    | none => rw [h1] at h; cases h
    | some blk =>
      cases h2 : freezeL L r with
      | none => rw [h1, h2] at h; cases h
      | some l =>
        rw [h1, h2] at h
        simp only [Option.some.injEq] at h
        subst h
        have hx : Ext E { E with H := updF E.H b { blk with fz := true } } ∧ HRel { E with H := updF E.H b { blk with fz := true } } := by
          rcases hL b blk h1 with q | q
          · exact ext_freeze hR q
          · exact ext_freeze (blk := { blk with fz := true }) hR q
        have hL' : ∀ b' blk', hget L b' = some blk' → updF E.H b { blk with fz := true } b' = some blk' ∨ updF E.H b { blk with fz := true } b' = some { blk' with fz := true } := by
          intro b' blk' hb'
          unfold updF
          by_cases q : b' = b
          · subst q
            rw [h1] at hb'
            cases hb'
            exact .inr (by simp)
          · simp only [q, if_false]
            exact hL b' blk' hb'
        obtain ⟨g1, g2, g3, g4⟩ := freeze_env (E := { E with H := updF E.H b { blk with fz := true } }) hx.2 hL' h2
        refine ⟨hx.1.trans g1, g2, fun b' hb' => ?_, fun b' blk' hb' => ?_⟩
        · by_cases q : b' ∈ r
          · exact g3 b' q
          · have hb : b' = b := by
              cases hb' with
              | head => rfl
              | tail _ q' => exact absurd q' q
            subst hb
            have hnr : ∀ (l : List (Nat × Blk)) (H : Nat → Option Blk), (∀ p ∈ l, p.1 ≠ b') → setsF l H b' = H b' := by
              intro l
              induction l with
              | nil => intro H _; rfl
              | cons p l ih =>
                intro H hp
                obtain ⟨j, x⟩ := p
                rw [setsF, ih _ fun p hp' => hp p (List.mem_cons_of_mem _ hp')]
                unfold updF
                rw [if_neg fun e => hp (j, x) (List.mem_cons_self ..) e.symm]
            have hl : ∀ {r : List Nat} {l : List (Nat × Blk)}, freezeL L r = some l → ∀ p ∈ l, p.1 ∈ r := by
              intro r
              induction r with
              | nil => intro l h p hp; simp only [freezeL, Option.some.injEq] at h; subst h; cases hp
              | cons b0 r ih =>
                intro l h p hp
                simp only [freezeL] at h
                cases q1 : hget L b0 with
                | none => rw [q1] at h; cases h
                | some x =>
                  cases q2 : freezeL L r with
                  | none => rw [q1, q2] at h; cases h
                  | some l' =>
                    rw [q1, q2] at h
                    simp only [Option.some.injEq] at h
                    subst h
                    cases hp with
                    | head => exact List.mem_cons_self ..
                    | tail _ hp => exact List.mem_cons_of_mem _ (ih q2 p hp)
            refine ⟨{ blk with fz := true }, ?_, rfl⟩
            show setsF l (updF E.H b' { blk with fz := true }) b' = _
            rw [hnr l _ fun p hp e => q (e ▸ hl h2 p hp)]
            simp [updF]
        · rcases g4 b' blk' hb' with q | q
          · simp only [updF] at q
            by_cases e : b' = b
            · simp only [e, if_true, Option.some.injEq] at q
              subst q
              exact .inr rfl
            · simp only [e, if_false] at q
              exact .inl q
          · exact .inr q

/-- The caller's environment behind a call. -/
def backEnv (E1 : Env) (w' : World) (blks : List Blk) (base : Nat) (ρ : Nat → Option RE) : Env :=
  ⟨w', newsF blks base E1.H, fun b => match ρ b with | some e => some e | none => E1.ρ b, E1.B, E1.O⟩
theorem back_env {E1 : Env} (hR1 : HRel E1) {w' : World} {blks : List Blk} {base : Nat} {ρ : Nat → Option RE} {O : Nat → Prop} {al : Bool}
    (hb : Below E1.w.heap.size E1.w w') (hR : HRel ⟨w', newsF blks base (fun _ => none), ρ, E1.w.heap.size, O⟩) (hρ : ∀ b, ρ b ≠ none → base ≤ b ∧ b < base + blks.length)
    (hfresh : ∀ b, base ≤ b → b < base + blks.length → E1.ρ b = none) (hO : al = true → ∀ c, O c → E1.S c) (hal : al = true ∨ ∀ blk ∈ blks, ∃ n, aliasL (alias n) blk.cells = false) :
    Ext E1 (backEnv E1 w' blks base ρ) ∧ HRel (backEnv E1 w' blks base ρ) ∧ Below E1.B E1.w w' ∧
      ∀ v c, (al = true ∨ ∃ n, alias n v = false) → Rel ⟨w', newsF blks base (fun _ => none), ρ, E1.w.heap.size, O⟩ v c → Rel (backEnv E1 w' blks base ρ) v c := by
  have hin : ∀ b blk, newsF blks base (fun _ => none) b = some blk → base ≤ b ∧ b < base + blks.length := by
    intro b blk h
    rw [newsF_get] at h
    split at h
    · assumption
    · cases h
  have hout : ∀ b, ¬ (base ≤ b ∧ b < base + blks.length) → ρ b = none := by
    intro b h
    cases hq : ρ b with
    | none => rfl
    | some e => exact absurd (hρ b (by rw [hq]; simp)) h
  have hH : ∀ b, (base ≤ b ∧ b < base + blks.length) → newsF blks base E1.H b = newsF blks base (fun _ => none) b := by
    intro b h
    rw [newsF_get, newsF_get, if_pos h, if_pos h]
  have hH2 : ∀ b, ¬ (base ≤ b ∧ b < base + blks.length) → newsF blks base E1.H b = E1.H b := by
    intro b h
    rw [newsF_get, if_neg h]
  have hS : ∀ c, E1.S c → (backEnv E1 w' blks base ρ).S c := by
    intro c hs
    refine ⟨Nat.lt_of_lt_of_le hs.1 hb.size, hs.2.1, fun b blk e o h1 h2 h3 h4 => ?_⟩
    simp only [backEnv] at h1 h3
    by_cases hbr : base ≤ b ∧ b < base + blks.length
    · rw [hH b hbr] at h1
      obtain ⟨e', he', hl⟩ := hR.at_ b blk h1
      have he2 : ρ b = some e' := he'
      rw [he2] at h3
      cases h3
      have := (hl.lt h4).1
      have := hs.1
      simp only at *
      omega
    · rw [hH2 b hbr] at h1
      rw [hout b hbr] at h3
      exact hs.2.2 b blk e o h1 h2 h3 h4
  have hx : Ext E1 (backEnv E1 w' blks base ρ) := by
    refine ⟨rfl, fun c o v hs hv => ?_, hS, fun b e he => ⟨e, ?_, .inl rfl⟩⟩
    · show w'.cell? _ = _
      rw [cell_of_heap (hb.block c hs.1)]
      exact hv
    · simp only [backEnv]
      rw [hout b fun q => by rw [hfresh b q.1 q.2] at he; cases he]
      exact he
  have hg : Goes ⟨w', newsF blks base (fun _ => none), ρ, E1.w.heap.size, O⟩ (backEnv E1 w' blks base ρ) al := by
    refine ⟨rfl, fun c hs hc => ?_, hR1.le⟩
    by_cases hc2 : E1.w.heap.size ≤ c
    · refine ⟨hs.1, fun q => ?_, fun b blk e o h1 h2 h3 h4 => ?_⟩
      · have := hR1.le
        have q' : c < E1.B := q
        omega
      · simp only [backEnv] at h1 h3
        by_cases hbr : base ≤ b ∧ b < base + blks.length
        · rw [hH b hbr] at h1
          obtain ⟨e', he', hl⟩ := hR.at_ b blk h1
          have he2 : ρ b = some e' := he'
          rw [he2] at h3
          cases h3
          exact hs.2.2 b blk _ o h1 h2 he' h4
        · rw [hH2 b hbr] at h1
          rw [hout b hbr] at h3
          obtain ⟨e', he', hl⟩ := hR1.at_ b blk h1
          rw [he'] at h3
          cases h3
          have := (hl.lt h4).2
          omega
    · rcases hc with hc | hc
      · exact hS c (hO hc c (hs.2.1 (by show c < E1.w.heap.size; omega)))
      · exact absurd hc hc2
  have hgo := fun (v : V) (c : Value) (h : al = true ∨ ∃ n, alias n v = false) r => Rel.goes hg (fun b e he => by simp only [backEnv]; have he' : ρ b = some e := he; rw [he']) (v := v) (c := c) r h
  have hgoL := fun (v : List V) (c : List Value) (h : al = true ∨ ∃ n, aliasL (alias n) v = false) r => RelL.goes hg (fun b e he => by simp only [backEnv]; have he' : ρ b = some e := he; rw [he']) (v := v) (c := c) r h
  refine ⟨hx, ⟨fun b blk h1 => ?_, fun b b' blk blk' e e' c o o' h1 h2 h3 h4 h5 h6 => ?_, Nat.le_trans hR1.le hb.size⟩, hb.mono hR1.le, hgo⟩
  · simp only [backEnv] at h1
    by_cases hbr : base ≤ b ∧ b < base + blks.length
    · rw [hH b hbr] at h1
      obtain ⟨e', he', hl⟩ := hR.at_ b blk h1
      have he2 : ρ b = some e' := he'
      refine ⟨e', by simp only [backEnv, he2], hl.1, hl.2.1, ?_⟩
      have hl3 := hl.2.2
      revert hl3
      cases hp : e'.pos with
      | none => exact id
      | some p =>
        obtain ⟨c, o⟩ := p
        rintro ⟨g1, arr, el, lo, hi, g2, g3, g4, g5, g6⟩
        refine ⟨Nat.le_trans hR1.le g1, arr, el, lo, hi, g2, g3, g4, g5, hgoL _ _ (hal.imp id fun q => ?_) g6⟩
        have hm : blk ∈ blks := by
          rw [newsF_get, if_pos hbr] at h1
          exact List.mem_of_getElem? h1
        exact q blk hm
    · rw [hH2 b hbr] at h1
      obtain ⟨e', he', hl⟩ := hR1.at_ b blk h1
      refine ⟨e', by simp only [backEnv, hout b hbr]; exact he', hl.mono hx fun c o hp => hb.block c (hl.lt hp).2⟩
  · simp only [backEnv] at h1 h2 h3 h4
    have old : ∀ {b : Nat} {blk : Blk} {e : RE} {o : Nat}, ¬ (base ≤ b ∧ b < base + blks.length) → newsF blks base E1.H b = some blk → (match ρ b with | some e => some e | none => E1.ρ b) = some e → e.pos = some (c, o) → c < E1.w.heap.size ∧ E1.H b = some blk ∧ E1.ρ b = some e := by
      intro b blk e o hbr g1 g2 g3
      rw [hH2 b hbr] at g1
      rw [hout b hbr] at g2
      obtain ⟨e', he', hl⟩ := hR1.at_ b blk g1
      have g2' : E1.ρ b = some e := g2
      rw [he'] at g2'
      cases g2'
      exact ⟨(hl.lt g3).2, g1, he'⟩
    have new : ∀ {b : Nat} {blk : Blk} {e : RE} {o : Nat}, (base ≤ b ∧ b < base + blks.length) → newsF blks base E1.H b = some blk → (match ρ b with | some e => some e | none => E1.ρ b) = some e → e.pos = some (c, o) →
        E1.w.heap.size ≤ c ∧ newsF blks base (fun _ => none) b = some blk ∧ ρ b = some e := by
      intro b blk e o hbr g1 g2 g3
      rw [hH b hbr] at g1
      obtain ⟨e', he', hl⟩ := hR.at_ b blk g1
      have he2 : ρ b = some e' := he'
      rw [he2] at g2
      cases g2
      exact ⟨(hl.lt g3).1, g1, he2⟩
    by_cases hb1 : base ≤ b ∧ b < base + blks.length <;> by_cases hb2 : base ≤ b' ∧ b' < base + blks.length
    · obtain ⟨_, q1, q2⟩ := new hb1 h1 h3 h5
      obtain ⟨_, q3, q4⟩ := new hb2 h2 h4 h6
      exact hR.inj b b' blk blk' e e' c o o' q1 q3 q2 q4 h5 h6
    · have := (new hb1 h1 h3 h5).1
      have := (old hb2 h2 h4 h6).1
      omega
    · have := (old hb1 h1 h3 h5).1
      have := (new hb2 h2 h4 h6).1
      omega
    · obtain ⟨_, q1, q2⟩ := old hb1 h1 h3 h5
      obtain ⟨_, q3, q4⟩ := old hb2 h2 h4 h6
      exact hR1.inj b b' blk blk' e e' c o o' q1 q3 q2 q4 h5 h6
end
end Go.Proofs.Ytifgifhbefhkmaa.VM
