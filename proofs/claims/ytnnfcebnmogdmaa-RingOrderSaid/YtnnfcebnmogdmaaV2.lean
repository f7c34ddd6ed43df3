/- The machine of values: what is handed to a call, and what comes back. No conditions. -/
import Derived.Test.YtnnfcebnmogdmaaV1
/- The machine of values: what is handed to a call, and what comes back. No conditions. -/
namespace Go.Proofs.Ytnnfcebnmogdmaa.VM
set_option linter.unusedSimpArgs false
set_option linter.unusedVariables false
open Go Go.RowKit
noncomputable section

def mapRL (f : V → Option (V × List Nat)) : List V → Option (List V × List Nat)
  | [] => some ([], [])
  | v :: r => match f v, mapRL f r with
    | some (x, a), some (xs, b) => some (x :: xs, a ++ b)
    | _, _ => none
/-- A value as it stands now, with all that it leads to; the blocks that were looked at. -/
def reify (L : Heap) (res : Bool) : Nat → V → Option (V × List Nat)
  | 0, _ => none
  | n + 1, v => match v with
    | .int k i => some (.int k i, [])
    | .bool b => some (.bool b, [])
    | .str s => some (.str s, [])
    | .nilIface => some (.nilIface, [])
    | .nilFunc => some (.nilFunc, [])
    | .nilPtr => some (.nilPtr, [])
    | .nilSl => some (.nilSl, [])
    | .agg cs => (mapRL (reify L res n) cs).map fun p => (.agg p.1, p.2)
    | .tup cs => (mapRL (reify L res n) cs).map fun p => (.tup p.1, p.2)
    | .iface t v => (reify L res n v).map fun p => (.iface t p.1, p.2)
    | .func fn f c => match mapRL (reify L res n) f, mapRL (reify L res n) c with
      | some (f', a), some (c', b) => some (.func fn f' c', a ++ b)
      | _, _ => none
    | .ptrI fr cs => (mapRL (reify L res n) cs).map fun p => (.ptrI (fr && res) p.1, p.2)
    | .slI fr cs m tight => (mapRL (reify L res n) cs).map fun p => (.slI (fr && res) p.1 m tight, p.2)
    | .ptrB b off ver => match hget L b with
      | some blk => if blk.ver = ver then (mapRL (reify L res n) (blk.cells.drop off)).map fun p => (.ptrI res p.1, b :: p.2) else none
      | none => none
    | .slB b off ver m => match hget L b with
      | some blk => if blk.ver = ver ∧ off + m * blk.k ≤ blk.cells.length then
          (mapRL (reify L res n) ((blk.cells.drop off).take (m * blk.k))).map fun p => (.slI res p.1 m false, b :: p.2) else none
      | none => none

/-- Where what was looked at may be read. -/
structure Reads (L : Heap) (E A : Env) (res : Bool) (rs : List Nat) : Prop where
  w : A.w = E.w
  S : ∀ c, E.S c → A.S c
  rs : ∀ b, b ∈ rs → ∀ blk e c o, hget L b = some blk → E.ρ b = some e → e.pos = some (c, o) → A.S c
  B : res = true → A.B = E.B
theorem Reads.sub {L : Heap} {E A : Env} {res : Bool} {rs rs' : List Nat} (h : Reads L E A res rs) (hs : ∀ b, b ∈ rs' → b ∈ rs) : Reads L E A res rs' := ⟨h.w, h.S, fun b hb => h.rs b (hs b hb), h.B⟩

theorem mapRL_rel {L : Heap} {E A : Env} {res : Bool} {f : V → Option (V × List Nat)} (hf : ∀ v v' rs c, f v = some (v', rs) → Rel E v c → Reads L E A res rs → Rel A v' c) :
    ∀ {vs vs' : List V} {rs : List Nat} {cs : List Value}, mapRL f vs = some (vs', rs) → RelL E vs cs → Reads L E A res rs → RelL A vs' cs
  | _, vs', rs, _, h, .nil, _ => by
    simp only [mapRL, Option.some.injEq, Prod.mk.injEq] at h
    obtain ⟨rfl, rfl⟩ := h
    exact .nil
  | v :: vs, vs', rs, _, h, .cons r s, hr => by
    simp only [mapRL] at h
    cases h1 : f v with
    | none => rw [h1] at h; cases h
    | some p =>
      obtain ⟨x, a⟩ := p
      cases h2 : mapRL f vs with
      | none => rw [h1, h2] at h; cases h
      | some q =>
        obtain ⟨xs, b⟩ := q
        rw [h1, h2] at h
        simp only [Option.some.injEq, Prod.mk.injEq] at h
        obtain ⟨rfl, rfl⟩ := h
        exact .cons (hf v x a _ h1 r (hr.sub fun i hi => List.mem_append_left _ hi)) (mapRL_rel hf h2 s (hr.sub fun i hi => List.mem_append_right _ hi))

theorem map_some {α β : Type} {o : Option α} {f : α → β} {b : β} (h : o.map f = some b) : ∃ a, o = some a ∧ f a = b := by
  cases o with
  | none => cases h
  | some a => exact ⟨a, rfl, by simpa using h⟩

theorem reify_rel {E A : Env} {L : Heap} {res : Bool} (hR : HRel E) (hL : Sub L E) : ∀ (n : Nat) (v v' : V) (rs : List Nat) (c : Value), reify L res n v = some (v', rs) → Rel E v c → Reads L E A res rs → Rel A v' c
  | 0, _, _, _, _, h, _, _ => by cases h
  | n + 1, v, v', rs, c, h, r, hr => by
    have ih := fun v v' rs c => reify_rel (A := A) (res := res) hR hL n v v' rs c
    have ihl := fun {vs vs' : List V} {rs : List Nat} {cs : List Value} => mapRL_rel (L := L) (E := E) (A := A) (res := res) (f := reify L res n) (fun v v' rs c h1 h2 h3 => ih v v' rs c h1 h2 h3) (vs := vs) (vs' := vs') (rs := rs) (cs := cs)
    have cellA : ∀ {cvs : List Value} {c o : Nat}, (∀ (i : Nat) (v : Value), cvs[i]? = some v → E.w.cell? ⟨c, o + i, none⟩ = some v) → ∀ (i : Nat) (v : Value), cvs[i]? = some v → A.w.cell? ⟨c, o + i, none⟩ = some v := by
      intro cvs c o hc i v hv
      rw [hr.w]
      exact hc i v hv
    cases r <;> simp only [reify] at h
    case int => cases h; exact .int _ _
    case bool => cases h; exact .bool _
    case str => cases h; exact .str _
    case nilIface => cases h; exact .nilIface
    case nilFunc => cases h; exact .nilFunc
    case nilPtr => cases h; exact .nilPtr
    case nilSl => cases h; exact .nilSl
    case agg s =>
      obtain ⟨p, h1, h2⟩ := map_some h
      simp only [Prod.mk.injEq] at h2
      obtain ⟨rfl, rfl⟩ := h2
      exact .agg (ihl h1 s hr)
    case tup s =>
      obtain ⟨p, h1, h2⟩ := map_some h
      simp only [Prod.mk.injEq] at h2
      obtain ⟨rfl, rfl⟩ := h2
      exact .tup (ihl h1 s hr)
    case iface s =>
      obtain ⟨p, h1, h2⟩ := map_some h
      simp only [Prod.mk.injEq] at h2
      obtain ⟨rfl, rfl⟩ := h2
      exact .iface _ (ih _ _ _ _ h1 s hr)
    case func s1 s2 =>
      split at h
      · rename_i f' a c' b h1 h2
        simp only [Option.some.injEq, Prod.mk.injEq] at h
        obtain ⟨rfl, rfl⟩ := h
        exact .func _ (ihl h1 s1 (hr.sub fun i hi => List.mem_append_left _ hi)) (ihl h2 s2 (hr.sub fun i hi => List.mem_append_right _ hi))
      · cases h
    case ptrI hs hf s hc =>
      obtain ⟨p, h1, h2⟩ := map_some h
      simp only [Prod.mk.injEq] at h2
      obtain ⟨rfl, rfl⟩ := h2
      refine .ptrI (hr.S _ hs) (fun q => ?_) (ihl h1 s hr) (cellA hc)
      simp only [Bool.and_eq_true] at q
      rw [hr.B q.2]
      exact hf q.1
    case slI0 q =>
      obtain ⟨p, h1, h2⟩ := map_some h
      simp only [mapRL, Option.some.injEq] at h1
      subst h1
      simp only [Prod.mk.injEq] at h2
      obtain ⟨rfl, rfl⟩ := h2
      exact .slI0 q
    case slI hs hf hn ht hc s =>
      obtain ⟨p, h1, h2⟩ := map_some h
      simp only [Prod.mk.injEq] at h2
      obtain ⟨rfl, rfl⟩ := h2
      refine .slI (hr.S _ hs) (fun q => ?_) hn ht (ihl h1 (by first | exact s | exact hc) hr) (cellA (by first | exact hc | exact s))
      simp only [Bool.and_eq_true] at q
      rw [hr.B q.2]
      exact hf q.1
    case ptrB he hv hp =>
      split at h
      · rename_i blk hb
        split at h
        · rename_i hver
          obtain ⟨p, h1, h2⟩ := map_some h
          simp only [Prod.mk.injEq] at h2
          obtain ⟨rfl, rfl⟩ := h2
          obtain ⟨e', he', hl⟩ := hR.at_ _ blk (hL _ blk hb)
          rw [he] at he'
          cases he'
          obtain ⟨c', o', hpos, rfl⟩ := hp (hl.1.trans hver)
          obtain ⟨cvs, g1, g2⟩ := block_cells hl hpos
          refine .ptrI (hr.rs _ (List.mem_cons_self ..) _ _ _ _ hb he hpos) (fun q => by rw [hr.B q]; exact (hl.lt hpos).1) (ihl h1 (g1.drop _) (hr.sub fun i hi => List.mem_cons_of_mem _ hi)) (cellA fun i v hv => ?_)
          rw [List.getElem?_drop] at hv
          have := g2 _ v hv
          rwa [← Nat.add_assoc] at this
        · cases h
      · cases h
    case slB he hv hp =>
      split at h
      · rename_i blk hb
        split at h
        · rename_i hcond
          obtain ⟨p, h1, h2⟩ := map_some h
          simp only [Prod.mk.injEq] at h2
          obtain ⟨rfl, rfl⟩ := h2
          obtain ⟨e', he', hl⟩ := hR.at_ _ blk (hL _ blk hb)
          rw [he] at he'
          cases he'
          obtain ⟨_, hq⟩ := hp (hl.1.trans hcond.1)
          rcases hq with ⟨c', o', hpos, rfl, q1, q2⟩ | ⟨hpos, rfl, rfl, rfl⟩
          · obtain ⟨cvs, g1, g2⟩ := block_cells hl hpos
            refine .slI (hr.rs _ (List.mem_cons_self ..) _ _ _ _ hb he hpos) (fun q => by rw [hr.B q]; exact (hl.lt hpos).1) q1 (fun q => by cases q) (ihl h1 ((g1.drop _).take _) (hr.sub fun i hi => List.mem_cons_of_mem _ hi)) (cellA fun i v hv => ?_)
            rw [List.getElem?_take] at hv
            split at hv
            · rw [List.getElem?_drop] at hv
              have := g2 _ v hv
              rwa [← Nat.add_assoc] at this
            · cases hv
          · simp only [Nat.zero_mul, List.take_zero, mapRL, Option.some.injEq] at h1
            subst h1
            exact .slI0 fun q => by cases q
        · cases h
      · cases h

/-- Does a value lead to memory that is not new? -/
def aliasL (f : V → Bool) : List V → Bool
  | [] => false
  | v :: r => f v || aliasL f r
def alias : Nat → V → Bool
  | 0, _ => true
  | n + 1, v => match v with
    | .agg cs => aliasL (alias n) cs
    | .tup cs => aliasL (alias n) cs
    | .iface _ v => alias n v
    | .func _ f c => aliasL (alias n) f || aliasL (alias n) c
    | .ptrI fr cs => !fr || aliasL (alias n) cs
    | .slI fr cs m _ => if cs.isEmpty && m == 0 then false else !fr || aliasL (alias n) cs
    | _ => false

/-- From what a call handed back to the caller: what may be read. -/
structure Goes (R E : Env) (al : Bool) : Prop where
  w : E.w = R.w
  S : ∀ c, R.S c → (al = true ∨ R.B ≤ c) → E.S c
  B : E.B ≤ R.B

mutual
/-- A value without blocks of the callee's. -/
theorem Rel.goes {R E : Env} {al : Bool} (hg : Goes R E al) (hρ : ∀ b e, R.ρ b = some e → E.ρ b = some e) : ∀ {v : V} {c : Value}, Rel R v c → (al = true ∨ ∃ n, alias n v = false) → Rel E v c
  | _, _, .int k n, _ => .int k n
  | _, _, .bool b, _ => .bool b
  | _, _, .str s, _ => .str s
  | _, _, .agg r, h => .agg (RelL.goes hg hρ r (h.imp id fun ⟨n, q⟩ => by cases n with | zero => cases q | succ n => exact ⟨n, q⟩))
  | _, _, .tup r, h => .tup (RelL.goes hg hρ r (h.imp id fun ⟨n, q⟩ => by cases n with | zero => cases q | succ n => exact ⟨n, q⟩))
  | _, _, .iface t r, h => .iface t (Rel.goes hg hρ r (h.imp id fun ⟨n, q⟩ => by cases n with | zero => cases q | succ n => exact ⟨n, q⟩))
  | _, _, .nilIface, _ => .nilIface
  | _, _, .func fn r s, h => .func fn
      (RelL.goes hg hρ r (h.imp id fun ⟨n, q⟩ => by cases n with | zero => cases q | succ n => simp only [alias, Bool.or_eq_false_iff] at q; exact ⟨n, q.1⟩))
      (RelL.goes hg hρ s (h.imp id fun ⟨n, q⟩ => by cases n with | zero => cases q | succ n => simp only [alias, Bool.or_eq_false_iff] at q; exact ⟨n, q.2⟩))
  | _, _, .nilFunc, _ => .nilFunc
  | _, _, .nilPtr, _ => .nilPtr
  | _, _, .ptrI (fr := fr) hs hf r hc, h => by
    have h1 : al = true ∨ (fr = true ∧ ∃ n, aliasL (alias n) _ = false) := h.imp id fun ⟨n, q⟩ => by
      cases n with
      | zero => cases q
      | succ n => simp only [alias, Bool.or_eq_false_iff, Bool.not_eq_false'] at q; exact ⟨q.1, n, q.2⟩
    refine .ptrI (hg.S _ hs (h1.imp id fun q => hf q.1)) (fun q => Nat.le_trans hg.B (hf q)) (RelL.goes hg hρ r (h1.imp id And.right)) (fun i v hv => ?_)
    rw [hg.w]
    exact hc i v hv
  | _, _, .ptrB he hv hp, _ => .ptrB (hρ _ _ he) hv hp
  | _, _, .nilSl, _ => .nilSl
  | _, _, .slI0 q, _ => .slI0 q
  | _, _, .slI (fr := fr) (cs := cs) (n := m) hs hf hn ht r hc, h => by
    by_cases h0 : (cs.isEmpty && m == 0) = true
    · simp only [Bool.and_eq_true, List.isEmpty_iff, beq_iff_eq] at h0
      obtain ⟨rfl, rfl⟩ := h0
      exact .slI0 ht
    · have h1 : al = true ∨ (fr = true ∧ ∃ n, aliasL (alias n) cs = false) := h.imp id fun ⟨n, q⟩ => by
        cases n with
        | zero => cases q
        | succ n => simp only [alias, h0, Bool.false_eq_true, if_false, Bool.or_eq_false_iff, Bool.not_eq_false'] at q; exact ⟨q.1, n, q.2⟩
      refine .slI (hg.S _ hs (h1.imp id fun q => hf q.1)) (fun q => Nat.le_trans hg.B (hf q)) hn ht (RelL.goes hg hρ r (h1.imp id And.right)) (fun i v hv => ?_)
      rw [hg.w]
      exact hc i v hv
  | _, _, .slB he hv hp, _ => .slB (hρ _ _ he) hv hp
theorem RelL.goes {R E : Env} {al : Bool} (hg : Goes R E al) (hρ : ∀ b e, R.ρ b = some e → E.ρ b = some e) : ∀ {v : List V} {c : List Value}, RelL R v c → (al = true ∨ ∃ n, aliasL (alias n) v = false) → RelL E v c
  | _, _, .nil, _ => .nil
  | _, _, .cons r s, h => .cons
      (Rel.goes hg hρ r (h.imp id fun ⟨n, q⟩ => by simp only [aliasL, Bool.or_eq_false_iff] at q; exact ⟨n, q.1⟩))
      (RelL.goes hg hρ s (h.imp id fun ⟨n, q⟩ => by simp only [aliasL, Bool.or_eq_false_iff] at q; exact ⟨n, q.2⟩))
end

theorem newsF_get : ∀ (l : List Blk) (base : Nat) (H : Nat → Option Blk) (b : Nat), newsF l base H b = if base ≤ b ∧ b < base + l.length then l[b - base]? else H b
  | [], base, H, b => by rw [newsF, if_neg (by simp)]
  | x :: r, base, H, b => by
    rw [newsF, newsF_get r]
    by_cases h1 : base + 1 ≤ b ∧ b < base + 1 + r.length
    · rw [if_pos h1, if_pos (by simp; omega)]
      rw [show b - base = (b - (base + 1)) + 1 from by omega]
      rfl
    · rw [if_neg h1]
      unfold updF
      by_cases h2 : b = base
      · rw [if_pos h2, if_pos (by simp; omega), h2, Nat.sub_self]
        rfl
      · rw [if_neg h2, if_neg (by simp; omega)]

/-- What a call on its own promises. -/
def IsoSound (P : Program) (f : FuncId) (base : Nat) (vs : List V) (rv : V) (blks : List Blk) : Prop :=
  ∀ (w : World) (O : Nat → Prop) (cargs : List Value), RelL ⟨w, fun _ => none, fun _ => none, w.heap.size, O⟩ vs cargs →
    Calls P f cargs.toArray w (fun e w' => ∃ cv ρ, e = .returned cv ∧ Below w.heap.size w w' ∧ HRel ⟨w', newsF blks base (fun _ => none), ρ, w.heap.size, O⟩ ∧
      Rel ⟨w', newsF blks base (fun _ => none), ρ, w.heap.size, O⟩ rv cv ∧ ∀ b, ρ b ≠ none → base ≤ b ∧ b < base + blks.length)

def freezeL (L : Heap) : List Nat → Option (List (Nat × Blk))
  | [] => some []
  | b :: r => match hget L b, freezeL L r with
    | some blk, some l => some ((b, { blk with fz := true }) :: l)
    | _, _ => none
theorem freeze_env {L : Heap} : ∀ {rs : List Nat} {wr : List (Nat × Blk)} {E : Env}, HRel E → (∀ b blk, hget L b = some blk → E.H b = some blk ∨ E.H b = some { blk with fz := true }) → freezeL L rs = some wr →
    Ext E { E with H := setsF wr E.H } ∧ HRel { E with H := setsF wr E.H } ∧ (∀ b, b ∈ rs → ∃ blk, setsF wr E.H b = some blk ∧ blk.fz = true) ∧
      (∀ b blk, setsF wr E.H b = some blk → E.H b = some blk ∨ blk.fz = true)
  | [], wr, E, hR, _, h => by
    simp only [freezeL, Option.some.injEq] at h
    subst h
    exact ⟨Ext.refl E, hR, (fun b hb => nomatch hb), fun b blk h => Or.inl h⟩
  | b :: r, wr, E, hR, hL, h => by
    simp only [freezeL] at h
    cases h1 : hget L b with
    | none => rw [h1] at h; cases h
    | some blk =>
      cases h2 : freezeL L r with
      | none => rw [h1, h2] at h; cases h
      | some l =>
        rw [h1, h2] at h
        simp only [Option.some.injEq] at h
        subst h
        have hx : Ext E { E with H := updF E.H b { blk with fz := true } } ∧ HRel { E with H := updF E.H b { blk with fz := true } } := by
          rcases hL b blk h1 with q | q
          · exact ext_freeze hR q
          · exact ext_freeze (blk := { blk with fz := true }) hR q
        have hL' : ∀ b' blk', hget L b' = some blk' → updF E.H b { blk with fz := true } b' = some blk' ∨ updF E.H b { blk with fz := true } b' = some { blk' with fz := true } := by
          intro b' blk' hb'
          unfold updF
          by_cases q : b' = b
          · subst q
            rw [h1] at hb'
            cases hb'
            exact .inr (by simp)
          · simp only [q, if_false]
            exact hL b' blk' hb'
        obtain ⟨g1, g2, g3, g4⟩ := freeze_env (E := { E with H := updF E.H b { blk with fz := true } }) hx.2 hL' h2
        refine ⟨hx.1.trans g1, g2, fun b' hb' => ?_, fun b' blk' hb' => ?_⟩
        · by_cases q : b' ∈ r
          · exact g3 b' q
          · have hb : b' = b := by
              cases hb' with
              | head => rfl
              | tail _ q' => exact absurd q' q
            subst hb
            have hnr : ∀ (l : List (Nat × Blk)) (H : Nat → Option Blk), (∀ p ∈ l, p.1 ≠ b') → setsF l H b' = H b' := by
              intro l
              induction l with
              | nil => intro H _; rfl
              | cons p l ih =>
                intro H hp
                obtain ⟨j, x⟩ := p
                rw [setsF, ih _ fun p hp' => hp p (List.mem_cons_of_mem _ hp')]
                unfold updF
                rw [if_neg fun e => hp (j, x) (List.mem_cons_self ..) e.symm]
            have hl : ∀ {r : List Nat} {l : List (Nat × Blk)}, freezeL L r = some l → ∀ p ∈ l, p.1 ∈ r := by
              intro r
              induction r with
              | nil => intro l h p hp; simp only [freezeL, Option.some.injEq] at h; subst h; cases hp
              | cons b0 r ih =>
                intro l h p hp
                simp only [freezeL] at h
                cases q1 : hget L b0 with
                | none => rw [q1] at h; cases h
                | some x =>
                  cases q2 : freezeL L r with
                  | none => rw [q1, q2] at h; cases h
                  | some l' =>
                    rw [q1, q2] at h
                    simp only [Option.some.injEq] at h
                    subst h
                    cases hp with
                    | head => exact List.mem_cons_self ..
                    | tail _ hp => exact List.mem_cons_of_mem _ (ih q2 p hp)
            refine ⟨{ blk with fz := true }, ?_, rfl⟩
            show setsF l (updF E.H b' { blk with fz := true }) b' = _
            rw [hnr l _ fun p hp e => q (e ▸ hl h2 p hp)]
            simp [updF]
        · rcases g4 b' blk' hb' with q | q
          · simp only [updF] at q
            by_cases e : b' = b
            · simp only [e, if_true, Option.some.injEq] at q
              subst q
              exact .inr rfl
            · simp only [e, if_false] at q
              exact .inl q
          · exact .inr q

/-- The caller's environment behind a call. -/
def backEnv (E1 : Env) (w' : World) (blks : List Blk) (base : Nat) (ρ : Nat → Option RE) : Env :=
  ⟨w', newsF blks base E1.H, fun b => match ρ b with | some e => some e | none => E1.ρ b, E1.B, E1.O⟩
theorem back_env {E1 : Env} (hR1 : HRel E1) {w' : World} {blks : List Blk} {base : Nat} {ρ : Nat → Option RE} {O : Nat → Prop} {al : Bool}
    (hb : Below E1.w.heap.size E1.w w') (hR : HRel ⟨w', newsF blks base (fun _ => none), ρ, E1.w.heap.size, O⟩) (hρ : ∀ b, ρ b ≠ none → base ≤ b ∧ b < base + blks.length)
    (hfresh : ∀ b, base ≤ b → b < base + blks.length → E1.ρ b = none) (hO : al = true → ∀ c, O c → E1.S c) (hal : al = true ∨ ∀ blk ∈ blks, ∃ n, aliasL (alias n) blk.cells = false) :
    Ext E1 (backEnv E1 w' blks base ρ) ∧ HRel (backEnv E1 w' blks base ρ) ∧ Below E1.B E1.w w' ∧
      ∀ v c, (al = true ∨ ∃ n, alias n v = false) → Rel ⟨w', newsF blks base (fun _ => none), ρ, E1.w.heap.size, O⟩ v c → Rel (backEnv E1 w' blks base ρ) v c := by
  have hin : ∀ b blk, newsF blks base (fun _ => none) b = some blk → base ≤ b ∧ b < base + blks.length := by
    intro b blk h
    rw [newsF_get] at h
    split at h
    · assumption
    · cases h
  have hout : ∀ b, ¬ (base ≤ b ∧ b < base + blks.length) → ρ b = none := by
    intro b h
    cases hq : ρ b with
    | none => rfl
    | some e => exact absurd (hρ b (by rw [hq]; simp)) h
  have hH : ∀ b, (base ≤ b ∧ b < base + blks.length) → newsF blks base E1.H b = newsF blks base (fun _ => none) b := by
    intro b h
    rw [newsF_get, newsF_get, if_pos h, if_pos h]
  have hH2 : ∀ b, ¬ (base ≤ b ∧ b < base + blks.length) → newsF blks base E1.H b = E1.H b := by
    intro b h
    rw [newsF_get, if_neg h]
  have hS : ∀ c, E1.S c → (backEnv E1 w' blks base ρ).S c := by
    intro c hs
    refine ⟨Nat.lt_of_lt_of_le hs.1 hb.size, hs.2.1, fun b blk e o h1 h2 h3 h4 => ?_⟩
    simp only [backEnv] at h1 h3
    by_cases hbr : base ≤ b ∧ b < base + blks.length
    · rw [hH b hbr] at h1
      obtain ⟨e', he', hl⟩ := hR.at_ b blk h1
      have he2 : ρ b = some e' := he'
      rw [he2] at h3
      cases h3
      have := (hl.lt h4).1
      have := hs.1
      simp only at *
      omega
    · rw [hH2 b hbr] at h1
      rw [hout b hbr] at h3
      exact hs.2.2 b blk e o h1 h2 h3 h4
  have hx : Ext E1 (backEnv E1 w' blks base ρ) := by
    refine ⟨rfl, fun c o v hs hv => ?_, hS, fun b e he => ⟨e, ?_, .inl rfl⟩⟩
    · show w'.cell? _ = _
      rw [cell_of_heap (hb.block c hs.1)]
      exact hv
    · simp only [backEnv]
      rw [hout b fun q => by rw [hfresh b q.1 q.2] at he; cases he]
      exact he
  have hg : Goes ⟨w', newsF blks base (fun _ => none), ρ, E1.w.heap.size, O⟩ (backEnv E1 w' blks base ρ) al := by
    refine ⟨rfl, fun c hs hc => ?_, hR1.le⟩
    by_cases hc2 : E1.w.heap.size ≤ c
    · refine ⟨hs.1, fun q => ?_, fun b blk e o h1 h2 h3 h4 => ?_⟩
      · have := hR1.le
        have q' : c < E1.B := q
        omega
      · simp only [backEnv] at h1 h3
        by_cases hbr : base ≤ b ∧ b < base + blks.length
        · rw [hH b hbr] at h1
          obtain ⟨e', he', hl⟩ := hR.at_ b blk h1
          have he2 : ρ b = some e' := he'
          rw [he2] at h3
          cases h3
          exact hs.2.2 b blk _ o h1 h2 he' h4
        · rw [hH2 b hbr] at h1
          rw [hout b hbr] at h3
          obtain ⟨e', he', hl⟩ := hR1.at_ b blk h1
          rw [he'] at h3
          cases h3
          have := (hl.lt h4).2
          omega
    · rcases hc with hc | hc
      · exact hS c (hO hc c (hs.2.1 (by show c < E1.w.heap.size; omega)))
      · exact absurd hc hc2
  have hgo := fun (v : V) (c : Value) (h : al = true ∨ ∃ n, alias n v = false) r => Rel.goes hg (fun b e he => by simp only [backEnv]; have he' : ρ b = some e := he; rw [he']) (v := v) (c := c) r h
  have hgoL := fun (v : List V) (c : List Value) (h : al = true ∨ ∃ n, aliasL (alias n) v = false) r => RelL.goes hg (fun b e he => by simp only [backEnv]; have he' : ρ b = some e := he; rw [he']) (v := v) (c := c) r h
  refine ⟨hx, ⟨fun b blk h1 => ?_, fun b b' blk blk' e e' c o o' h1 h2 h3 h4 h5 h6 => ?_, Nat.le_trans hR1.le hb.size⟩, hb.mono hR1.le, hgo⟩
  · simp only [backEnv] at h1
    by_cases hbr : base ≤ b ∧ b < base + blks.length
    · rw [hH b hbr] at h1
      obtain ⟨e', he', hl⟩ := hR.at_ b blk h1
      have he2 : ρ b = some e' := he'
      refine ⟨e', by simp only [backEnv, he2], hl.1, hl.2.1, ?_⟩
      have hl3 := hl.2.2
      revert hl3
      cases hp : e'.pos with
      | none => exact id
      | some p =>
        obtain ⟨c, o⟩ := p
        rintro ⟨g1, arr, el, lo, hi, g2, g3, g4, g5, g6⟩
        refine ⟨Nat.le_trans hR1.le g1, arr, el, lo, hi, g2, g3, g4, g5, hgoL _ _ (hal.imp id fun q => ?_) g6⟩
        have hm : blk ∈ blks := by
          rw [newsF_get, if_pos hbr] at h1
          exact List.mem_of_getElem? h1
        exact q blk hm
    · rw [hH2 b hbr] at h1
      obtain ⟨e', he', hl⟩ := hR1.at_ b blk h1
      refine ⟨e', by simp only [backEnv, hout b hbr]; exact he', hl.mono hx fun c o hp => hb.block c (hl.lt hp).2⟩
  · simp only [backEnv] at h1 h2 h3 h4
    have old : ∀ {b : Nat} {blk : Blk} {e : RE} {o : Nat}, ¬ (base ≤ b ∧ b < base + blks.length) → newsF blks base E1.H b = some blk → (match ρ b with | some e => some e | none => E1.ρ b) = some e → e.pos = some (c, o) → c < E1.w.heap.size ∧ E1.H b = some blk ∧ E1.ρ b = some e := by
      intro b blk e o hbr g1 g2 g3
      rw [hH2 b hbr] at g1
      rw [hout b hbr] at g2
      obtain ⟨e', he', hl⟩ := hR1.at_ b blk g1
      have g2' : E1.ρ b = some e := g2
      rw [he'] at g2'
      cases g2'
      exact ⟨(hl.lt g3).2, g1, he'⟩
    have new : ∀ {b : Nat} {blk : Blk} {e : RE} {o : Nat}, (base ≤ b ∧ b < base + blks.length) → newsF blks base E1.H b = some blk → (match ρ b with | some e => some e | none => E1.ρ b) = some e → e.pos = some (c, o) →
        E1.w.heap.size ≤ c ∧ newsF blks base (fun _ => none) b = some blk ∧ ρ b = some e := by
      intro b blk e o hbr g1 g2 g3
      rw [hH b hbr] at g1
      obtain ⟨e', he', hl⟩ := hR.at_ b blk g1
      have he2 : ρ b = some e' := he'
      rw [he2] at g2
      cases g2
      exact ⟨(hl.lt g3).1, g1, he2⟩
    by_cases hb1 : base ≤ b ∧ b < base + blks.length <;> by_cases hb2 : base ≤ b' ∧ b' < base + blks.length
    · obtain ⟨_, q1, q2⟩ := new hb1 h1 h3 h5
      obtain ⟨_, q3, q4⟩ := new hb2 h2 h4 h6
      exact hR.inj b b' blk blk' e e' c o o' q1 q3 q2 q4 h5 h6
    · have := (new hb1 h1 h3 h5).1
      have := (old hb2 h2 h4 h6).1
      omega
    · have := (old hb1 h1 h3 h5).1
      have := (new hb2 h2 h4 h6).1
      omega
    · obtain ⟨_, q1, q2⟩ := old hb1 h1 h3 h5
      obtain ⟨_, q3, q4⟩ := old hb2 h2 h4 h6
      exact hR1.inj b b' blk blk' e e' c o o' q1 q3 q2 q4 h5 h6
end
end Go.Proofs.Ytnnfcebnmogdmaa.VM
/- The machine of values: calls. No conditions. -/
namespace Go.Proofs.Ytnnfcebnmogdmaa.VM
set_option linter.unusedSimpArgs false
set_option linter.unusedVariables false
open Go Go.RowKit
noncomputable section

abbrev CallF := FuncId → Nat → List V → Option (V × List Blk)
def callAl (rs : List Nat) (rv : V) (blks : List Blk) : Bool := rs.isEmpty || alias 60 rv || blks.any fun b => aliasL (alias 60) b.cells
def callE (call : CallF) (L : Heap) (base : Nat) (f : FuncId) (vs : List V) : Option Eff :=
  match mapRL (reify L false 60) vs with
  | some (as, rs) => match call f base as with
    | some (rv, blks) => match freezeL L (if callAl rs rv blks then rs else []) with
      | some wr => some ⟨rv, wr, blks⟩
      | none => none
    | none => none
  | none => none
def CallOK (P : Program) (call : CallF) : Prop := ∀ f base vs rv blks, call f base vs = some (rv, blks) → IsoSound P f base vs rv blks

/-- What is owed behind a call, with its value. -/
def Behind (E : Env) (base : Nat) (eff : Eff) (e : Ending) (w' : World) : Prop :=
  ∃ cv E', e = .returned cv ∧ E'.w = w' ∧ E'.B = E.B ∧ E'.O = E.O ∧ E'.H = applyF E.H base eff ∧ Ext E E' ∧ HRel E' ∧ Rel E' eff.v cv ∧ Below E.B E.w w' ∧
    (∀ b, E.ρ b = none → ¬ (base ≤ b ∧ b < base + eff.new.length) → E'.ρ b = none)

theorem callE_sound {P : Program} {call : CallF} (hc : CallOK P call) {E : Env} {L : Heap} (hR : HRel E) (hL : Sub L E) {base : Nat} {f : FuncId} {vs : List V} {cs : List Value} (hvs : RelL E vs cs) {eff : Eff}
    (h : callE call L base f vs = some eff) (hfresh : ∀ b, base ≤ b → b < base + eff.new.length → E.ρ b = none) : Calls P f cs.toArray E.w (Behind E base eff) := by
  unfold callE at h
  split at h
  · rename_i as rs has
    split at h
    · rename_i rv blks hcall
      split at h
      · rename_i wr hwr
        cases h
        simp only at hfresh
        generalize hal : callAl rs rv blks = al at hwr
        have hf := freeze_env (L := L) (E := E) hR (fun b blk hb => .inl (hL b blk hb)) hwr
        obtain ⟨x1, x2, x3, x4⟩ := hf
        let O : Nat → Prop := fun c => E.S c ∨ ∃ b, b ∈ rs ∧ ∃ blk e o, hget L b = some blk ∧ E.ρ b = some e ∧ e.pos = some (c, o)
        have hreads : Reads L E ⟨E.w, fun _ => none, fun _ => none, E.w.heap.size, O⟩ false rs := by
          refine ⟨rfl, fun c hs => ⟨hs.1, fun _ => .inl hs, fun b blk e o h1 => by cases h1⟩, fun b hb blk e c o h1 h2 h3 => ?_, fun q => by cases q⟩
          obtain ⟨e', he', hl⟩ := hR.at_ b blk (hL b blk h1)
          rw [h2] at he'
          cases he'
          exact ⟨(hl.lt h3).2, fun _ => .inr ⟨b, hb, blk, e, o, h1, h2, h3⟩, fun b blk e o h1 => by cases h1⟩
        have hargs := mapRL_rel (L := L) (E := E) (res := false) (fun v v' rs c h1 h2 h3 => reify_rel hR hL 60 v v' rs c h1 h2 h3) has hvs hreads
        refine (hc f base as rv blks hcall E.w O cs hargs).mono fun e w' hpost => ?_
        obtain ⟨cv, ρ, he, hb, hRR, hrv, hρ⟩ := hpost
        have hO : al = true → ∀ c, O c → (Env.S { E with H := setsF wr E.H }) c := by
          intro hat c hoc
          rcases hoc with hs | ⟨b, hb1, blk, e1, o, h1, h2, h3⟩
          · exact x1.S c hs
          · obtain ⟨e', he', hl⟩ := hR.at_ b blk (hL b blk h1)
            rw [h2] at he'
            cases he'
            have hlt := hl.lt h3
            refine ⟨hlt.2, fun q => ?_, fun b1 blk1 e2 o2 g1 g2 g3 g4 => ?_⟩
            · have q' : c < E.B := q
              omega
            · rw [hat] at x3
              obtain ⟨blk0, k1, k2⟩ := x3 b (by simpa using hb1)
              have := x2.inj b b1 blk0 blk1 e1 e2 c o o2 k1 g1 h2 g3 h3 g4
              subst this
              simp only at g1
              rw [k1] at g1
              cases g1
              rw [k2] at g2
              cases g2
        have halq : al = true ∨ (alias 60 rv = false ∧ ∀ blk ∈ blks, aliasL (alias 60) blk.cells = false) := by
          cases al with
          | true => exact .inl rfl
          | false =>
            simp only [callAl, Bool.or_eq_false_iff] at hal
            refine .inr ⟨hal.1.2, fun blk hblk => ?_⟩
            have := List.any_eq_false.1 hal.2 blk hblk
            simpa using this
        have hback := back_env (E1 := { E with H := setsF wr E.H }) (al := al) (base := base) (ρ := ρ) (O := O) x2 hb hRR hρ (fun b h1 h2 => hfresh b h1 h2) hO (halq.imp id fun q blk hblk => ⟨60, q.2 blk hblk⟩)
        obtain ⟨y1, y2, y3, y4⟩ := hback
        refine ⟨cv, backEnv { E with H := setsF wr E.H } w' blks base ρ, he, rfl, rfl, rfl, rfl, x1.trans y1, y2, y4 rv cv (halq.imp id fun q => ⟨60, q.1⟩) hrv, y3, fun b hb1 hb2 => ?_⟩
        simp only [backEnv]
        cases hq : ρ b with
        | none => exact hb1
        | some e1 => exact absurd (hρ b (by rw [hq]; simp)) hb2
      · cases h
    · cases h
  · cases h

/-- Which function a call enters, with what. -/
def okFn (P : Program) (f : FuncId) : Bool :=
  match P.funcs[f]? with
  | some fn => fn.body.isSome && fn.name != "runtime.NumGoroutine"
  | none => false
def methodV (P : Program) (t : TypeId) (name : String) : Option FuncId :=
  match P.info? t with
  | some i => match i.methods.find? (·.name == name) with
    | some m => match m.path.toList, m.func, P.underlying t with
      | [], some (f, true), some (.pointer _) => some f
      | [], some (f, false), some d => (match d with | .pointer _ => none | _ => some f)
      | _, _, _ => none
    | none => none
  | none => none
def evalL (t : List V) : List Operand → Option (List V)
  | [] => some []
  | x :: r => match evalV t x, evalL t r with
    | some v, some vs => some (v :: vs)
    | _, _ => none
def resolveV (P : Program) (t : List V) (c : Call) : Option (FuncId × List V) :=
  match evalL t c.args.toList with
  | some vs => match c.callee with
    | .value x => match evalV t x with
      | some (.func (.func f) first captured) => if okFn P f = true then some (f, first ++ vs ++ captured) else none
      | _ => none
    | .invoke x name => match evalV t x with
      | some (.iface ty v) => match methodV P ty name with
        | some f => if okFn P f = true then some (f, v :: vs) else none
        | none => none
      | _ => none
    | .builtin _ => none
  | none => none
theorem evalL_rel {E : Env} {t : List V} {a : Act} (ht : RelL E t a.tmps.toList) : ∀ {xs : List Operand} {vs : List V}, evalL t xs = some vs → RelL E vs (xs.map a.eval)
  | [], vs, h => by cases h; exact .nil
  | x :: r, vs, h => by
    simp only [evalL] at h
    cases h1 : evalV t x with
    | none => rw [h1] at h; cases h
    | some v =>
      cases h2 : evalL t r with
      | none => rw [h1, h2] at h; cases h
      | some ws =>
        rw [h1, h2] at h
        cases h
        exact .cons (evalV_rel ht h1) (evalL_rel ht h2)
theorem callFunc_run {P : Program} {f : FuncId} (h : okFn P f = true) (args : Array Value) (w : World) : (callFunc f args).run P w = .ok (.enter f args) w := by
  unfold okFn at h
  cases hf : P.funcs[f]? with
  | none => rw [hf] at h; cases h
  | some fn =>
    rw [hf] at h
    simp only [Bool.and_eq_true, bne_iff_ne, ne_eq] at h
    have hb : fn.body.isNone = false := by
      cases hq : fn.body with
      | none => rw [hq] at h; simp at h
      | some c => rfl
    simp [callFunc, hf, h.2]
    intro hq
    rw [hq] at hb
    cases hb
theorem method_run {P : Program} {t : TypeId} {name : String} {f : FuncId} (h : methodV P t name = some f) (v : Value) (n : Nat) (w : World) : (method (n + 1) t v name).run P w = .ok (f, v) w := by
  unfold methodV at h
  cases hi : P.info? t with
  | none => rw [hi] at h; cases h
  | some i =>
    rw [hi] at h
    simp only at h
    cases hm : i.methods.find? (·.name == name) with
    | none => rw [hm] at h; cases h
    | some m =>
      rw [hm] at h
      simp only at h
      split at h
      · rename_i f' e hp hf hu
        cases h
        simp [method, typeInfo, hi, hm, hp, follow, hf, receiverAt, run_underlying hu, Place.get]
      · rename_i f' d hp hf hu
        cases d <;> simp only at h <;> cases h <;> simp [method, typeInfo, hi, hm, hp, follow, hf, receiverAt, run_underlying hu, Place.get]
      · cases h
theorem resolve_run {P : Program} {E : Env} {t : List V} {a : Act} {o : Oper} {c : Call} (ht : RelL E t a.tmps.toList) (ho : o.op = .call c) {f : FuncId} {vs : List V} (h : resolveV P t c = some (f, vs)) (w : World) :
    ∃ cs : List Value, RelL E vs cs ∧ (execOp a.eval o).run P w = .ok (.enter f cs.toArray) w := by
  unfold resolveV at h
  split at h
  · rename_i ws hws
    have rw_ := evalL_rel ht hws
    split at h
    · rename_i x hx
      split at h
      · rename_i f' first captured hv
        split at h
        · rename_i hok
          cases h
          have r := evalV_rel ht hv
          generalize hcx : a.eval x = cx at r
          cases r with
          | func fn s1 s2 =>
            rename_i cf cc
            refine ⟨cf ++ c.args.toList.map a.eval ++ cc, (s1.append rw_).append s2, ?_⟩
            rw [execOp, ho]
            have := callFunc_run hok (cf ++ c.args.toList.map a.eval ++ cc).toArray w
            have harr : (cf.toArray ++ c.args.map a.eval ++ cc.toArray) = (cf ++ c.args.toList.map a.eval ++ cc).toArray := by
              apply Array.ext'
              simp
            simp only [resolve, hx, hcx, Deferred.ofValue, Sem.run_bind, Sem.run_pure, Result.andThen_ok, invoke, harr, this]
        · cases h
      · cases h
    · rename_i x name hx
      split at h
      · rename_i ty v hv
        split at h
        · rename_i f' hm
          split at h
          · rename_i hok
            cases h
            have r := evalV_rel ht hv
            generalize hcx : a.eval x = cx at r
            cases r with
            | iface _ s =>
              rename_i cv
              refine ⟨cv :: c.args.toList.map a.eval, .cons s rw_, ?_⟩
              rw [execOp, ho]
              have hmr := method_run hm cv (P.types.size + 99) w
              have := callFunc_run hok (cv :: c.args.toList.map a.eval).toArray w
              have h1 : (#[Value.iface ty cv] ++ c.args.map a.eval)[0]? = some (Value.iface ty cv) := by rw [Array.getElem?_append_left (by simp)]; rfl
              have h2 : #[cv] ++ (#[Value.iface ty cv] ++ c.args.map a.eval).extract 1 (#[Value.iface ty cv] ++ c.args.map a.eval).size = (cv :: c.args.toList.map a.eval).toArray := by
                apply Array.ext'
                simp [List.extract_eq_take_drop]
                exact List.take_of_length_le (by simp)
              simp only [resolve, hx, hcx, Sem.run_bind, Sem.run_pure, Result.andThen_ok, invoke, h1, callMethod, run_program, Made.depth]
              rw [show P.types.size + 100 = (P.types.size + 99) + 1 from rfl, hmr]
              simp only [Result.andThen_ok, h2, this]
          · cases h
        · cases h
      · cases h
    · cases h
  · cases h

theorem call_sound {P : Program} {call : CallF} (hc : CallOK P call) {E : Env} {L : Heap} {t : List V} {a : Act} {o : Oper} {base : Nat} (hR : HRel E) (hL : Sub L E) (ht : RelL E t a.tmps.toList) {c : Call} (ho : o.op = .call c)
    {f : FuncId} {vs : List V} (h : resolveV P t c = some (f, vs)) {eff : Eff} (he : callE call L base f vs = some eff) (hfresh : ∀ b, base ≤ b → b < base + eff.new.length → E.ρ b = none) : OpSound P E a o base eff := by
  intro next Q hn
  obtain ⟨cs, hcs, hrun⟩ := resolve_run ht ho h E.w
  unfold Oper.wp
  rw [hrun]
  refine (callE_sound hc hR hL hcs he hfresh).mono ?_
  rintro e w' ⟨cv, E', rfl, rfl, h1, h2, h3, h4, h5, h6, h7, h8⟩
  exact hn cv E' h1 h2 h3 h4 h5 h6 h7 h8
end
end Go.Proofs.Ytnnfcebnmogdmaa.VM
/- The machine of values: small operations; all of them together. No conditions. -/
namespace Go.Proofs.Ytnnfcebnmogdmaa.VM
set_option linter.unusedSimpArgs false
set_option linter.unusedVariables false
open Go Go.RowKit
noncomputable section
section
variable {P : Program} {E : Env} {a : Act} {o : Oper} {base : Nat} {t : List V} {L : Heap}

/-- A constant's bytes: their row is marked at its end. -/
theorem mark_sound (hR : HRel E) (ht : RelL E t a.tmps.toList) {ty e : TypeId} {x : Operand} (ho : o.op = .convert ty ty x) (hu : P.underlying ty = some (.slice e)) (he : P.underlying e = some (.int .u8))
    {v : V} {cs : List V} {n : Nat} {tight : Bool} (hx : evalV t x = some (.slI true (v :: cs) n tight)) : OpSound P E a o base (Eff.pure (.slI true (v :: cs) n tight)) := by
  have r := evalV_rel ht hx
  generalize hcx : a.eval x = cx at r
  cases r with
  | slI hs hf hn htt hr hc =>
    rename_i cvs cap c o'
    have hr0 := hr
    cases hr with
    | cons r0 rs =>
      rename_i c0 cs0
      have h0 := hc 0 c0 rfl
      obtain ⟨arr, el, lo, hi, hh⟩ : ∃ arr el lo hi, E.w.heap[c]? = some (.cells arr el (lo, hi)) := by
        unfold World.cell? at h0
        split at h0
        · rename_i arr el fr hh
          exact ⟨arr, el, fr.1, fr.2, hh⟩
        · cases h0
      let w' := E.w.freeze ⟨c, arr.size, none⟩ 1
      have hother : ∀ d, d ≠ c → w'.heap[d]? = E.w.heap[d]? := by
        intro d hd
        show (E.w.freeze ⟨c, arr.size, none⟩ 1).heap[d]? = _
        simp [World.freeze, Array.getElem?_modify]
        exact fun q => absurd q.symm hd
      have hthis : w'.heap[c]? = some (.cells arr el (if lo == hi then (arr.size, arr.size + 1) else (min lo arr.size, max hi (arr.size + 1)))) := by
        show (E.w.freeze ⟨c, arr.size, none⟩ 1).heap[c]? = _
        simp [World.freeze, Array.getElem?_modify, hh]
      obtain ⟨lo', hi', hthis', hlo'⟩ : ∃ lo' hi', w'.heap[c]? = some (.cells arr el (lo', hi')) ∧ ((lo = hi ∨ arr.size ≤ lo) → (lo' = hi' ∨ arr.size ≤ lo')) := by
        by_cases q : (lo == hi) = true
        · rw [if_pos q] at hthis
          exact ⟨_, _, hthis, fun _ => .inr (Nat.le_refl _)⟩
        · rw [if_neg q] at hthis
          simp only [beq_iff_eq] at q
          exact ⟨_, _, hthis, fun q1 => by omega⟩
      have hsz : w'.heap.size = E.w.heap.size := by
        show (E.w.freeze ⟨c, arr.size, none⟩ 1).heap.size = _
        simp [World.freeze]
      have hcell : ∀ d i, w'.cell? ⟨d, i, none⟩ = E.w.cell? ⟨d, i, none⟩ := by
        intro d i
        by_cases hd : d = c
        · subst hd
          rw [cell_at hh, cell_at hthis']
        · exact cell_of_heap (hother d hd)
      have hx : Ext E { E with w := w' } := ⟨rfl, fun d i v _ hv => by rw [hcell]; exact hv, fun d hd => ⟨by rw [hsz]; exact hd.1, hd.2.1, hd.2.2⟩, fun b e he => ⟨e, he, .inl rfl⟩⟩
      have hR' : HRel { E with w := w' } := by
        refine ⟨fun b blk hb => ?_, hR.inj, by rw [hsz]; exact hR.le⟩
        obtain ⟨e1, he1, hl⟩ := hR.at_ b blk hb
        refine ⟨e1, he1, hl.1, hl.2.1, ?_⟩
        have h3 := hl.2.2
        revert h3
        cases hp : e1.pos with
        | none => exact id
        | some p =>
          obtain ⟨d, i⟩ := p
          rintro ⟨g1, arr1, el1, lo1, hi1, g2, g3, g4, g5, g6⟩
          by_cases hd : d = c
          · subst hd
            rw [hh] at g2
            cases g2
            exact ⟨g1, arr, el, lo', hi', hthis', g3, g4, (by have := hlo' (by omega); omega), g6.mono hx⟩
          · exact ⟨g1, arr1, el1, lo1, hi1, (hother d hd).trans g2, g3, g4, g5, g6.mono hx⟩
      refine opSound_of_run (cv := .slice (some ⟨c, o', none⟩) n cap) (E' := { E with w := w' }) (.inl ?_) rfl rfl rfl hx hR' ((Rel.slI hs hf hn htt hr0 hc).mono hx) ⟨rfl, rfl, rfl, Nat.le_of_eq hsz.symm, fun k hk => hother k (by have := hf rfl; omega)⟩ (fun _ h _ => h)
      have hsh : E.w.shape? c = some (el, arr.size) := by
        unfold World.shape?
        rw [hh]
      rw [execOp, ho]
      simp [hcx, convert, run_underlying hu, run_underlying he, markStringish, hsh, w']

/-- Is a slice or a pointer nil? -/
def nilV (L : Heap) : V → Option Bool
  | .nilSl => some true
  | .slI _ (_ :: _) n _ => if n = 0 then none else some false
  | .slB b _ ver n => match hget L b with
    | some blk => if blk.ver = ver ∧ n ≠ 0 then some false else none
    | none => none
  | _ => none

/-- A slice that is not nil, against nil. -/
def nilCmp (P : Program) (L : Heap) (t : List V) (op : BinOp) (ty : TypeId) (x y : Operand) : Option Eff :=
  match P.underlying ty, evalV t x, evalV t y with
  | some (.slice _), some v, some .nilSl => match nilV L v, op with
    | some false, .eql => some (Eff.pure (.bool false))
    | some false, .neq => some (Eff.pure (.bool true))
    | _, _ => none
  | _, _, _ => none
theorem nilV_false (hR : HRel E) (hL : Sub L E) {v : V} {c : Value} (h : nilV L v = some false) (r : Rel E v c) : ∃ ad n cap, c = .slice (some ad) n cap := by
  unfold nilV at h
  split at h
  · cases h
  · cases r with
    | slI _ _ _ _ _ _ => exact ⟨_, _, _, rfl⟩
  · rename_i b off ver n
    split at h
    · rename_i blk hb
      split at h
      · rename_i hc
        obtain ⟨e, A, cap, _, _, _, rfl, hq⟩ := slB_at hR hL hb hc.1 r
        rcases hq with ⟨c', o', _, rfl, _⟩ | ⟨_, h0, _⟩
        · exact ⟨_, _, _, rfl⟩
        · exact absurd h0 hc.2
      · cases h
    · cases h
  · cases h
theorem equal_nil {ty e : TypeId} (hu : P.underlying ty = some (.slice e)) (ad : Addr) (n cap : Nat) (w : World) : (Op.equal ty (.slice (some ad) n cap) (.slice none 0 0)).run P w = .ok false w := by
  unfold Op.equal
  rw [show Op.maxDepth = 9999 + 1 from rfl, Op.equalIn]
  simp only [Sem.run_bind, run_underlying hu, Result.andThen_ok, Sem.run_pure]
theorem nilCmp_sound (hR : HRel E) (hL : Sub L E) (ht : RelL E t a.tmps.toList) {op : BinOp} {ty tz : TypeId} {x y : Operand} (ho : o.op = .binOp op ty x y tz) {eff : Eff} (h : nilCmp P L t op ty x y = some eff) : OpSound P E a o base eff := by
  unfold nilCmp at h
  split at h
  · rename_i e v hu hx hy
    have r2 := evalV_rel ht hy
    generalize hcy : a.eval y = cy at r2
    cases r2
    split at h
    · rename_i hn
      cases h
      obtain ⟨ad, n, cap, hc⟩ := nilV_false hR hL hn (evalV_rel ht hx)
      refine opSound_pure hR (cv := .bool false) ?_ (.bool _)
      rw [execOp, ho]
      have h1 : ∀ op, eqGuard op ty x y (.slice (some ad) n cap) (.slice none 0 0) = pure () := fun op => eqGuard_at_slice op _ _ _ _ _ _ _
      have h2 := equal_nil (P := P) hu ad n cap E.w
      simp only [hc, hcy, h1, binOp, Sem.run_bind, Sem.run_pure, Result.andThen_ok, h2, Bool.not_false]
    · rename_i hn
      cases h
      obtain ⟨ad, n, cap, hc⟩ := nilV_false hR hL hn (evalV_rel ht hx)
      refine opSound_pure hR (cv := .bool true) ?_ (.bool _)
      rw [execOp, ho]
      have h1 : ∀ op, eqGuard op ty x y (.slice (some ad) n cap) (.slice none 0 0) = pure () := fun op => eqGuard_at_slice op _ _ _ _ _ _ _
      have h2 := equal_nil (P := P) hu ad n cap E.w
      simp only [hc, hcy, h1, binOp, Sem.run_bind, Sem.run_pure, Result.andThen_ok, h2, Bool.not_false]
    · cases h
  · cases h

theorem cur_ptr (hR : HRel E) (hL : Sub L E) {p : V} {c : Value} (h : (ptrAdd L p 0).isSome = true) (r : Rel E p c) : ∃ ad, c = .pointer (some ad) := by
  cases hq : ptrAdd L p 0 with
  | none => rw [hq] at h; cases h
  | some v =>
    obtain ⟨ad, e1, _⟩ := ptrAdd_rel hR hL hq r
    exact ⟨ad, e1⟩

def builtinE (P : Program) (L : Heap) (base : Nat) (t : List V) (o : Oper) (b : Builtin) (args : List Operand) (ats : Array TypeId) : Option Eff :=
  match b, args, ats.toList with
  | .append, [x, y], [ty, tyx] => match P.underlying ty, P.underlying tyx, evalV t x, evalV t y with
    | some (.slice e), some d, some s, some v => appendV P L base e (isInt d) s v
    | _, _, _, _ => none
  | .copy, [x, y], ty :: _ => match P.underlying ty, evalV t x, evalV t y with
    | some (.slice e), some d, some v => copyV P L e d v
    | _, _, _ => none
  | .clear, [x], ty :: _ => match P.underlying ty, evalV t x with
    | some (.slice e), some d => clearV P L e d
    | _, _ => none
  | .len, [x], [ty] => match P.underlying ty, evalV t x with
    | some (.slice e), some v => match v with
      | .str _ => none
      | _ => (lenV L v).map fun n : Nat => Eff.pure (.int .i64 (n : Int))
    | _, _ => pureOp P t o
  | _, _, _ => pureOp P t o

def opS (P : Program) (call : CallF) (L : Heap) (base : Nat) (t : List V) (o : Oper) : Option Eff :=
  match o.op with
  | .move x => (evalV t x).map Eff.pure
  | .assign x => (evalV t x).map Eff.pure
  | .pick c x y => match evalV t c, evalV t x, evalV t y with
    | some (.bool b), some x, some y => some (Eff.pure (if b then x else y))
    | _, _, _ => none
  | .alloc ty => match zeroV P ty with
    | some z => some ⟨.ptrB base 0 0, [], [⟨z, 0, 0, false⟩]⟩
    | none => none
  | .box ty x => match evalV t x with
    | some v => if v.cells.all V.one = true then some ⟨.ptrB base 0 0, [], [⟨v.cells, 0, 0, false⟩]⟩ else none
    | none => none
  | .build ty parts => (buildV P t ty parts).map Eff.pure
  | .buildSlice ty len parts => buildSliceV P t ty len parts
  | .load ty x => match evalV t x with
    | some p => (loadV P L ty p).map Eff.pure
    | none => none
  | .store ty x y => match evalV t x, evalV t y with
    | some p, some v => storeV P L ty p v
    | _, _ => none
  | .nilCheck x => match evalV t x with
    | some p => if (ptrAdd L p 0).isSome = true then some (Eff.pure p) else none
    | none => none
  | .convert src dst x => match P.underlying src, P.underlying dst, evalV t x with
    | some (.slice e), some .string, some v => match P.underlying e, v with
      | _, .str _ => none
      | some (.int .u8), v => match rowOf L 1 v with
        | some (cs, _) => (bytesN cs).map fun ns => Eff.pure (.str (strOfNums ns))
        | none => none
      | _, _ => none
    | some .string, some (.slice e), some (.str s) => match P.underlying e with
      | some (.int .u8) => some ⟨.slB base 0 0 s.size, [], [⟨s.data.toList.map (fun b => V.int .u8 b.toNat), 1, 0, false⟩]⟩
      | _ => none
    | some (.slice e), some (.slice _), some (.slI true (v :: cs) n tight) => match P.underlying e with
      | some (.int .u8) => if src = dst then some (Eff.pure (.slI true (v :: cs) n tight)) else none
      | _ => none
    | _, _, _ => pureOp P t o
  | .makeInterface ty x => match P.underlying ty, evalV t x with
    | some (.interface _), _ => none
    | some _, some v => some (Eff.pure (.iface ty v))
    | _, _ => none
  | .makeFunc fn first captured => match evalL t first.toList, evalL t captured.toList with
    | some f, some c => some (Eff.pure (.func fn f c))
    | _, _ => none
  | .makeSlice ty x y => match P.underlying ty, evalV t x, evalV t y with
    | some (.slice e), some (.int _ l), some (.int _ c) => match zeroV P e, P.info? e with
      | some z, some i => if 0 ≤ l ∧ l ≤ c ∧ c ≤ 1099511627776 ∧ i.bytes ≤ 256 then some ⟨.slB base 0 0 l.toNat, [], [⟨zerosV z l.toNat, z.length, 0, false⟩]⟩ else none
      | _, _ => none
    | _, _, _ => none
  | .slice ty x lo hi mx => match P.underlying ty, evalV t x, optV t lo, optV t hi, optV t mx with
    | some (.slice e), some s, some l, some h, some m => match tySz P e with
      | some (_, k) => (cutV L k s l h m).map Eff.pure
      | none => none
    | _, _, _, _, _ => none
  | .fieldAddr s x f => match evalV t x, fieldOff P s f with
    | some p, some (off, _) => (ptrAdd L p off).map Eff.pure
    | _, _ => none
  | .field s x f => match P.underlying s, evalV t x with
    | some (.struct fs), some (.agg cs) => match fs[f]? with
      | some fl => (partV P fl.type cs fl.offset).map Eff.pure
      | none => none
    | _, _ => none
  | .indexAddr s x y => match evalV t x, evalV t y with
    | some p, some (.int _ i) => (idxAddr P L s p i).map Eff.pure
    | _, _ => none
  | .index s x y => match P.underlying s, evalV t x, evalV t y with
    | some (.array n e), some (.agg cs), some (.int _ i) => match tySz P e with
      | some (_, k) => if 0 ≤ i ∧ i < n then (partV P e cs (i.toNat * k)).map Eff.pure else none
      | none => none
    | _, _, _ => pureOp P t o
  | .extract x i => match evalV t x with
    | some (.tup vs) => (vs[i]?).map Eff.pure
    | _ => none
  | .call c => match c.callee with
    | .builtin b => builtinE P L base t o b c.args.toList c.argTypes
    | _ => match resolveV P t c with
      | some (f, vs) => callE call L base f vs
      | none => none
  | .binOp op ty x y _ => match nilCmp P L t op ty x y with
    | some e => some e
    | none => pureOp P t o
  | _ => pureOp P t o

theorem builtinE_sound (hR : HRel E) (hL : Sub L E) (ht : RelL E t a.tmps.toList) {c : Call} (ho : o.op = .call c) {b : Builtin} (hb : c.callee = .builtin b) {eff : Eff}
    (h : builtinE P L base t o b c.args.toList c.argTypes = some eff) (hfresh : ∀ b, base ≤ b → b < base + eff.new.length → E.ρ b = none) : OpSound P E a o base eff := by
  obtain ⟨cal, args, ats⟩ := c
  simp only at hb h
  subst hb
  unfold builtinE at h
  split at h
  · rename_i x y ty tyx ha hat
    obtain rfl : args = #[x, y] := by apply Array.ext'; exact ha
    obtain rfl : ats = #[ty, tyx] := by apply Array.ext'; exact hat
    split at h
    · rename_i e d s v hu hux hx hy
      exact append_sound hR hL ht ho hu hux hx hy h hfresh
    · cases h
  · rename_i x y ty tys ha hat
    obtain rfl : args = #[x, y] := by apply Array.ext'; exact ha
    split at h
    · rename_i e d v hu hx hy
      have h0 : ats[0]? = some ty := by rw [← Array.getElem?_toList, hat]; rfl
      exact copy_sound hR hL ht ho h0 hu hx hy h
    · cases h
  · rename_i x ty tys ha hat
    obtain rfl : args = #[x] := by apply Array.ext'; exact ha
    split at h
    · rename_i e d hu hx
      have h0 : ats[0]? = some ty := by rw [← Array.getElem?_toList, hat]; rfl
      exact clear_sound hR hL ht ho h0 hu hx h
    · cases h
  · rename_i x ty ha hat
    obtain rfl : args = #[x] := by apply Array.ext'; exact ha
    obtain rfl : ats = #[ty] := by apply Array.ext'; exact hat
    split at h
    · rename_i e v hu hx
      split at h
      · cases h
      · rename_i hns
        obtain ⟨n, h1, h2⟩ := map_some h
        subst h2
        exact len_sound hR hL ht ho hu hx h1 (fun s q => hns s q)
    · exact pureOp_sound hR ht h
  · exact pureOp_sound hR ht h

theorem opS_sound {call : CallF} (hc : CallOK P call) (hR : HRel E) (hL : Sub L E) (ht : RelL E t a.tmps.toList) {eff : Eff}
    (h : opS P call L base t o = some eff) (hfresh : ∀ b, base ≤ b → b < base + eff.new.length → E.ρ b = none) : OpSound P E a o base eff := by
  unfold opS at h
  split at h
  case h_1 x ho =>
    obtain ⟨v, h1, rfl⟩ := map_some h
    exact opSound_pure hR (by rw [execOp, ho]; rfl) (evalV_rel ht h1)
  case h_2 x ho =>
    obtain ⟨v, h1, rfl⟩ := map_some h
    exact opSound_pure hR (by rw [execOp, ho]; rfl) (evalV_rel ht h1)
  case h_3 c x y ho =>
    split at h
    · rename_i b v1 v2 h1 h2 h3
      cases h
      have r := evalV_rel ht h1
      generalize hcx : a.eval c = cx at r
      cases r
      cases b
      · exact opSound_pure hR (by rw [execOp, ho]; simp [hcx, asBool]) (evalV_rel ht h3)
      · exact opSound_pure hR (by rw [execOp, ho]; simp [hcx, asBool]) (evalV_rel ht h2)
    · cases h
  case h_4 ty ho =>
    split at h
    · rename_i z hz
      cases h
      exact alloc_sound hR ho hz (hfresh base (Nat.le_refl _) (by simp))
    · cases h
  case h_5 ty x ho =>
    split at h
    · rename_i v hv
      split at h
      · rename_i h1
        cases h
        exact box_sound hR ht ho hv h1 (hfresh base (Nat.le_refl _) (by simp))
      · cases h
    · cases h
  case h_6 ty parts ho =>
    obtain ⟨v, h1, rfl⟩ := map_some h
    exact build_sound hR ht ho h1
  case h_7 ty len parts ho => exact buildSlice_sound hR ht ho h
  case h_8 ty x ho =>
    split at h
    · rename_i p hp
      obtain ⟨v, h1, rfl⟩ := map_some h
      exact load_sound hR hL ht ho hp h1
    · cases h
  case h_9 ty x y ho =>
    split at h
    · rename_i p v hp hv
      exact store_sound hR hL ht ho hp hv h
    · cases h
  case h_10 x ho =>
    split at h
    · rename_i p hp
      split at h
      · rename_i hq
        cases h
        obtain ⟨ad, e1⟩ := cur_ptr hR hL hq (evalV_rel ht hp)
        exact opSound_pure hR (by rw [execOp, ho]; simp [e1]; rfl) (by rw [← e1]; exact evalV_rel ht hp)
      · cases h
    · cases h
  case h_11 src dst x ho =>
    split at h
    · rename_i e v hs hd hx
      split at h
      · cases h
      · rename_i v' he hns
        split at h
        · rename_i cs n hrow
          obtain ⟨ns, h1, rfl⟩ := map_some h
          exact toStr_sound hR hL ht ho hs he hd hx (fun s q => hns s q) hrow h1
        · cases h
      · cases h
    · rename_i e s hs hd hx
      split at h
      · rename_i he
        cases h
        exact ofStr_sound hR ht ho hs he hd hx (hfresh base (Nat.le_refl _) (by simp))
      · cases h
    · rename_i e e' v cs n tight hs hd hx
      split at h
      · rename_i he
        split at h
        · rename_i hsd
          subst hsd
          cases h
          exact mark_sound hR ht ho hs he hx
        · cases h
      · cases h
    · exact pureOp_sound hR ht h
  case h_12 ty x ho =>
    split at h
    · cases h
    · rename_i d v hd hu hx
      cases h
      refine opSound_pure hR (cv := .iface ty (a.eval x)) ?_ (.iface ty (evalV_rel ht hx))
      rw [execOp, ho]
      cases d <;> first | exact absurd rfl (hd _) | simp [Instr.makeInterface, run_underlying hu]
    · cases h
  case h_13 fn first captured ho =>
    split at h
    · rename_i f c h1 h2
      cases h
      refine opSound_pure hR (cv := .func fn (first.map a.eval) (captured.map a.eval)) ?_ ?_
      · rw [execOp, ho]
        simp [Instr.makeFunc]
      · have e1 : (first.toList.map a.eval).toArray = first.map a.eval := by apply Array.ext'; simp
        have e2 : (captured.toList.map a.eval).toArray = captured.map a.eval := by apply Array.ext'; simp
        have := Rel.func fn (evalL_rel ht h1) (evalL_rel ht h2)
        rwa [e1, e2] at this
    · cases h
  case h_14 ty x y ho =>
    split at h
    · rename_i e kl l kc c hu hx hy
      split at h
      · rename_i z i hz hi
        split at h
        · rename_i hcond
          cases h
          exact makeSlice_sound hR ht ho hx hy hu hz hi hcond.1 hcond.2.1 hcond.2.2.1 hcond.2.2.2 (hfresh base (Nat.le_refl _) (by simp))
        · cases h
      · cases h
    · cases h
  case h_15 ty x lo hi mx ho =>
    split at h
    · rename_i e s l hh m hu hx hl hh' hm
      split at h
      · rename_i g k hz
        obtain ⟨v, h1, rfl⟩ := map_some h
        exact cut_sound hR hL ht ho hu hz hx hl hh' hm h1
      · cases h
    · cases h
  case h_16 s x f ho =>
    split at h
    · rename_i p off ft hp hf
      obtain ⟨v, h1, rfl⟩ := map_some h
      exact fieldAddr_sound hR hL ht ho hp hf h1
    · cases h
  case h_17 s x f ho =>
    split at h
    · rename_i fs cs hu hx
      split at h
      · rename_i fl hf
        obtain ⟨v, h1, rfl⟩ := map_some h
        exact field_sound hR ht ho hu hf hx h1
      · cases h
    · cases h
  case h_18 s x y ho =>
    split at h
    · rename_i p k i hp hi
      obtain ⟨v, h1, rfl⟩ := map_some h
      exact idxAddr_sound hR hL ht ho hp hi h1
    · cases h
  case h_19 s x y ho =>
    split at h
    · rename_i n e cs kk i hu hx hy
      split at h
      · rename_i g k hz
        split at h
        · rename_i hcond
          obtain ⟨v, h1, rfl⟩ := map_some h
          exact index_sound hR ht ho hu hz hx hy hcond.1 hcond.2 h1
        · cases h
      · cases h
    · exact pureOp_sound hR ht h
  case h_20 x i ho =>
    split at h
    · rename_i vs hx
      obtain ⟨v, h1, rfl⟩ := map_some h
      have r := evalV_rel ht hx
      generalize hcx : a.eval x = cx at r
      cases r with
      | tup s =>
        obtain ⟨y, g1, g2⟩ := s.get i v h1
        refine opSound_pure hR (cv := y) ?_ g2
        rw [execOp, ho]
        simp [hcx, Instr.extract, g1]
    · cases h
  case h_21 c ho =>
    split at h
    · rename_i b hb
      exact builtinE_sound hR hL ht ho hb h hfresh
    · split at h
      · rename_i f vs hres
        exact call_sound hc hR hL ht ho hres h hfresh
      · cases h
  case h_22 op ty x y tz ho =>
    split at h
    · rename_i e he
      cases h
      exact nilCmp_sound hR hL ht ho he
    · exact pureOp_sound hR ht h
  case h_23 => exact pureOp_sound hR ht h
end
end
end Go.Proofs.Ytnnfcebnmogdmaa.VM
/- The machine of values: regions whose order is open. No conditions. -/
namespace Go.Proofs.Ytnnfcebnmogdmaa.VM
set_option linter.unusedSimpArgs false
set_option linter.unusedVariables false
open Go Go.RowKit
noncomputable section

def putV (t : List V) (d : Option Tmp) (v : V) : List V :=
  match d with
  | some d => setn t d v
  | none => t
def wantedV (ops : List Oper) (t : List V) (o : Oper) : Bool :=
  match o.guard with
  | none => true
  | some (j, want) => match (ops[j]?).bind (·.dst) with
    | some d => match nth t d with
      | .bool b => b == want
      | _ => false
    | none => false
theorem wantedV_eq {E : Env} {t : List V} {a : Act} (ht : RelL E t a.tmps.toList) (ops : Array Oper) (o : Oper) : Region.wanted o (yielded ops a.tmps) = wantedV ops.toList t o := by
  unfold Region.wanted wantedV
  cases hg : o.guard with
  | none => rfl
  | some p =>
    obtain ⟨j, want⟩ := p
    simp only [yielded]
    have hj : ops.toList[j]? = ops[j]? := by simp
    rw [hj]
    cases hd : (ops[j]?).bind (·.dst) with
    | none => rfl
    | some d =>
      simp only [Option.bind_some]
      have hr := nth_rel ht d
      rw [nth_eq] at hr ⊢
      rw [Array.getD_eq_getD_getElem?] at hr
      cases hq : a.tmps[d]? with
      | none =>
        rw [hq] at hr
        simp only [Option.getD_none] at hr
        generalize hv : t.getD d (.tup []) = v at hr ⊢
        generalize hu : undef = u at hr
        cases hr <;> first | rfl | (unfold undef at hu; cases hu)
      | some c =>
        rw [hq] at hr
        simp only [Option.getD_some] at hr
        generalize hv : t.getD d (.tup []) = v at hr ⊢
        cases hr <;> first | rfl | (rename_i b; cases b <;> cases want <;> rfl)

/-- The values that an operation looks at decide what it does. -/
theorem evalL_congr {t t' : List V} : ∀ {xs : List Operand}, (∀ x ∈ xs, evalV t x = evalV t' x) → evalL t xs = evalL t' xs
  | [], _ => rfl
  | x :: r, h => by rw [evalL, evalL, h x (List.mem_cons_self ..), evalL_congr fun y hy => h y (List.mem_cons_of_mem _ hy)]
theorem evalParts_congr {t t' : List V} : ∀ {xs : List (Nat × Operand)}, (∀ x ∈ xs, evalV t x.2 = evalV t' x.2) → evalParts t xs = evalParts t' xs
  | [], _ => rfl
  | (i, x) :: r, h => by rw [evalParts, evalParts, h (i, x) (List.mem_cons_self ..), evalParts_congr fun y hy => h y (List.mem_cons_of_mem _ hy)]
theorem optV_congr {t t' : List V} {x : Option Operand} (h : ∀ y, x = some y → evalV t y = evalV t' y) : optV t x = optV t' x := by
  cases x with
  | none => rfl
  | some y => rw [optV, optV, h y rfl]
theorem pureOp_congr {P : Program} {t t' : List V} {o : Oper} (h : ∀ x ∈ o.op.operands, evalV t x = evalV t' x) : pureOp P t o = pureOp P t' o := by
  have h1 : ∀ x ∈ o.op.operands, ρOf t x = ρOf t' x := fun x hx => by unfold ρOf; rw [h x hx]
  have h2 : o.op.operands.toList.all (fun x => ((evalV t x).bind toVal).isSome) = o.op.operands.toList.all (fun x => ((evalV t' x).bind toVal).isSome) := by
    rw [Bool.eq_iff_iff, List.all_eq_true, List.all_eq_true]
    constructor
    · intro q x hx
      rw [← h x (by simpa using hx)]
      exact q x hx
    · intro q x hx
      rw [h x (by simpa using hx)]
      exact q x hx
  unfold pureOp
  rw [h2]
  split
  · split
    · rfl
    · rename_i hs
      rw [execOp_congr o (fun cs b e => hs cs b e) h1]
  · rfl
theorem opS_congr {P : Program} {call : CallF} {L : Heap} {base : Nat} {t t' : List V} {o : Oper} (h : ∀ x ∈ o.op.operands, evalV t x = evalV t' x) : opS P call L base t o = opS P call L base t' o := by
  have hp := pureOp_congr (P := P) h
  obtain ⟨dst, op, type, pos, after, guard⟩ := o
  cases op <;> simp only [Op.operands] at h <;> simp only [opS, hp]
  case move x => rw [h x (by simp)]
  case assign x => rw [h x (by simp)]
  case pick c x y => rw [h c (by simp), h x (by simp), h y (by simp)]
  case box ty x => rw [h x (by simp)]
  case build ty ps =>
    have := evalParts_congr (t := t) (t' := t') (xs := ps.toList) fun x hx => h x.2 (by simp; exact ⟨x.1, by simpa using hx⟩)
    simp only [buildV, this]
  case buildSlice ty n ps =>
    have := evalParts_congr (t := t) (t' := t') (xs := ps.toList) fun x hx => h x.2 (by simp; exact ⟨x.1, by simpa using hx⟩)
    simp only [buildSliceV, this]
  case load ty x => rw [h x (by simp)]
  case store ty x y => rw [h x (by simp), h y (by simp)]
  case nilCheck x => rw [h x (by simp)]
  case convert s d x => rw [h x (by simp)]
  case makeInterface ty x => rw [h x (by simp)]
  case makeFunc fn f c => rw [evalL_congr (xs := f.toList) fun x hx => h x (by simp; exact .inl (by simpa using hx)), evalL_congr (xs := c.toList) fun x hx => h x (by simp; exact .inr (by simpa using hx))]
  case makeSlice ty x y => rw [h x (by simp), h y (by simp)]
  case slice ty x lo hi mx =>
    rw [h x (by simp), optV_congr (x := lo) fun y hy => h y (by simp [hy]), optV_congr (x := hi) fun y hy => h y (by simp [hy]), optV_congr (x := mx) fun y hy => h y (by simp [hy])]
  case fieldAddr s x f => rw [h x (by simp)]
  case field s x f => rw [h x (by simp)]
  case indexAddr s x y => rw [h x (by simp), h y (by simp)]
  case index s x y => rw [h x (by simp), h y (by simp)]
  case extract x i => rw [h x (by simp)]
  case binOp op ty x y tz => simp only [nilCmp]; rw [h x (by simp), h y (by simp)]
  case call c =>
    obtain ⟨cal, args, ats⟩ := c
    have hargs : ∀ x ∈ args.toList, evalV t x = evalV t' x := fun x hx => h x (by simp [Call.operands]; exact .inr (by simpa using hx))
    cases cal with
    | builtin b =>
      simp only [builtinE, hp]
      split <;> simp_all
    | value f => simp only [resolveV, evalL_congr hargs, h f (by simp [Call.operands])]
    | invoke r m => simp only [resolveV, evalL_congr hargs, h r (by simp [Call.operands])]
/-! The same, by a shorter way for what is done most. -/
def fastBin (op : BinOp) (k l : IntKind) (a b : Int) : Option V :=
  match op with
  | .shr => if b < 0 then none else some (.int k (a.fdiv (2 ^ min b.toNat k.bits)))
  | .shl => if b < 0 then none else some (.int k (k.wrap (a * 2 ^ min b.toNat k.bits)))
  | op => if k = l then match op with
    | .add => some (.int k (k.wrap (a + b)))
    | .sub => some (.int k (k.wrap (a - b)))
    | .mul => some (.int k (k.wrap (a * b)))
    | .and => some (.int k (k.wrap (((a % 2 ^ k.bits).toNat &&& (b % 2 ^ k.bits).toNat : Nat) : Int)))
    | .or => some (.int k (k.wrap (((a % 2 ^ k.bits).toNat ||| (b % 2 ^ k.bits).toNat : Nat) : Int)))
    | .xor => some (.int k (k.wrap (((a % 2 ^ k.bits).toNat ^^^ (b % 2 ^ k.bits).toNat : Nat) : Int)))
    | .eql => some (.bool (a == b))
    | .neq => some (.bool (a != b))
    | .lss => some (.bool (decide (a < b)))
    | .leq => some (.bool (decide (a ≤ b)))
    | .gtr => some (.bool (decide (a > b)))
    | .geq => some (.bool (decide (a ≥ b)))
    | _ => none
    else none
def fastE (P : Program) (L : Heap) (t : List V) (o : Oper) : Option Eff :=
  match o.op with
  | .move x => (evalV t x).map Eff.pure
  | .assign x => (evalV t x).map Eff.pure
  | .binOp op _ x y _ => match evalV t x, evalV t y with
    | some (.int k a), some (.int l b) => (fastBin op k l a b).map Eff.pure
    | _, _ => none
  | .convert s d x => match evalV t x, P.underlying s, P.underlying d with
    | some (.int _ n), some _, some (.int k) => some (Eff.pure (.int k (k.wrap n)))
    | _, _, _ => none
  | .load ty x => match evalV t x with
    | some p => (loadV P L ty p).map Eff.pure
    | none => none
  | .indexAddr s x y => match evalV t x, evalV t y with
    | some p, some (.int _ i) => (idxAddr P L s p i).map Eff.pure
    | _, _ => none
  | .store ty x y => match evalV t x, evalV t y with
    | some p, some v => storeV P L ty p v
    | _, _ => none
  | .fieldAddr s x f => match evalV t x, fieldOff P s f with
    | some p, some (off, _) => (ptrAdd L p off).map Eff.pure
    | _, _ => none
  | _ => none
def opE (P : Program) (call : CallF) (L : Heap) (base : Nat) (t : List V) (o : Oper) : Option Eff :=
  match fastE P L t o with
  | some e => some e
  | none => opS P call L base t o
theorem fastBin_run {P : Program} {op : BinOp} {k l : IntKind} {a b : Int} {v : V} (h : fastBin op k l a b = some v) {t : List V} {o : Oper} {ty : TypeId} {x y : Operand} {z : TypeId} (ho : o.op = .binOp op ty x y z)
    (hx : evalV t x = some (.int k a)) (hy : evalV t y = some (.int l b)) : pureOp P t o = some (Eff.pure v) := by
  have h1 : o.op.operands.toList.all (fun x => ((evalV t x).bind toVal).isSome) = true := by
    rw [ho]
    simp [Op.operands, hx, hy, toVal, toAg, toSc]
  have rx : ρOf t x = .int k a := by simp [ρOf, hx, toVal, toAg, toSc]
  have ry : ρOf t y = .int l b := by simp [ρOf, hy, toVal, toAg, toSc]
  unfold pureOp
  rw [if_pos h1]
  simp only [ho]
  unfold execOp
  simp only [ho, rx, ry]
  unfold fastBin at h
  have hbv : ∀ (i : Int) (n : Nat), (BitVec.ofInt n i).toNat = (i % 2 ^ n).toNat := fun i n => by rw [BitVec.toNat_ofInt]; simp
  cases op <;> simp only [] at h
  all_goals (split at h <;> rename_i hq <;> simp only [Option.some.injEq, reduceCtorEq] at h)
  all_goals subst h
  all_goals (try subst hq)
  all_goals (simp [eqGuard, binOp, Op.shift, Op.intArith, Op.intBits, Op.intCmp, hbv]; try simp only [hq, if_false])
  all_goals rfl
theorem pureRun_bind {α β : Type} {P : Program} : ∀ (x : Sem α) (f : α → Sem β), pureRun P (x >>= f) = (pureRun P x).bind fun a => pureRun P (f a)
  | .pure a, f => rfl
  | .program k, f => pureRun_bind (k P) f
  | .mark _ k, f => pureRun_bind k f
  | .load .., f => rfl
  | .store .., f => rfl
  | .new .., f => rfl
  | .shape .., f => rfl
  | .freeze .., f => rfl
  | .frozen .., f => rfl
  | .getObj .., f => rfl
  | .setObj .., f => rfl
  | .choose .., f => rfl
  | .sys .., f => rfl
  | .halt .., f => rfl
theorem fastE_eq {P : Program} {call : CallF} {L : Heap} {base : Nat} {t : List V} {o : Oper} {e : Eff} (h : fastE P L t o = some e) : opS P call L base t o = some e := by
  unfold fastE at h
  unfold opS
  split at h <;> rename_i ho <;> (try simp only [ho]) <;> try exact h
  · rename_i op ty x y z
    split at h
    · rename_i hx hy
      obtain ⟨v, h1, rfl⟩ := map_some h
      have hn : nilCmp P L t op ty x y = none := by
        unfold nilCmp
        rw [hy]
        split <;> first | rfl | (rename_i h3; cases h3)
      rw [hn]
      exact fastBin_run h1 ho hx hy
    · cases h
  · rename_i s d x
    split at h
    · rename_i kk n ds k hx hs hd
      cases h
      have h1 : o.op.operands.toList.all (fun x => ((evalV t x).bind toVal).isSome) = true := by
        rw [ho]
        simp [Op.operands, hx, toVal, toAg, toSc]
      have rx : ρOf t x = .int kk n := by simp [ρOf, hx, toVal, toAg, toSc]
      have hp : pureOp P t o = some (Eff.pure (.int k (k.wrap n))) := by
        unfold pureOp
        rw [if_pos h1]
        simp only [ho]
        unfold execOp
        simp only [ho, rx]
        have hu : ∀ {tt : TypeId} {dd : TypeDesc}, P.underlying tt = some dd → pureRun P (underlying tt) = some dd := by
          intro tt dd hh
          show pureRun P (match P.underlying tt with | some d => pure d | none => stuck "no such type") = _
          rw [hh]; rfl
        have hcv : pureRun P (convert s d (.int kk n)) = some (.int k (k.wrap n)) := by
          unfold convert
          rw [pureRun_bind, hu hs]
          simp only [Option.bind_some]
          rw [pureRun_bind, hu hd]
          simp only [Option.bind_some]
          rfl
        rw [pureRun_bind, hcv]
        rfl
      simp only [hx, hs, hd]
      exact hp
    · cases h
  · cases h
theorem opE_eq (P : Program) (call : CallF) (L : Heap) (base : Nat) (t : List V) (o : Oper) : opE P call L base t o = opS P call L base t o := by
  unfold opE
  split
  · rename_i h; exact (fastE_eq h).symm
  · rfl
theorem opE_sound {P : Program} {E : Env} {L : Heap} {a : Act} {o : Oper} {base : Nat} {t : List V} {call : CallF} (hc : CallOK P call) (hR : HRel E) (hL : Sub L E) (ht : RelL E t a.tmps.toList) {eff : Eff}
    (h : opE P call L base t o = some eff) (hfresh : ∀ b, base ≤ b → b < base + eff.new.length → E.ρ b = none) : OpSound P E a o base eff :=
  opS_sound hc hR hL ht (by rwa [opE_eq] at h) hfresh
theorem opE_congr {P : Program} {call : CallF} {L : Heap} {base : Nat} {t t' : List V} {o : Oper} (h : ∀ x ∈ o.op.operands, evalV t x = evalV t' x) : opE P call L base t o = opE P call L base t' o := by
  rw [opE_eq, opE_eq, opS_congr h]
end
end Go.Proofs.Ytnnfcebnmogdmaa.VM
/- The machine of values: regions whose order is open: one walk, and its looks. No conditions. -/
namespace Go.Proofs.Ytnnfcebnmogdmaa.VM
set_option linter.unusedSimpArgs false
set_option linter.unusedVariables false
open Go Go.RowKit
noncomputable section

/-! Equality of values, as a Bool. -/
def allL (f : V → V → Bool) : List V → List V → Bool
  | [], [] => true
  | a :: r, b :: s => f a b && allL f r s
  | _, _ => false
def veq : Nat → V → V → Bool
  | 0, _, _ => false
  | n + 1, a, b => match a, b with
    | .int k i, .int l j => k == l && i == j
    | .bool x, .bool y => x == y
    | .str s, .str u => decide (s.data.toList = u.data.toList)
    | .agg c, .agg d => allL (veq n) c d
    | .tup c, .tup d => allL (veq n) c d
    | .iface t v, .iface u w => t == u && veq n v w
    | .nilIface, .nilIface => true
    | .func f a b, .func g c d => decide (f = g) && allL (veq n) a c && allL (veq n) b d
    | .nilFunc, .nilFunc => true
    | .nilPtr, .nilPtr => true
    | .ptrI f c, .ptrI g d => f == g && allL (veq n) c d
    | .ptrB a b c, .ptrB d e f => a == d && b == e && c == f
    | .nilSl, .nilSl => true
    | .slI f c m t, .slI g d k u => f == g && m == k && t == u && allL (veq n) c d
    | .slB a b c m, .slB d e f k => a == d && b == e && c == f && m == k
    | _, _ => false
theorem allL_eq {f : V → V → Bool} (hf : ∀ a b, f a b = true → a = b) : ∀ {a b : List V}, allL f a b = true → a = b
  | [], [], _ => rfl
  | x :: r, y :: s, h => by
    simp only [allL, Bool.and_eq_true] at h
    rw [hf x y h.1, allL_eq hf h.2]
  | [], _ :: _, h => by cases h
  | _ :: _, [], h => by cases h
theorem veq_eq : ∀ (n : Nat) (a b : V), veq n a b = true → a = b
  | 0, _, _, h => by cases h
  | n + 1, a, b, h => by
    have ih := veq_eq n
    have ihl := fun {a b : List V} => allL_eq (f := veq n) ih (a := a) (b := b)
    unfold veq at h
    split at h <;> (try simp only [Bool.and_eq_true, beq_iff_eq, decide_eq_true_eq] at h)
    case h_1 => obtain ⟨rfl, rfl⟩ := h; rfl
    case h_2 => subst h; rfl
    case h_3 => rename_i s u; cases s; cases u; simp only [Array.toList_inj] at h; rw [h]
    case h_4 => rw [ihl h]
    case h_5 => rw [ihl h]
    case h_6 => obtain ⟨rfl, h⟩ := h; rw [ih _ _ h]
    case h_7 => rfl
    case h_8 => obtain ⟨⟨rfl, h1⟩, h2⟩ := h; rw [ihl h1, ihl h2]
    case h_9 => rfl
    case h_10 => rfl
    case h_11 => obtain ⟨rfl, h⟩ := h; rw [ihl h]
    case h_12 => obtain ⟨⟨rfl, rfl⟩, rfl⟩ := h; rfl
    case h_13 => rfl
    case h_14 => obtain ⟨⟨⟨rfl, rfl⟩, rfl⟩, h⟩ := h; rw [ihl h]
    case h_15 => obtain ⟨⟨⟨rfl, rfl⟩, rfl⟩, rfl⟩ := h; rfl
    case h_16 => cases h
def beqB (a b : Blk) : Bool := allL (veq 60) a.cells b.cells && a.k == b.k && a.ver == b.ver && a.fz == b.fz
def beqBs : List Blk → List Blk → Bool
  | [], [] => true
  | a :: r, b :: s => beqB a b && beqBs r s
  | _, _ => false
theorem beqBs_eq : ∀ {a b : List Blk}, beqBs a b = true → a = b
  | [], [], _ => rfl
  | x :: r, y :: s, h => by
    simp only [beqBs, beqB, Bool.and_eq_true, beq_iff_eq] at h
    obtain ⟨⟨⟨⟨h1, h2⟩, h3⟩, h4⟩, h5⟩ := h
    have := allL_eq (veq_eq 60) h1
    obtain ⟨a, b, c, d⟩ := x
    obtain ⟨a', b', c', d'⟩ := y
    simp only at this h2 h3 h4
    subst this h2 h3 h4
    rw [beqBs_eq h5]
  | [], _ :: _, h => by cases h
  | _ :: _, [], h => by cases h
def effEq (a b : Eff) : Bool := a.wr.isEmpty && b.wr.isEmpty && veq 60 a.v b.v && beqBs a.new b.new
theorem effEq_eq {a b : Eff} (h : effEq a b = true) : a = b ∧ a.wr = [] := by
  simp only [effEq, Bool.and_eq_true, List.isEmpty_iff] at h
  obtain ⟨⟨⟨h1, h2⟩, h3⟩, h4⟩ := h
  obtain ⟨v, w, n⟩ := a
  obtain ⟨v', w', n'⟩ := b
  simp only at h1 h2 h3 h4
  subst h1 h2
  rw [veq_eq 60 _ _ h3, beqBs_eq h4]
  exact ⟨rfl, rfl⟩

/-! What an order has to keep. -/
def preMask (acc : List Nat) (o : Oper) : Nat :=
  o.after.toList.foldl (fun s e => if Region.binds .any e then s ||| 2 ^ e.on ||| acc.getD e.on 0 else s) 0
def masks : List Oper → List Nat → List Nat
  | [], acc => acc
  | o :: r, acc => masks r (acc ++ [preMask acc o])
def bitM (ms : List Nat) (j i : Nat) : Bool := (ms.getD j 0).testBit i
def looksV (ops : List Oper) (o : Oper) : List Tmp :=
  (o.op.operands.toList.filterMap fun | .tmp t => some t | _ => none) ++
  (match o.guard with
   | some (g, _) => ((ops[g]?).bind (·.dst)).toList
   | none => [])
def apartV (ops : List Oper) (x y : Oper) : Bool :=
  (match x.dst with
   | some d => !(looksV ops y).contains d && y.dst != some d
   | none => true) &&
  (match y.dst with
   | some d => !(looksV ops x).contains d
   | none => true)
def okEdges (ms : List Nat) (j : Nat) (y : Oper) : Bool := y.after.toList.all fun e => !Region.binds .any e || (decide (e.on < j) && bitM ms j e.on)
def okPairs (ops : List Oper) (ms : List Nat) (j : Nat) (y : Oper) : Bool :=
  (List.range j).all fun i => if bitM ms j i then (y.after.toList.any fun e => Region.binds .any e && (e.on == i || (decide (i < e.on) && bitM ms e.on i))) && (List.range i).all fun k => !bitM ms i k || bitM ms j k
    else match ops[i]? with
      | none => true
      | some x => apartV ops x y
/-- Looks at a region's text: edges lead back; what precedes is closed; operations that may change places are apart. -/
def drawOK (ops : List Oper) (ms : List Nat) : Bool :=
  (List.range ops.length).all fun j => match ops[j]? with
    | none => true
    | some y => okEdges ms j y && okPairs ops ms j y

structure Cfg where
  thaw : FuncId → Bool
  shared : FuncId → Bool
  ext : FuncId → Option (Nat → List V → Option (V × List Blk))
abbrev ShareF := FuncId → List V → Heap → Nat → Option (V × Heap × Nat)
def sharedV (P : Program) (cf : Cfg) (t : List V) (o : Oper) : Option (FuncId × List V) :=
  match o.op with
  | .call c => match c.callee with
    | .builtin _ => none
    | _ => match resolveV P t c with
      | some (f, vs) => if cf.shared f then some (f, vs) else none
      | none => none
  | _ => none
def effD (L H' : Heap) (p : Nat × Blk) : Option (Nat × Blk) :=
  match hget L p.1, hget H' p.1 with
  | some x, some y => if beqB x y then none else some (p.1, y)
  | _, _ => none
/-- What a call in the same memory has done, as an effect. -/
def effH (L H' : Heap) (nx nx' : Nat) (v : V) : Option Eff :=
  if (decide (nx ≤ nx') && L.all (fun p => decide (p.1 < nx) && (hget H' p.1).isSome) && H'.all (fun p => decide (nx ≤ p.1 ∧ p.1 < nx') || (hget L p.1).isSome)) = true then
    match mapO (fun j => hget H' (nx + j)) (List.range (nx' - nx)) with
    | some new => some ⟨v, L.filterMap (effD L H'), new⟩
    | none => none
  else none
def stepE (P : Program) (cf : Cfg) (call : CallF) (sh : ShareF) (L : Heap) (nx : Nat) (t : List V) (o : Oper) : Option (Bool × Eff) :=
  match sharedV P cf t o with
  | some (f, vs) => match sh f vs L nx with
    | some (v, H', nx') => match effH L H' nx nx' v with
      | some e => some (true, e)
      | none => none
    | none => none
  | none => match opE P call L nx t o with
    | some e => some (false, e)
    | none => none

structure DRec where
  i : Nat
  o : Oper
  wt : Bool
  base : Nat
  t : List V
  eff : Eff
  ex : Bool

/-- The heap behind those of these operations (the last is the first) that are chosen. -/
def heapOf (H0 : Heap) (D : Nat → Bool) : List DRec → Heap
  | [] => H0
  | r :: rest => match r.eff.wr, r.eff.new with
    | [], [] => heapOf H0 D rest
    | _, _ => if D r.i then applyL (heapOf H0 D rest) r.base r.eff else heapOf H0 D rest
def fwd (P : Program) (cf : Cfg) (call : CallF) (sh : ShareF) (ops : List Oper) (ms : List Nat) (H0 : Heap) : List Oper → Nat → List V → Nat → List DRec → Option (List V × Nat × List DRec)
  | [], _, t, nx, recs => some (t, nx, recs)
  | o :: r, i, t, nx, recs =>
    if wantedV ops t o then
      match stepE P cf call sh (heapOf H0 (bitM ms i) recs) nx t o with
      | some (ex, eff) => fwd P cf call sh ops ms H0 r (i + 1) (putV t o.dst eff.v) (nx + eff.new.length) (⟨i, o, true, nx, t, eff, ex⟩ :: recs)
      | none => none
    else fwd P cf call sh ops ms H0 r (i + 1) (putV t o.dst (.tup [])) nx (⟨i, o, false, nx, t, Eff.pure (.tup []), false⟩ :: recs)
def hrem : Heap → List Nat → Heap
  | [], _ => []
  | (b, x) :: r, X => if X.contains b then hrem r X else (b, x) :: hrem r X
def xids (ms : List Nat) (i : Nat) : List DRec → List Nat
  | [] => []
  | r :: rest => match r.eff.wr with
    | [] => xids ms i rest
    | w => if r.i == i || (if r.i < i then bitM ms i r.i else bitM ms r.i i) then xids ms i rest else w.map (·.1) ++ xids ms i rest
/-- Operations that look at no cells: addresses. -/
def addrOp (o : Oper) : Bool :=
  match o.op with
  | .fieldAddr .. => true
  | .indexAddr .. => true
  | _ => false
/-- Operations that look at no memory at all. -/
def freeOp (o : Oper) : Bool :=
  match o.op with
  | .move _ => true
  | .assign _ => true
  | .extract .. => true
  | .pick .. => true
  | .binOp op _ _ _ _ => (match op with
    | .add => true
    | .sub => true
    | .mul => true
    | .rem => true
    | .quo => true
    | .lss => true
    | .leq => true
    | .gtr => true
    | .geq => true
    | _ => false)
  | _ => false
/-- The block that a load, or the address of a field, looks at. -/
def loadB (t : List V) (o : Oper) : Option Nat :=
  match o.op with
  | .load _ x => (match evalV t x with
    | some (.ptrB b _ _) => some b
    | _ => none)
  | .fieldAddr _ x _ => (match evalV t x with
    | some (.ptrB b _ _) => some b
    | _ => none)
  | _ => none
def chk (P : Program) (call : CallF) (ms : List Nat) (H0 : Heap) (all : List DRec) : List DRec → Bool
  | [] => true
  | r :: rest =>
    (match xids ms r.i all with
      | [] => r.eff.wr.all fun p => (hget (heapOf H0 (bitM ms r.i) rest) p.1).isSome
      | X => r.eff.wr.isEmpty && !r.ex && (!r.wt || freeOp r.o || (match opE P call (hrem (heapOf H0 (bitM ms r.i) rest) X) r.base r.t r.o with
        | some e => effEq e r.eff
        | none => false) || (addrOp r.o && all.all fun x => x.i == r.i || (if x.i < r.i then bitM ms r.i x.i else bitM ms x.i r.i) || x.eff.wr.all fun p => match hget (heapOf H0 (bitM ms r.i) rest) p.1 with
          | some blk => blk.ver == p.2.ver
          | none => true) || (match loadB r.t r.o with | some b => !X.contains b | none => false))) &&
    (!r.ex || all.all fun x => x.i == r.i || (if x.i < r.i then bitM ms r.i x.i else bitM ms x.i r.i) || (x.eff.wr.isEmpty && x.eff.new.isEmpty)) && chk P call ms H0 all rest
def runDraw (P : Program) (cf : Cfg) (call : CallF) (sh : ShareF) (ops : List Oper) (t : List V) (H0 : Heap) (nx : Nat) : Option (List V × Heap × Nat) :=
  let ms := masks ops []
  if drawOK ops ms = true then
    match fwd P cf call sh ops ms H0 ops 0 t nx [] with
    | some (t', nx', recs) => if (recs.all fun r => r.eff.wr.isEmpty && !r.ex) || chk P call ms H0 recs recs then some (t', heapOf H0 (fun _ => true) recs, nx') else none
    | none => none
  else none
end
end Go.Proofs.Ytnnfcebnmogdmaa.VM
/- The machine of values: one walk serves every order. No conditions. -/
namespace Go.Proofs.Ytnnfcebnmogdmaa.VM
set_option linter.unusedSimpArgs false
set_option linter.unusedVariables false
open Go Go.RowKit
noncomputable section

def hF (H : Nat → Option Blk) (D : Nat → Bool) : List DRec → Nat → Option Blk
  | [] => H
  | r :: rest => if D r.i then applyF (hF H D rest) r.base r.eff else hF H D rest
def tF (t0 : List V) (D : Nat → Bool) : List DRec → List V
  | [] => t0
  | r :: rest => if D r.i then putV (tF t0 D rest) r.o.dst r.eff.v else tF t0 D rest
theorem heapOf_get (H0 : Heap) (D : Nat → Bool) : ∀ rs, hget (heapOf H0 D rs) = hF (hget H0) D rs
  | [] => rfl
  | r :: rest => by
    have ih := heapOf_get H0 D rest
    rw [heapOf, hF]
    split
    · rename_i h1 h2
      have : ∀ H, applyF H r.base r.eff = H := fun H => by unfold applyF; rw [h1, h2]; rfl
      rw [ih]
      split
      · rw [this]
      · rfl
    · split
      · rw [hget_applyL, ih]
      · exact ih
theorem hrem_get : ∀ (L : Heap) (X : List Nat) (b : Nat), hget (hrem L X) b = if X.contains b then none else hget L b
  | [], X, b => by simp [hrem, hget]
  | (i, x) :: r, X, b => by
    rw [hrem]
    split
    · rename_i h
      rw [hrem_get r X b, hget_cons]
      unfold updF
      by_cases q : b = i
      · subst q; rw [if_pos h, if_pos h]
      · rw [if_neg q]
    · rename_i h
      rw [hget_cons, hget_cons]
      unfold updF
      by_cases q : b = i
      · subst q; rw [if_pos rfl, if_neg h, if_pos rfl]
      · rw [if_neg q, if_neg q, hrem_get r X b]

/-- What an operation's effect touches. -/
def Aff (r : DRec) (b : Nat) : Prop := b ∈ r.eff.wr.map (·.1) ∨ (r.base ≤ b ∧ b < r.base + r.eff.new.length)
theorem setsF_not {l : List (Nat × Blk)} {b : Nat} : ∀ {H : Nat → Option Blk}, b ∉ l.map (·.1) → setsF l H b = H b := by
  induction l with
  | nil => intro H _; rfl
  | cons p l ih =>
    intro H h
    obtain ⟨j, x⟩ := p
    simp only [List.map_cons, List.mem_cons, not_or] at h
    rw [setsF, ih h.2]
    unfold updF
    rw [if_neg h.1]
theorem setsF_in {l : List (Nat × Blk)} {b : Nat} : b ∈ l.map (·.1) → ∃ x, ∀ H, setsF l H b = some x := by
  induction l with
  | nil => intro h; cases h
  | cons p l ih =>
    intro h
    obtain ⟨j, x⟩ := p
    by_cases q : b ∈ l.map (·.1)
    · obtain ⟨y, hy⟩ := ih q
      exact ⟨y, fun H => by rw [setsF, hy]⟩
    · simp only [List.map_cons, List.mem_cons] at h
      have hb : b = j := h.resolve_right q
      refine ⟨x, fun H => ?_⟩
      rw [setsF, setsF_not q]
      unfold updF
      rw [if_pos hb]
theorem applyF_not {r : DRec} {b : Nat} (h : ¬ Aff r b) (H : Nat → Option Blk) : applyF H r.base r.eff b = H b := by
  unfold Aff at h
  rw [not_or] at h
  unfold applyF
  rw [newsF_get, if_neg h.2, setsF_not h.1]
theorem applyF_aff {r : DRec} {b : Nat} (h : Aff r b) : ∃ x, ∀ H, applyF H r.base r.eff b = some x := by
  unfold applyF
  by_cases q : r.base ≤ b ∧ b < r.base + r.eff.new.length
  · refine ⟨r.eff.new[b - r.base]'(by omega), fun H => ?_⟩
    rw [newsF_get, if_pos q, List.getElem?_eq_getElem]
  · obtain ⟨x, hx⟩ := setsF_in (h.resolve_right q)
    exact ⟨x, fun H => by rw [newsF_get, if_neg q, hx]⟩
theorem hF_congr {H : Nat → Option Blk} {D D' : Nat → Bool} {b : Nat} : ∀ {rs : List DRec}, (∀ r ∈ rs, Aff r b → D r.i = D' r.i) → hF H D rs b = hF H D' rs b
  | [], _ => rfl
  | r :: rest, h => by
    have ih := hF_congr (H := H) (rs := rest) fun x hx => h x (List.mem_cons_of_mem _ hx)
    rw [hF, hF]
    by_cases ha : Aff r b
    · rw [h r (List.mem_cons_self ..) ha]
      obtain ⟨x, hx⟩ := applyF_aff ha
      split
      · rw [hx, hx]
      · exact ih
    · split <;> split <;> (try rw [applyF_not ha]) <;> (try rw [applyF_not ha]) <;> exact ih
theorem hF_none {H : Nat → Option Blk} {D : Nat → Bool} {b : Nat} : ∀ {rs : List DRec} {x : Blk}, hF H D rs b = some x → H b = some x ∨ ∃ r ∈ rs, D r.i = true ∧ Aff r b
  | [], x, h => .inl h
  | r :: rest, x, h => by
    rw [hF] at h
    split at h
    · rename_i hd
      by_cases ha : Aff r b
      · exact .inr ⟨r, List.mem_cons_self .., hd, ha⟩
      · rw [applyF_not ha] at h
        exact (hF_none h).imp id fun ⟨y, h1, h2⟩ => ⟨y, List.mem_cons_of_mem _ h1, h2⟩
    · exact (hF_none h).imp id fun ⟨y, h1, h2⟩ => ⟨y, List.mem_cons_of_mem _ h1, h2⟩
theorem applyF_comm {r x : DRec} (h : ∀ b, ¬ (Aff r b ∧ Aff x b)) (H : Nat → Option Blk) : applyF (applyF H r.base r.eff) x.base x.eff = applyF (applyF H x.base x.eff) r.base r.eff := by
  funext b
  by_cases hx : Aff x b
  · have hr : ¬ Aff r b := fun q => h b ⟨q, hx⟩
    obtain ⟨y, hy⟩ := applyF_aff hx
    rw [hy, applyF_not hr, hy]
  · by_cases hr : Aff r b
    · obtain ⟨y, hy⟩ := applyF_aff hr
      rw [applyF_not hx, hy, hy]
    · rw [applyF_not hx, applyF_not hr, applyF_not hr, applyF_not hx]
theorem hF_add {H : Nat → Option Blk} {D : Nat → Bool} {r : DRec} {rest : List DRec} (hD : D r.i = false) (hrest : ∀ x ∈ rest, x.i ≠ r.i) : ∀ {pre : List DRec}, (∀ x ∈ pre, x.i ≠ r.i) → (∀ x ∈ pre, D x.i = true → ∀ b, ¬ (Aff r b ∧ Aff x b)) →
    hF H (fun j => D j || j == r.i) (pre ++ r :: rest) = applyF (hF H D (pre ++ r :: rest)) r.base r.eff
  | [], _, _ => by
    have h1 : hF H (fun j => D j || j == r.i) rest = hF H D rest := by
      funext b
      exact hF_congr fun x hx _ => by simp [hrest x hx]
    simp only [List.nil_append, hF, hD, beq_self_eq_true, Bool.or_true, if_true, Bool.false_eq_true, if_false, h1]
  | x :: pre, hp, ha => by
    have ih := hF_add (H := H) hD hrest (pre := pre) (fun y hy => hp y (List.mem_cons_of_mem _ hy)) (fun y hy => ha y (List.mem_cons_of_mem _ hy))
    have hx : (x.i == r.i) = false := by simpa using hp x (List.mem_cons_self ..)
    simp only [List.cons_append, hF, hx, Bool.or_false, ih]
    split
    · rename_i hd
      exact applyF_comm (ha x (List.mem_cons_self ..) hd) _
    · rfl

theorem putV_length (t : List V) (d : Option Tmp) (v : V) : (putV t d v).length = t.length := by
  cases d with
  | none => rfl
  | some d => simp [putV, setn_eq]
theorem tF_length (t0 : List V) (D : Nat → Bool) : ∀ rs, (tF t0 D rs).length = t0.length
  | [] => rfl
  | r :: rest => by
    rw [tF]
    split
    · rw [putV_length, tF_length t0 D rest]
    · exact tF_length t0 D rest
theorem putV_get {t t' : List V} {d : Option Tmp} {v : V} {s : Nat} (hl : t.length = t'.length) (h : t[s]? = t'[s]?) : (putV t d v)[s]? = (putV t' d v)[s]? := by
  cases d with
  | none => exact h
  | some d =>
    simp only [putV, setn_eq, List.getElem?_set]
    split
    · rw [hl]
    · exact h
theorem putV_ne {t : List V} {d : Option Tmp} {v : V} {s : Nat} (h : d ≠ some s) : (putV t d v)[s]? = t[s]? := by
  cases d with
  | none => rfl
  | some d =>
    have : d ≠ s := fun e => h (by rw [e])
    simp [putV, setn_eq, List.getElem?_set, this]
theorem tF_congr {t0 : List V} {D D' : Nat → Bool} {s : Nat} : ∀ {rs : List DRec}, (∀ r ∈ rs, r.o.dst = some s → D r.i = D' r.i) → (tF t0 D rs)[s]? = (tF t0 D' rs)[s]?
  | [], _ => rfl
  | r :: rest, h => by
    have ih := tF_congr (t0 := t0) (rs := rest) fun x hx => h x (List.mem_cons_of_mem _ hx)
    have hl : (tF t0 D rest).length = (tF t0 D' rest).length := by rw [tF_length, tF_length]
    rw [tF, tF]
    by_cases hd : r.o.dst = some s
    · rw [h r (List.mem_cons_self ..) hd]
      split
      · exact putV_get hl ih
      · exact ih
    · split <;> split <;> (try rw [putV_ne hd]) <;> (try rw [putV_ne hd]) <;> exact ih
theorem putV_comm (t : List V) {d e : Option Tmp} (v u : V) (h : ∀ s, d = some s → e ≠ some s) : putV (putV t d v) e u = putV (putV t e u) d v := by
  cases d with
  | none => rfl
  | some d =>
    cases e with
    | none => rfl
    | some e =>
      have hne : d ≠ e := fun q => h d rfl (by rw [q])
      simp only [putV, setn_eq]
      exact List.set_comm _ _ hne
theorem tF_add {t0 : List V} {D : Nat → Bool} {r : DRec} {rest : List DRec} (hD : D r.i = false) (hrest : ∀ x ∈ rest, x.i ≠ r.i) : ∀ {pre : List DRec}, (∀ x ∈ pre, x.i ≠ r.i) → (∀ x ∈ pre, D x.i = true → ∀ s, r.o.dst = some s → x.o.dst ≠ some s) →
    tF t0 (fun j => D j || j == r.i) (pre ++ r :: rest) = putV (tF t0 D (pre ++ r :: rest)) r.o.dst r.eff.v
  | [], _, _ => by
    have h1 : tF t0 (fun j => D j || j == r.i) rest = tF t0 D rest := by
      apply List.ext_getElem?
      intro s
      exact tF_congr fun x hx _ => by simp [hrest x hx]
    simp only [List.nil_append, tF, hD, beq_self_eq_true, Bool.or_true, if_true, Bool.false_eq_true, if_false, h1]
  | x :: pre, hp, ha => by
    have ih := tF_add (t0 := t0) hD hrest (pre := pre) (fun y hy => hp y (List.mem_cons_of_mem _ hy)) (fun y hy => ha y (List.mem_cons_of_mem _ hy))
    have hx : (x.i == r.i) = false := by simpa using hp x (List.mem_cons_self ..)
    simp only [List.cons_append, tF, hx, Bool.or_false, ih]
    split
    · rename_i hd
      exact putV_comm _ _ _ (ha x (List.mem_cons_self ..) hd)
    · rfl

/-- What came behind. -/
structure Later (E E' : Env) : Prop where
  x : Ext E E'
  O : E'.O = E.O
  bel : Below E.B E.w E'.w
theorem Later.refl (E : Env) : Later E E := ⟨Ext.refl E, rfl, Below.refl _ _⟩
theorem Later.trans {E E' E'' : Env} (h : Later E E') (k : Later E' E'') : Later E E'' :=
  ⟨h.x.trans k.x, k.O.trans h.O, h.bel.trans (by have := k.bel; rwa [h.x.B] at this)⟩
def ShareOK (P : Program) (sh : ShareF) : Prop := ∀ f vs H nx v H' nx', sh f vs H nx = some (v, H', nx') → ∀ (E : Env) (cs : List Value), HRel E → E.H = hget H → (∀ b, nx ≤ b → E.ρ b = none) → RelL E vs cs →
  Calls P f cs.toArray E.w (fun e w' => ∃ cv E', e = .returned cv ∧ E'.w = w' ∧ Later E E' ∧ E'.H = hget H' ∧ HRel E' ∧ Rel E' v cv ∧ ∀ b, nx' ≤ b → E'.ρ b = none)
theorem sharedV_call {P : Program} {cf : Cfg} {t : List V} {o : Oper} {f : FuncId} {vs : List V} (h : sharedV P cf t o = some (f, vs)) : ∃ c, o.op = .call c ∧ resolveV P t c = some (f, vs) := by
  unfold sharedV at h
  split at h
  · rename_i c hop
    split at h
    · cases h
    · split at h
      · rename_i f' vs' hres
        split at h
        · cases h; exact ⟨c, hop, hres⟩
        · cases h
      · cases h
  · cases h
theorem sharedV_congr {P : Program} {cf : Cfg} {t t' : List V} {o : Oper} (h : ∀ x ∈ o.op.operands, evalV t x = evalV t' x) : sharedV P cf t o = sharedV P cf t' o := by
  obtain ⟨dst, op, type, pos, after, guard⟩ := o
  unfold sharedV
  cases op <;> simp only [Op.operands] at h <;> try rfl
  case call c =>
    obtain ⟨cal, args, ats⟩ := c
    have hargs : ∀ x ∈ args.toList, evalV t x = evalV t' x := fun x hx => h x (by simp [Call.operands]; exact .inr (by simpa using hx))
    cases cal with
    | builtin b => rfl
    | value f => simp only [resolveV, evalL_congr hargs, h f (by simp [Call.operands])]
    | invoke r m => simp only [resolveV, evalL_congr hargs, h r (by simp [Call.operands])]
theorem hget_key : ∀ {L : Heap} {b : Nat} {x : Blk}, hget L b = some x → ∃ p ∈ L, p.1 = b
  | [], b, x, h => by cases h
  | (i, y) :: r, b, x, h => by
    rw [hget_cons] at h
    unfold updF at h
    split at h
    · rename_i e; exact ⟨(i, y), List.mem_cons_self .., e.symm⟩
    · obtain ⟨p, h1, h2⟩ := hget_key h
      exact ⟨p, List.mem_cons_of_mem _ h1, h2⟩
theorem beqB_eq {a b : Blk} (h : beqB a b = true) : a = b := by
  have := beqBs_eq (a := [a]) (b := [b]) (by simp [beqBs, h])
  simpa using this
theorem mapO_at {α β : Type} {f : α → Option β} : ∀ {l : List α} {r : List β}, mapO f l = some r → r.length = l.length ∧ ∀ (i : Nat) (x : α), l[i]? = some x → r[i]? = f x
  | [], r, h => by cases h; exact ⟨rfl, fun i x q => by simp at q⟩
  | a :: l, r, h => by
    simp only [mapO] at h
    cases h1 : f a with
    | none => rw [h1] at h; cases h
    | some y =>
      cases h2 : mapO f l with
      | none => rw [h1, h2] at h; cases h
      | some ys =>
        rw [h1, h2] at h
        cases h
        obtain ⟨g1, g2⟩ := mapO_at h2
        refine ⟨by simp [g1], fun i x q => ?_⟩
        cases i with
        | zero => simp at q; subst q; simp [h1]
        | succ i => simp at q; simpa using g2 i x q
theorem setsF_all {l : List (Nat × Blk)} {b : Nat} {y : Blk} (h : ∀ p ∈ l, p.1 = b → p.2 = y) : b ∈ l.map (·.1) → ∀ H, setsF l H b = some y := by
  induction l with
  | nil => intro h; cases h
  | cons p l ih =>
    intro hm H
    obtain ⟨j, x⟩ := p
    rw [setsF]
    by_cases q : b ∈ l.map (·.1)
    · exact ih (fun p hp => h p (List.mem_cons_of_mem _ hp)) q _
    · simp only [List.map_cons, List.mem_cons] at hm
      have hb : b = j := hm.resolve_right q
      rw [setsF_not q]
      unfold updF
      have hx : x = y := h (j, x) (List.mem_cons_self ..) hb.symm
      rw [if_pos hb, hx]
theorem effH_spec {L H' : Heap} {nx nx' : Nat} {v : V} {e : Eff} (h : effH L H' nx nx' v = some e) : e.v = v ∧ nx + e.new.length = nx' ∧ hget H' = applyF (hget L) nx e ∧ ∀ b, b ∈ e.wr.map (·.1) → (hget L b).isSome = true := by
  unfold effH at h
  split at h
  · rename_i hc
    simp only [Bool.and_eq_true, decide_eq_true_eq] at hc
    obtain ⟨⟨h1, h2⟩, h3⟩ := hc
    split at h
    · rename_i new hnew
      cases h
      obtain ⟨g1, g2⟩ := mapO_at hnew
      simp only [List.length_range] at g1
      have hwr : ∀ p ∈ L.filterMap (effD L H'), (hget L p.1).isSome = true ∧ hget H' p.1 = some p.2 := by
        intro p hp
        obtain ⟨q, hq1, hq2⟩ := List.mem_filterMap.1 hp
        unfold effD at hq2
        split at hq2
        · rename_i x y hx hy
          split at hq2
          · cases hq2
          · cases hq2
            exact ⟨by rw [hx]; rfl, hy⟩
        · cases hq2
      refine ⟨rfl, by simp only [g1]; omega, ?_, fun b hb => ?_⟩
      · funext b
        unfold applyF
        rw [newsF_get]
        simp only [g1]
        split
        · rename_i hb
          rw [g2 (b - nx) (b - nx) (by rw [List.getElem?_range (by omega)])]
          congr 1
          omega
        · rename_i hb
          by_cases q : b ∈ (L.filterMap (effD L H')).map (·.1)
          · obtain ⟨p, hp1, hp2⟩ := List.mem_map.1 q
            have hy := (hwr p hp1).2
            rw [setsF_all (y := p.2) (fun p' hp' he => ?_) q, ← hp2, hy]
            have := (hwr p' hp').2
            rw [he, ← hp2, hy] at this
            exact (Option.some.inj this).symm
          · rw [setsF_not q]
            cases hL : hget L b with
            | none =>
              cases hH : hget H' b with
              | none => rfl
              | some y =>
                obtain ⟨p, hp1, hp2⟩ := hget_key hH
                have := List.all_eq_true.1 h3 p hp1
                rw [hp2, hL] at this
                simp at this
                omega
            | some x =>
              obtain ⟨p, hp1, hp2⟩ := hget_key hL
              have := List.all_eq_true.1 h2 p hp1
              rw [Bool.and_eq_true, hp2] at this
              obtain ⟨y, hy⟩ := Option.isSome_iff_exists.1 this.2
              rw [hy]
              by_cases hb2 : beqB x y = true
              · rw [beqB_eq hb2]
              · exfalso
                refine q (List.mem_map.2 ⟨(p.1, y), List.mem_filterMap.2 ⟨p, hp1, ?_⟩, hp2⟩)
                unfold effD
                rw [hp2, hL, hy]
                simp only [hb2]
                rfl
      · obtain ⟨p, hp1, hp2⟩ := List.mem_map.1 hb
        rw [← hp2]
        exact (hwr p hp1).1
    · cases h
  · cases h

/-- The records of a walk. -/
inductive WF (P : Program) (cf : Cfg) (call : CallF) (sh : ShareF) (ops : List Oper) (ms : List Nat) (H0 : Heap) (t0 : List V) (nx0 : Nat) : List DRec → List V → Nat → Prop
  | nil : WF P cf call sh ops ms H0 t0 nx0 [] t0 nx0
  | cons {r : DRec} {rest : List DRec} : WF P cf call sh ops ms H0 t0 nx0 rest r.t r.base → r.i = rest.length → ops[r.i]? = some r.o → r.wt = wantedV ops r.t r.o →
      (r.wt = true → stepE P cf call sh (heapOf H0 (bitM ms r.i) rest) r.base r.t r.o = some (r.ex, r.eff)) → (r.wt = false → r.eff = Eff.pure (.tup []) ∧ r.ex = false) →
      WF P cf call sh ops ms H0 t0 nx0 (r :: rest) (putV r.t r.o.dst r.eff.v) (r.base + r.eff.new.length)
section
variable {P : Program} {cf : Cfg} {call : CallF} {sh : ShareF} {ops : List Oper} {ms : List Nat} {H0 : Heap} {t0 : List V} {nx0 : Nat}
theorem fwd_wf : ∀ {l : List Oper} {i : Nat} {t : List V} {nx : Nat} {recs : List DRec} {t' : List V} {nx' : Nat} {recs' : List DRec}, WF P cf call sh ops ms H0 t0 nx0 recs t nx → i = recs.length → (∀ j, l[j]? = ops[i + j]?) →
    fwd P cf call sh ops ms H0 l i t nx recs = some (t', nx', recs') → WF P cf call sh ops ms H0 t0 nx0 recs' t' nx' ∧ recs'.length = i + l.length
  | [], i, t, nx, recs, t', nx', recs', hw, hi, hl, h => by
    simp only [fwd, Option.some.injEq, Prod.mk.injEq] at h
    obtain ⟨rfl, rfl, rfl⟩ := h
    exact ⟨hw, by simp [hi]⟩
  | o :: r, i, t, nx, recs, t', nx', recs', hw, hi, hl, h => by
    have ho : ops[i]? = some o := by simpa using (hl 0).symm
    have hl' : ∀ j, r[j]? = ops[i + 1 + j]? := fun j => by have := hl (j + 1); simpa [Nat.add_assoc, Nat.add_comm 1 j] using this
    rw [fwd] at h
    split at h
    · rename_i hwt
      split at h
      · rename_i ex eff heff
        have hw' := WF.cons (r := ⟨i, o, true, nx, t, eff, ex⟩) (rest := recs) hw hi ho hwt.symm (fun _ => heff) (fun q => by cases q)
        have := fwd_wf hw' (by simp [hi]) hl' h
        refine ⟨this.1, ?_⟩
        rw [this.2]
        simp
        omega
      · cases h
    · rename_i hwt
      have hw' := WF.cons (r := ⟨i, o, false, nx, t, Eff.pure (.tup []), false⟩) (rest := recs) hw hi ho (by simpa using hwt) (fun q => by cases q) (fun _ => ⟨rfl, rfl⟩)
      have := fwd_wf hw' (by simp [hi]) hl' h
      refine ⟨this.1, ?_⟩
      rw [this.2]
      simp
      omega
theorem WF.t {rs : List DRec} {t : List V} {nx : Nat} (h : WF P cf call sh ops ms H0 t0 nx0 rs t nx) : t = tF t0 (fun _ => true) rs := by
  induction h with
  | nil => rfl
  | cons h1 h2 h3 h4 h5 h6 ih => rw [tF, if_pos rfl, ← ih]
theorem WF.idx {rs : List DRec} {t : List V} {nx : Nat} (h : WF P cf call sh ops ms H0 t0 nx0 rs t nx) : ∀ r ∈ rs, r.i < rs.length := by
  induction h with
  | nil => intro r hr; cases hr
  | cons h1 h2 h3 h4 h5 h6 ih =>
    intro r hr
    cases hr with
    | head => simp; omega
    | tail _ hr => have := ih r hr; simp; omega
theorem WF.nx {rs : List DRec} {t : List V} {nx : Nat} (h : WF P cf call sh ops ms H0 t0 nx0 rs t nx) : nx0 ≤ nx ∧ ∀ r ∈ rs, nx0 ≤ r.base ∧ r.base + r.eff.new.length ≤ nx := by
  induction h with
  | nil => exact ⟨Nat.le_refl _, fun r hr => by cases hr⟩
  | cons h1 h2 h3 h4 h5 h6 ih =>
    refine ⟨by omega, fun r hr => ?_⟩
    cases hr with
    | head => exact ⟨ih.1, Nat.le_refl _⟩
    | tail _ hr => have := ih.2 r hr; omega
theorem WF.cover {rs : List DRec} {t : List V} {nx : Nat} (h : WF P cf call sh ops ms H0 t0 nx0 rs t nx) : ∀ b, nx0 ≤ b → b < nx → ∃ r ∈ rs, r.base ≤ b ∧ b < r.base + r.eff.new.length := by
  induction h with
  | nil => intro b h1 h2; omega
  | @cons r rest h1 h2 h3 h4 h5 h6 ih =>
    intro b hb1 hb2
    rcases Nat.lt_or_ge b r.base with q | q
    · obtain ⟨x, hx, hq⟩ := ih b hb1 q
      exact ⟨x, List.mem_cons_of_mem _ hx, hq⟩
    · exact ⟨r, List.mem_cons_self .., q, hb2⟩
/-- A walk's records, taken apart at one. -/
theorem WF.split {rs : List DRec} {t : List V} {nx : Nat} (h : WF P cf call sh ops ms H0 t0 nx0 rs t nx) : ∀ i, i < rs.length → ∃ pre r rest, rs = pre ++ r :: rest ∧ r.i = i ∧ rest.length = i ∧ WF P cf call sh ops ms H0 t0 nx0 rest r.t r.base ∧ ops[i]? = some r.o ∧
    r.wt = wantedV ops r.t r.o ∧ (r.wt = true → stepE P cf call sh (heapOf H0 (bitM ms i) rest) r.base r.t r.o = some (r.ex, r.eff)) ∧ (r.wt = false → r.eff = Eff.pure (.tup []) ∧ r.ex = false) ∧ (∀ x ∈ pre, i < x.i) ∧ (∀ x ∈ rest, x.i < i) ∧ (∀ x ∈ pre, r.base + r.eff.new.length ≤ x.base) := by
  induction h with
  | nil => intro i hi; simp at hi
  | @cons r rest h1 h2 h3 h4 h5 h6 ih =>
    intro i hi
    by_cases hq : i < rest.length
    · obtain ⟨pre, x, rest', g1, g2, g3, g4, g5, g6, g7, g8, g9, g10, g11⟩ := ih i hq
      refine ⟨r :: pre, x, rest', by rw [g1]; rfl, g2, g3, g4, g5, g6, g7, g8, fun y hy => ?_, g10, fun y hy => ?_⟩
      · cases hy with
        | head => omega
        | tail _ hy => exact g9 y hy
      · cases hy with
        | head => exact (h1.nx.2 x (by rw [g1]; simp)).2
        | tail _ hy => exact g11 y hy
    · have hir : i = r.i := by simp at hi; omega
      subst hir
      exact ⟨[], r, rest, rfl, rfl, h2.symm, h1, h3, h4, h5, h6, (fun x hx => by cases hx), (fun x hx => by have := h1.idx x hx; omega), (fun x hx => by cases hx)⟩
end
end
end Go.Proofs.Ytnnfcebnmogdmaa.VM
/- The machine of values: regions whose order is open, proved. No conditions. -/
namespace Go.Proofs.Ytnnfcebnmogdmaa.VM
set_option linter.unusedSimpArgs false
set_option linter.unusedVariables false
open Go Go.RowKit
noncomputable section

theorem wt_congr {ops : List Oper} {t t' : List V} {o : Oper} (h : ∀ s, s ∈ looksV ops o → nth t s = nth t' s) : wantedV ops t o = wantedV ops t' o := by
  unfold wantedV
  cases hg : o.guard with
  | none => rfl
  | some p =>
    obtain ⟨j, w⟩ := p
    simp only
    cases hd : (ops[j]?).bind (·.dst) with
    | none => rfl
    | some d =>
      have := h d (by simp [looksV, hg, hd])
      simp only [this]
theorem ev_congr {ops : List Oper} {t t' : List V} {o : Oper} (h : ∀ s, s ∈ looksV ops o → nth t s = nth t' s) : ∀ x ∈ o.op.operands, evalV t x = evalV t' x := by
  intro x hx
  cases x with
  | tmp s => rw [evalV, evalV, h s (List.mem_append_left _ (List.mem_filterMap.2 ⟨.tmp s, by simpa using hx, rfl⟩))]
  | _ => rfl

structure Orders (ops : List Oper) (ms : List Nat) : Prop where
  edge : ∀ j y e, ops[j]? = some y → e ∈ y.after → Region.binds .any e = true → e.on < j ∧ bitM ms j e.on = true
  back : ∀ j y i, ops[j]? = some y → i < j → bitM ms j i = true → ∃ e ∈ y.after, Region.binds .any e = true ∧ (e.on = i ∨ i < e.on ∧ bitM ms e.on i = true)
  trans : ∀ j y i k, ops[j]? = some y → i < j → k < i → bitM ms j i = true → bitM ms i k = true → bitM ms j k = true
  apart : ∀ j y i x, ops[j]? = some y → i < j → ops[i]? = some x → bitM ms j i = false → apartV ops x y = true
theorem orders_of {ops : List Oper} {ms : List Nat} (h : drawOK ops ms = true) : Orders ops ms := by
  unfold drawOK at h
  have h0 : ∀ j y, ops[j]? = some y → okEdges ms j y = true ∧ okPairs ops ms j y = true := fun j y hy => by
    have hj : j < ops.length := by
      rcases Nat.lt_or_ge j ops.length with q | q
      · exact q
      · simp [List.getElem?_eq_none q] at hy
    have := List.all_eq_true.1 h j (List.mem_range.2 hj)
    simpa only [hy, Bool.and_eq_true] using this
  refine ⟨fun j y e hy he hb => ?_, fun j y i hy hi hbit => ?_, fun j y i k hy hi hk h1 h2 => ?_, fun j y i x hy hi hx hbit => ?_⟩
  · have := List.all_eq_true.1 (h0 j y hy).1 e (by simpa using he)
    simpa [hb] using this
  · have := List.all_eq_true.1 (h0 j y hy).2 i (List.mem_range.2 hi)
    simp only [hbit, if_true, Bool.and_eq_true] at this
    obtain ⟨e, he, hq⟩ := List.any_eq_true.1 this.1
    simp only [Bool.and_eq_true, Bool.or_eq_true, beq_iff_eq, decide_eq_true_eq] at hq
    exact ⟨e, by simpa using he, hq.1, hq.2⟩
  · have := List.all_eq_true.1 (h0 j y hy).2 i (List.mem_range.2 hi)
    simp only [h1, if_true, Bool.and_eq_true] at this
    have := List.all_eq_true.1 this.2 k (List.mem_range.2 hk)
    simpa [h2] using this
  · have := List.all_eq_true.1 (h0 j y hy).2 i (List.mem_range.2 hi)
    simpa [hbit, hx] using this
theorem apartV_spec {ops : List Oper} {x y : Oper} (h : apartV ops x y = true) :
    (∀ d, x.dst = some d → d ∉ looksV ops y) ∧ (∀ d, x.dst = some d → y.dst ≠ some d) ∧ (∀ d, y.dst = some d → d ∉ looksV ops x) := by
  refine ⟨fun d hd => ?_, fun d hd => ?_, fun d hd => ?_⟩ <;> simp [apartV, hd] at h
  · exact h.1.1
  · exact h.1.2
  · exact h.2

/-- Downward closed. -/
def Down (ops : List Oper) (D : Nat → Bool) : Prop := ∀ j y, ops[j]? = some y → D j = true → ∀ e ∈ y.after, Region.binds .any e = true → D e.on = true
theorem Down.mask {ops : List Oper} {ms : List Nat} (ho : Orders ops ms) {D : Nat → Bool} (hD : Down ops D) : ∀ (n j : Nat) (y : Oper) (i : Nat), j ≤ n → ops[j]? = some y → i < j → D j = true → bitM ms j i = true → D i = true
  | 0, j, y, i, hn, hy, hi, _, _ => by omega
  | n + 1, j, y, i, hn, hy, hi, hj, hb => by
    obtain ⟨e, he, hbind, hq⟩ := ho.back j y i hy hi hb
    have hDe := hD j y hy hj e he hbind
    rcases hq with rfl | hq
    · exact hDe
    · have hlt := (ho.edge j y e hy he hbind).1
      have hey : ∃ z, ops[e.on]? = some z := by
        have : j < ops.length := by
          rcases Nat.lt_or_ge j ops.length with q | q
          · exact q
          · simp [List.getElem?_eq_none q] at hy
        exact ⟨ops[e.on], List.getElem?_eq_getElem (by omega)⟩
      obtain ⟨z, hz⟩ := hey
      exact Down.mask ho hD n e.on z i (by omega) hz hq.1 hDe hq.2
section
variable {P : Program} {cf : Cfg} {call : CallF} {sh : ShareF} {ops : List Oper} {ms : List Nat} {H0 : Heap} {t0 : List V} {nx0 : Nat}

/-- What a walk's operations write was there. -/
def WrIn (ms : List Nat) (H0 : Heap) (rs : List DRec) : Prop :=
  ∀ pre r rest, rs = pre ++ r :: rest → ∀ b, b ∈ r.eff.wr.map (·.1) → (hget (heapOf H0 (bitM ms r.i) rest) b).isSome = true
theorem WrIn.tail {r : DRec} {rest : List DRec} (h : WrIn ms H0 (r :: rest)) : WrIn ms H0 rest := fun pre y rest' e => h (r :: pre) y rest' (by rw [e]; rfl)
theorem WrIn.drop {pre rest : List DRec} (h : WrIn ms H0 (pre ++ rest)) : WrIn ms H0 rest := fun pre' y rest' e => h (pre ++ pre') y rest' (by rw [e, List.append_assoc])
/-- Blocks behind a part of a walk have numbers below the next. -/
theorem WF.dom {rs : List DRec} {t : List V} {nx : Nat} (h : WF P cf call sh ops ms H0 t0 nx0 rs t nx) (h0 : ∀ b x, hget H0 b = some x → b < nx0) :
    WrIn ms H0 rs → (∀ D b x, hget (heapOf H0 D rs) b = some x → b < nx) ∧ ∀ r ∈ rs, ∀ b, b ∈ r.eff.wr.map (·.1) → b < nx := by
  induction h with
  | nil => exact fun _ => ⟨fun D b x hb => h0 b x hb, fun r hr => by cases hr⟩
  | @cons r rest h1 h2 h3 h4 h5 h6 ih =>
    intro hw
    obtain ⟨i1, i2⟩ := ih hw.tail
    have hhead : ∀ b, b ∈ r.eff.wr.map (·.1) → b < r.base := fun b hb => by
      obtain ⟨z, hz⟩ := Option.isSome_iff_exists.1 (hw [] r rest rfl b hb)
      exact i1 _ b z hz
    refine ⟨fun D b x hb => ?_, fun y hy b hb => ?_⟩
    · rw [heapOf_get] at hb
      rcases hF_none hb with hb | ⟨y, hy, _, ha⟩
      · have := h0 b x hb; have := h1.nx.1; omega
      · cases hy with
        | head =>
          rcases ha with ha | ha
          · have := hhead b ha; omega
          · exact ha.2
        | tail _ hy =>
          rcases ha with ha | ha
          · have := i2 y hy b ha; omega
          · have := (h1.nx.2 y hy).2; omega
    · cases hy with
      | head => have := hhead b hb; omega
      | tail _ hy => have := i2 y hy b hb; omega

theorem WF.sep {rs : List DRec} {t : List V} {nx : Nat} (h : WF P cf call sh ops ms H0 t0 nx0 rs t nx) : ∀ r1 ∈ rs, ∀ r2 ∈ rs, r1.i < r2.i → r1.base + r1.eff.new.length ≤ r2.base := by
  induction h with
  | nil => intro r1 hr; cases hr
  | @cons r rest h1 h2 h3 h4 h5 h6 ih =>
    intro r1 hr1 r2 hr2 hlt
    cases hr1 with
    | head =>
      cases hr2 with
      | head => omega
      | tail _ hr2 => have := h1.idx r2 hr2; omega
    | tail _ hr1 =>
      cases hr2 with
      | head => exact (h1.nx.2 r1 hr1).2
      | tail _ hr2 => exact ih r1 hr1 r2 hr2 hlt
theorem WF.uniq {rs : List DRec} {t : List V} {nx : Nat} (h : WF P cf call sh ops ms H0 t0 nx0 rs t nx) : ∀ r1 ∈ rs, ∀ r2 ∈ rs, r1.i = r2.i → r1 = r2 := by
  induction h with
  | nil => intro r1 hr; cases hr
  | @cons r rest h1 h2 h3 h4 h5 h6 ih =>
    intro r1 hr1 r2 hr2 heq
    cases hr1 with
    | head =>
      cases hr2 with
      | head => rfl
      | tail _ hr2 => have := h1.idx r2 hr2; omega
    | tail _ hr1 =>
      cases hr2 with
      | head => have := h1.idx r1 hr1; omega
      | tail _ hr2 => exact ih r1 hr1 r2 hr2 heq
/-- New blocks of an operation are seen behind it alone. -/
theorem WF.unseen (ho : Orders ops ms) {rs : List DRec} {t : List V} {nx : Nat} (h : WF P cf call sh ops ms H0 t0 nx0 rs t nx) (h0 : ∀ b x, hget H0 b = some x → b < nx0) (hw : WrIn ms H0 rs) (i : Nat) :
    ∀ pre r rest, rs = pre ++ r :: rest → r.i = i → ∀ x ∈ rest, ∀ b, x.base ≤ b → b < x.base + x.eff.new.length → (hget (heapOf H0 (bitM ms i) rest) b).isSome = true → bitM ms i x.i = true := by
  induction i using Nat.strongRecOn with
  | _ i ih =>
    intro pre r rest hrs hri x hx b hb1 hb2 hs
    have hmem : ∀ z, z ∈ rest → z ∈ rs := fun z hz => by rw [hrs]; simp [hz]
    have hir : i < rs.length := by have := h.idx r (by rw [hrs]; simp); omega
    obtain ⟨pre', r', rest', g1, g2, g3, g4, g5, g6, g7, g8, g9, g10, g11⟩ := h.split i hir
    have hrest : ∀ z, z ∈ rest → z.i < i := by
      intro z hz
      -- z lies behind r
      have hz' : z ∈ pre' ++ r' :: rest' := g1 ▸ hmem z hz
      rcases List.mem_append.1 hz' with q | q
      · -- indices fall along the list
        have hsort : ∀ {rs : List DRec} {t : List V} {nx : Nat}, WF P cf call sh ops ms H0 t0 nx0 rs t nx → ∀ pre r rest, rs = pre ++ r :: rest → ∀ z ∈ rest, z.i < r.i := by
          intro rs t nx hwf
          induction hwf with
          | nil => intro pre r rest e; simp at e
          | @cons r0 rest0 k1 k2 k3 k4 k5 k6 kih =>
            intro pre r rest e z hz
            cases pre with
            | nil =>
              simp only [List.nil_append, List.cons.injEq] at e
              obtain ⟨rfl, rfl⟩ := e
              have := k1.idx z hz
              omega
            | cons p pre =>
              simp only [List.cons_append, List.cons.injEq] at e
              exact kih pre r rest e.2 z hz
        have := hsort h pre r rest hrs z hz
        omega
      · cases q with
        | head =>
          have hsort : r' = r := h.uniq r' (hmem r' hz) r (by rw [hrs]; simp) (by omega)
          subst hsort
          have hnd : ∀ {rs : List DRec} {t : List V} {nx : Nat}, WF P cf call sh ops ms H0 t0 nx0 rs t nx → ∀ pre r rest, rs = pre ++ r :: rest → r ∉ rest := by
            intro rs t nx hwf
            induction hwf with
            | nil => intro pre r rest e; simp at e
            | @cons r0 rest0 k1 k2 k3 k4 k5 k6 kih =>
              intro pre r rest e hz
              cases pre with
              | nil =>
                simp only [List.nil_append, List.cons.injEq] at e
                obtain ⟨rfl, rfl⟩ := e
                have := k1.idx _ hz
                omega
              | cons p pre =>
                simp only [List.cons_append, List.cons.injEq] at e
                exact kih pre r rest e.2 hz
          exact absurd hz (hnd h pre _ rest hrs)
        | tail _ q => exact g10 z q
    obtain ⟨z, hz⟩ := Option.isSome_iff_exists.1 hs
    rw [heapOf_get] at hz
    rcases hF_none hz with hz | ⟨y, hy, hyb, ha⟩
    · have := h0 b z hz
      have := (h.nx.2 x (hmem x hx)).1
      omega
    · rcases ha with ha | ha
      · have hyi : y.i < rs.length := h.idx y (hmem y hy)
        obtain ⟨pre2, y2, rest2, k1, k2, k3, k4, k5, k6, k7, k8, k9, k10, k11⟩ := h.split y.i hyi
        obtain rfl : y = y2 := h.uniq y (hmem y hy) y2 (by rw [k1]; simp) k2.symm
        have hs2 := hw pre2 y rest2 k1 b ha
        have hd2 : b < y.base := by
          obtain ⟨q, hq⟩ := Option.isSome_iff_exists.1 hs2
          have hw2 : WrIn ms H0 rest2 := by
            have : WrIn ms H0 (pre2 ++ y :: rest2) := k1 ▸ hw
            exact (this.drop).tail
          exact (k4.dom h0 hw2).1 _ b q hq
        have hxy : x.i < y.i := by
          rcases Nat.lt_trichotomy x.i y.i with q | q | q
          · exact q
          · have := h.uniq x (hmem x hx) y (hmem y hy) q
            subst this
            omega
          · have := h.sep y (hmem y hy) x (hmem x hx) q
            omega
        have hx2 : x ∈ rest2 := by
          have hx' : x ∈ pre2 ++ y :: rest2 := k1 ▸ hmem x hx
          rcases List.mem_append.1 hx' with q | q
          · have := k9 x q; omega
          · cases q with
            | head => omega
            | tail _ q => exact q
        have := ih y.i (hrest y hy) pre2 y rest2 k1 rfl x hx2 b hb1 hb2 hs2
        exact ho.trans i r'.o y.i x.i g5 (hrest y hy) hxy hyb this
      · rcases Nat.lt_trichotomy x.i y.i with q | q | q
        · have := h.sep x (hmem x hx) y (hmem y hy) q; omega
        · rw [q]; exact hyb
        · have := h.sep y (hmem y hy) x (hmem x hx) q; omega
end
end
end Go.Proofs.Ytnnfcebnmogdmaa.VM
/- The machine of values: regions whose order is open, at last. No conditions. -/
namespace Go.Proofs.Ytnnfcebnmogdmaa.VM
set_option linter.unusedSimpArgs false
set_option linter.unusedVariables false
open Go Go.RowKit
noncomputable section
section
variable {P : Program} {cf : Cfg} {call : CallF} {sh : ShareF} {ops : List Oper} {ms : List Nat} {H0 : Heap} {t0 : List V} {nx0 : Nat}

theorem tF_lt {r : DRec} {rest : List DRec} {i : Nat} (hr : r.i = i) (hrest : ∀ x ∈ rest, x.i < i) : ∀ {pre : List DRec}, (∀ x ∈ pre, i < x.i) → tF t0 (fun j => decide (j < i)) (pre ++ r :: rest) = tF t0 (fun _ => true) rest
  | [], _ => by
    have h1 : tF t0 (fun j => decide (j < i)) rest = tF t0 (fun _ => true) rest := by
      apply List.ext_getElem?
      intro s
      exact tF_congr fun x hx _ => by simp [hrest x hx]
    simp [tF, hr, h1]
  | x :: pre, hp => by
    have hx : ¬ (x.i < i) := by have := hp x (List.mem_cons_self ..); omega
    simp only [List.cons_append, tF, hx, decide_false, Bool.false_eq_true, if_false]
    exact tF_lt hr hrest fun y hy => hp y (List.mem_cons_of_mem _ hy)
theorem hF_lt {H : Nat → Option Blk} {bit : Nat → Bool} {r : DRec} {rest : List DRec} {i : Nat} (hr : r.i = i) (hrest : ∀ x ∈ rest, x.i < i) : ∀ {pre : List DRec}, (∀ x ∈ pre, i < x.i) →
    hF H (fun j => decide (j < i) && bit j) (pre ++ r :: rest) = hF H bit rest
  | [], _ => by
    have h1 : hF H (fun j => decide (j < i) && bit j) rest = hF H bit rest := by
      funext b
      exact hF_congr fun x hx _ => by simp [hrest x hx]
    simp [hF, hr, h1]
  | x :: pre, hp => by
    have hx : ¬ (x.i < i) := by have := hp x (List.mem_cons_self ..); omega
    simp only [List.cons_append, hF, hx, decide_false, Bool.false_and, Bool.false_eq_true, if_false]
    exact hF_lt hr hrest fun y hy => hp y (List.mem_cons_of_mem _ hy)

/-- Neither comes before the other by need. -/
def Unord (ms : List Nat) (i j : Nat) : Prop := j ≠ i ∧ (if j < i then bitM ms i j else bitM ms j i) = false
theorem xids_mem {i b : Nat} : ∀ {rs : List DRec} {x : DRec}, x ∈ rs → Unord ms i x.i → b ∈ x.eff.wr.map (·.1) → b ∈ xids ms i rs
  | [], x, hx, _, _ => by cases hx
  | r :: rest, x, hx, hu, hb => by
    rw [xids]
    cases hx with
    | head =>
      split
      · rename_i hq
        rw [hq] at hb
        cases hb
      · rename_i hq
        have h1 : (r.i == i) = false := by simpa using hu.1
        rw [if_neg (by rw [h1, Bool.false_or]; simpa using hu.2)]
        exact List.mem_append_left _ hb
    | tail _ hx =>
      have ih := xids_mem hx hu hb
      split
      · exact ih
      · by_cases q : (r.i == i || (if r.i < i then bitM ms i r.i else bitM ms r.i i)) = true
        · rw [if_pos q]; exact ih
        · rw [if_neg q]; exact List.mem_append_right _ ih

/-- What the looks behind a walk show of each operation. -/
def Seen (P : Program) (call : CallF) (ms : List Nat) (H0 : Heap) (all : List DRec) (r : DRec) (rest : List DRec) : Prop :=
  (r.ex = true → ∀ x ∈ all, Unord ms r.i x.i → x.eff.wr = [] ∧ x.eff.new = []) ∧
  ((xids ms r.i all = [] ∧ ∀ b, b ∈ r.eff.wr.map (·.1) → (hget (heapOf H0 (bitM ms r.i) rest) b).isSome = true) ∨
  (r.eff.wr = [] ∧ r.ex = false ∧ (r.wt = true → opE P call (hrem (heapOf H0 (bitM ms r.i) rest) (xids ms r.i all)) r.base r.t r.o = some r.eff ∨ freeOp r.o = true ∨
    (addrOp r.o = true ∧ ∀ x ∈ all, Unord ms r.i x.i → ∀ p ∈ x.eff.wr, ∀ blk, hget (heapOf H0 (bitM ms r.i) rest) p.1 = some blk → blk.ver = p.2.ver) ∨
    (∃ b, loadB r.t r.o = some b ∧ (xids ms r.i all).contains b = false))))
theorem chk_seen {all : List DRec} : ∀ {rs : List DRec}, chk P call ms H0 all rs = true → ∀ pre r rest, rs = pre ++ r :: rest → Seen P call ms H0 all r rest
  | [], _, pre, r, rest, e => by simp at e
  | x :: rs, h, pre, r, rest, e => by
    rw [chk, Bool.and_eq_true, Bool.and_eq_true] at h
    cases pre with
    | nil =>
      simp only [List.nil_append, List.cons.injEq] at e
      obtain ⟨rfl, rfl⟩ := e
      have h1 := h.1.1
      refine ⟨fun hex y hy hu => ?_, ?_⟩
      · have h2 := h.1.2
        rw [hex, Bool.not_true, Bool.false_or] at h2
        have h3 := List.all_eq_true.1 h2 y hy
        rw [Bool.or_eq_true, Bool.or_eq_true] at h3
        rcases h3 with (h3 | h3) | h3
        · exact absurd (by simpa using h3) hu.1
        · rw [hu.2] at h3; cases h3
        · simpa using h3
      split at h1
      · rename_i hq
        refine .inl ⟨hq, fun b hb => ?_⟩
        obtain ⟨p, hp, rfl⟩ := List.mem_map.1 hb
        exact List.all_eq_true.1 h1 p hp
      · rename_i hq
        simp only [Bool.and_eq_true, List.isEmpty_iff, Bool.or_eq_true, Bool.not_eq_true'] at h1
        refine .inr ⟨h1.1.1, h1.1.2, fun hw => ?_⟩
        rcases h1.2 with (((q | q) | q) | q) | q
        · rw [q] at hw; cases hw
        · exact .inr (.inl q)
        · left
          split at q
          · rename_i e' he'
            have := (effEq_eq q).1
            rw [he', this]
          · cases q
        · right; right; left
          refine ⟨q.1, fun y hy hu p hp blk hb => ?_⟩
          have h3 := List.all_eq_true.1 q.2 y hy
          rw [Bool.or_eq_true, Bool.or_eq_true] at h3
          rcases h3 with (h3 | h3) | h3
          · exact absurd (by simpa using h3) hu.1
          · rw [hu.2] at h3; cases h3
          · have h4 := List.all_eq_true.1 h3 p hp
            rw [hb] at h4
            simpa using h4
        · right; right; right
          split at q
          · rename_i b hb
            exact ⟨b, hb, by simpa using q⟩
          · cases q
    | cons p pre =>
      simp only [List.cons_append, List.cons.injEq] at e
      exact chk_seen h.2 pre r rest e.2
theorem xids_nil {i : Nat} : ∀ {rs : List DRec}, (∀ r ∈ rs, r.eff.wr = []) → xids ms i rs = []
  | [], _ => rfl
  | r :: rest, h => by
    rw [xids, h r (List.mem_cons_self ..)]
    exact xids_nil fun x hx => h x (List.mem_cons_of_mem _ hx)

theorem nilCmp_no {L : Heap} {t : List V} {op : BinOp} {ty : TypeId} {x y : Operand} (h : op ≠ .eql) (h' : op ≠ .neq) : nilCmp P L t op ty x y = none := by
  unfold nilCmp
  split
  · split
    · exact absurd rfl h
    · exact absurd rfl h'
    · rfl
  · rfl
theorem nilCmp_free {L L' : Heap} {t : List V} {op : BinOp} {ty : TypeId} {x y : Operand} (h : op ≠ .eql) (h' : op ≠ .neq) : nilCmp P L t op ty x y = nilCmp P L' t op ty x y := by
  rw [nilCmp_no h h', nilCmp_no h h']
theorem free_any {L L' : Heap} {base : Nat} {t : List V} {o : Oper} (ho : freeOp o = true) : opE P call L base t o = opE P call L' base t o := by
  rw [opE_eq, opE_eq]
  unfold freeOp at ho
  unfold opS
  split at ho <;> first
    | (rename_i op ty x y z h; simp only [h]; rw [nilCmp_free (L := L) (L' := L') (by rintro rfl; cases ho) (by rintro rfl; cases ho)]; done)
    | (rename_i h; simp only [h]; done)
    | cases ho
theorem load_same {L L' : Heap} {base : Nat} {t : List V} {o : Oper} {b : Nat} (ho : loadB t o = some b) (hb : hget L' b = hget L b) : opE P call L' base t o = opE P call L base t o := by
  rw [opE_eq, opE_eq]
  unfold loadB at ho
  split at ho
  · rename_i ty x hop
    split at ho
    · rename_i b' off ver hv
      cases ho
      unfold opS
      simp only [hop, hv, loadV, cellsAt, hb]
    · cases ho
  · rename_i s x f hop
    split at ho
    · rename_i b' off ver hv
      cases ho
      unfold opS
      simp only [hop, hv, ptrAdd]
      cases hfo : fieldOff P s f with
      | none => rfl
      | some p =>
        obtain ⟨off2, ty2⟩ := p
        simp only [hb]
    · cases ho
  · cases ho
theorem addr_ver {L L' : Heap} {base : Nat} {t : List V} {o : Oper} {e : Eff} (ho : addrOp o = true) (hL : ∀ b blk, hget L b = some blk → ∃ blk', hget L' b = some blk' ∧ blk'.ver = blk.ver) (h : opE P call L base t o = some e) : opE P call L' base t o = some e := by
  have hp : ∀ {p : V} {k : Nat} {v : V}, ptrAdd L p k = some v → ptrAdd L' p k = some v := by
    intro p k v h
    unfold ptrAdd at h ⊢
    split at h
    · exact h
    · split at h
      · rename_i blk hb
        obtain ⟨blk', h1, h2⟩ := hL _ blk hb
        simp only [h1, h2]
        exact h
      · cases h
    · cases h
  have hi : ∀ {tt : TypeId} {x : V} {i : Int} {v : V}, idxAddr P L tt x i = some v → idxAddr P L' tt x i = some v := by
    intro tt x i v h
    unfold idxAddr at h ⊢
    split at h
    · rename_i h0
      split at h
      · rename_i h1; exact h
      · rename_i h1
        split at h
        · rename_i blk hb
          obtain ⟨blk', g1, g2⟩ := hL _ blk hb
          simp only [g1, g2]
          exact h
        · cases h
      · cases h
    · split at h
      · split at h
        · rename_i hc
          rw [if_pos hc]
          exact hp h
        · cases h
      · cases h
    · cases h
  rw [opE_eq] at h ⊢
  unfold addrOp at ho
  split at ho
  · rename_i hop
    unfold opS at h ⊢
    simp only [hop] at h ⊢
    split at h
    · obtain ⟨v, h1, rfl⟩ := map_some h
      rw [hp h1]; rfl
    · cases h
  · rename_i hop
    unfold opS at h ⊢
    simp only [hop] at h ⊢
    split at h
    · obtain ⟨v, h1, rfl⟩ := map_some h
      rw [hi h1]; rfl
    · cases h
  · cases ho
theorem hF_pick {H : Nat → Option Blk} {D D' : Nat → Bool} {b : Nat} : ∀ {rs : List DRec}, (∀ x ∈ rs, Aff x b → D' x.i = true → D x.i = true) →
    hF H D rs b = hF H D' rs b ∨ ∃ x ∈ rs, D x.i = true ∧ D' x.i = false ∧ Aff x b ∧ ∀ H', hF H D rs b = applyF H' x.base x.eff b
  | [], _ => .inl rfl
  | r :: rest, h => by
    have ih := hF_pick (H := H) (rs := rest) fun x hx => h x (List.mem_cons_of_mem _ hx)
    have lift : ∀ {y z : Option Blk}, y = hF H D rest b → z = hF H D' rest b → (y = z ∨ ∃ x ∈ r :: rest, D x.i = true ∧ D' x.i = false ∧ Aff x b ∧ ∀ H', y = applyF H' x.base x.eff b) := by
      rintro y z rfl rfl
      exact ih.imp id fun ⟨x, h1, h2⟩ => ⟨x, List.mem_cons_of_mem _ h1, h2⟩
    by_cases ha : Aff r b
    · obtain ⟨y, hy⟩ := applyF_aff ha
      cases hd : D r.i with
      | true =>
        cases hd' : D' r.i with
        | true => left; simp only [hF, hd, hd', if_true, hy]
        | false => right; exact ⟨r, List.mem_cons_self .., hd, hd', ha, fun H' => by simp only [hF, hd, if_true, hy]⟩
      | false =>
        have hd' : D' r.i = false := by
          cases q : D' r.i with
          | false => rfl
          | true => rw [h r (List.mem_cons_self ..) ha q] at hd; cases hd
        exact lift (by simp only [hF, hd, Bool.false_eq_true, if_false]) (by simp only [hF, hd', Bool.false_eq_true, if_false])
    · refine lift ?_ ?_
      · rw [hF]
        split
        · exact applyF_not ha _
        · rfl
      · rw [hF]
        split
        · exact applyF_not ha _
        · rfl
theorem setsF_val {l : List (Nat × Blk)} {b : Nat} {y : Blk} : ∀ {H : Nat → Option Blk}, b ∈ l.map (·.1) → setsF l H b = some y → ∃ p ∈ l, p.1 = b ∧ p.2 = y := by
  induction l with
  | nil => intro H h; cases h
  | cons p l ih =>
    intro H hm h
    obtain ⟨j, x⟩ := p
    rw [setsF] at h
    by_cases q : b ∈ l.map (·.1)
    · obtain ⟨p, h1, h2⟩ := ih q h
      exact ⟨p, List.mem_cons_of_mem _ h1, h2⟩
    · simp only [List.map_cons, List.mem_cons] at hm
      have hb : b = j := hm.resolve_right q
      rw [setsF_not q] at h
      unfold updF at h
      rw [if_pos hb] at h
      exact ⟨(j, x), List.mem_cons_self .., hb.symm, Option.some.inj h⟩

structure Inv (H0 : Heap) (t0 : List V) (nx0 : Nat) (E0 : Env) (a0 : Act) (rs : List DRec) (D : Nat → Bool) (E : Env) (a : Act) : Prop where
  H : E.H = hF (hget H0) D rs
  t : RelL E (tF t0 D rs) a.tmps.toList
  R : HRel E
  x : Ext E0 E
  O : E.O = E0.O
  bel : Below E0.B E0.w E.w
  fresh : ∀ b, nx0 ≤ b → (∀ r ∈ rs, D r.i = true → ¬ (r.base ≤ b ∧ b < r.base + r.eff.new.length)) → E.ρ b = none
  df : a.defers = a0.defers

theorem draw_step {opsA : Array Oper} (hA : opsA.toList = ops) (hc : CallOK P call) (hsh : ShareOK P sh) (ho : Orders ops ms) {E0 : Env} {a0 : Act} {rs : List DRec} {t' : List V} {nx' : Nat} (hwf : WF P cf call sh ops ms H0 t0 nx0 rs t' nx') (hlen : rs.length = ops.length)
    (h0 : ∀ b x, hget H0 b = some x → b < nx0) (hseen : ∀ pre r rest, rs = pre ++ r :: rest → Seen P call ms H0 rs r rest)
    {D : Nat → Bool} (hD : Down ops D) {E : Env} {a : Act} (hI : Inv H0 t0 nx0 E0 a0 rs D E a) {i : Nat} {y : Oper} (hy : ops[i]? = some y) (hDi : D i = false) (hready : ∀ e ∈ y.after, Region.binds .any e = true → D e.on = true)
    {Q : Exit → Act → World → Prop} {K : Act → World → Prop} (hK : ∀ E' a', Inv H0 t0 nx0 E0 a0 rs (fun j => D j || j == i) E' a' → K a' E'.w) : wpOp P opsA Q i K a E.w := by
  have hi : i < rs.length := by
    rw [hlen]
    rcases Nat.lt_or_ge i ops.length with q | q
    · exact q
    · simp [List.getElem?_eq_none q] at hy
  obtain ⟨pre, r, rest, g1, g2, g3, g4, g5, g6, g7, g8, g9, g10, g11⟩ := hwf.split i hi
  have hro : r.o = y := by rw [g5] at hy; cases hy; rfl
  have hrmem : r ∈ rs := by rw [g1]; simp
  have hrestmem : ∀ z, z ∈ rest → z ∈ rs := fun z hz => by rw [g1]; simp [hz]
  have hpremem : ∀ z, z ∈ pre → z ∈ rs := fun z hz => by rw [g1]; simp [hz]
  have hopx : ∀ x ∈ rs, ops[x.i]? = some x.o := by
    intro x hx
    obtain ⟨p2, x2, r2, k1, k2, k3, k4, k5, _⟩ := hwf.split x.i (hwf.idx x hx)
    obtain rfl : x = x2 := hwf.uniq x hx x2 (by rw [k1]; simp) k2.symm
    exact k5
  have hwr : WrIn ms H0 rs := by
    intro p2 x2 r2 e b hb
    rcases (hseen p2 x2 r2 e).2 with q | q
    · exact q.2 b hb
    · rw [q.1] at hb; cases hb
  have hDi' : D r.i = false := by rw [g2]; exact hDi
  -- what precedes has been done
  have hpred : ∀ x ∈ rs, x.i < i → bitM ms i x.i = true → D x.i = true := by
    intro x hx hlt hb
    obtain ⟨e, he, hbind, hq⟩ := ho.back i y x.i hy hlt hb
    have hDe := hready e he hbind
    rcases hq with q | q
    · rw [← q]; exact hDe
    · have helt := (ho.edge i y e hy he hbind).1
      have hez : ∃ z, ops[e.on]? = some z := ⟨ops[e.on]'(by rw [← hlen]; omega), List.getElem?_eq_getElem _⟩
      obtain ⟨z, hz⟩ := hez
      exact hD.mask ho e.on e.on z x.i (Nat.le_refl _) hz q.1 hDe q.2
  -- what has been done and comes later in the text does not wait for this one
  have hlater : ∀ x ∈ rs, i < x.i → D x.i = true → bitM ms x.i i = false := by
    intro x hx hlt hd
    cases hq : bitM ms x.i i with
    | false => rfl
    | true =>
      have := hD.mask ho x.i x.i x.o i (Nat.le_refl _) (hopx x hx) hlt hd hq
      rw [hDi] at this
      cases this
  -- the values looked at
  have hnth : ∀ s, s ∈ looksV ops r.o → nth r.t s = nth (tF t0 D rs) s := by
    intro s hs
    have h1 : (tF t0 D rs)[s]? = (tF t0 (fun j => decide (j < i)) rs)[s]? := by
      refine tF_congr fun x hx hd => ?_
      rcases Nat.lt_trichotomy x.i i with q | q | q
      · rw [decide_eq_true q]
        cases hb : bitM ms i x.i with
        | true => exact hpred x hx q hb
        | false => exact absurd hs ((apartV_spec (ho.apart i r.o x.i x.o g5 q (hopx x hx) hb)).1 s hd)
      · rw [decide_eq_false (by omega), q]; exact hDi
      · rw [decide_eq_false (by omega)]
        cases hd2 : D x.i with
        | false => rfl
        | true => exact absurd hs ((apartV_spec (ho.apart x.i x.o i r.o (hopx x hx) q g5 (hlater x hx q hd2))).2.2 s hd)
    rw [g1, tF_lt g2 g10 g9, ← g4.t, ← g1] at h1
    rw [nth_eq, nth_eq, List.getD_eq_getElem?_getD, List.getD_eq_getElem?_getD, h1]
  have hwt : wantedV ops (tF t0 D rs) r.o = r.wt := by rw [g6]; exact (wt_congr hnth).symm
  have hrest_ne : ∀ x ∈ rest, x.i ≠ r.i := fun x hx => by have := g10 x hx; omega
  have hpre_ne : ∀ x ∈ pre, x.i ≠ r.i := fun x hx => by have := g9 x hx; omega
  have hun : ∀ x ∈ rs, i < x.i → D x.i = true → Unord ms i x.i := fun x hx q hd => ⟨by omega, by rw [if_neg (by omega)]; exact hlater x hx q hd⟩
  have hdomr : ∀ b, (hget (heapOf H0 (bitM ms i) rest) b).isSome = true → b < r.base := by
    intro b hb
    obtain ⟨z, hz⟩ := Option.isSome_iff_exists.1 hb
    have hw2 : WrIn ms H0 rest := by
      have : WrIn ms H0 (pre ++ r :: rest) := g1 ▸ hwr
      exact (this.drop).tail
    exact (g4.dom h0 hw2).1 _ b z hz
  have hdis : ∀ x ∈ pre, D x.i = true → ∀ b, ¬ (Aff r b ∧ Aff x b) := by
    rintro x hx hd b ⟨ha, hb⟩
    have hlt := g9 x hx
    have hxm := hpremem x hx
    rcases ha with ha | ha
    · rcases hb with hb | hb
      · have hX : b ∈ xids ms r.i rs := xids_mem hxm (by rw [g2]; exact hun x hxm hlt hd) hb
        rcases (hseen pre r rest g1).2 with q | q
        · rw [q.1] at hX; cases hX
        · rw [q.1] at ha; cases ha
      · have := hdomr b (by have := hwr pre r rest g1 b ha; rwa [g2] at this)
        have := g11 x hx
        omega
    · rcases hb with hb | hb
      · obtain ⟨p2, x2, r2, k1, k2, k3, k4, k5, k6, k7, k8, k9, k10, k11⟩ := hwf.split x.i (hwf.idx x hxm)
        obtain rfl : x = x2 := hwf.uniq x hxm x2 (by rw [k1]; simp) k2.symm
        have hs := hwr p2 x r2 k1 b hb
        have hr2 : r ∈ r2 := by
          have hr' : r ∈ p2 ++ x :: r2 := k1 ▸ hrmem
          rcases List.mem_append.1 hr' with q | q
          · have := k9 r q; omega
          · cases q with
            | head => omega
            | tail _ q => exact q
        have := hwf.unseen ho h0 hwr x.i p2 x r2 k1 rfl r hr2 b ha.1 ha.2 hs
        rw [g2, hlater x hxm hlt hd] at this
        cases this
      · have := g11 x hx
        omega
  have htadd : tF t0 (fun j => D j || j == i) rs = putV (tF t0 D rs) r.o.dst r.eff.v := by
    have := tF_add (t0 := t0) (D := D) (r := r) (rest := rest) hDi' hrest_ne (pre := pre) hpre_ne (fun x hx hd s hs => by
      have hlt := g9 x hx
      exact (apartV_spec (ho.apart x.i x.o i r.o (hopx x (hpremem x hx)) hlt g5 (hlater x (hpremem x hx) hlt hd))).2.1 s hs)
    rw [g2] at this
    rw [g1]
    exact this
  have hhadd : hF (hget H0) (fun j => D j || j == i) rs = applyF (hF (hget H0) D rs) r.base r.eff := by
    have := hF_add (H := hget H0) (D := D) (r := r) (rest := rest) hDi' hrest_ne (pre := pre) hpre_ne hdis
    rw [g2] at this
    rw [g1]
    exact this
  have hA2 : opsA[i]? = some r.o := by rw [← Array.getElem?_toList, hA]; exact g5
  have hfr : ∀ b, r.base ≤ b → b < r.base + r.eff.new.length → E.ρ b = none := by
    intro b h1 h2
    refine hI.fresh b (by have := (hwf.nx.2 r hrmem).1; omega) fun x hx hd hb => ?_
    rcases Nat.lt_trichotomy x.i r.i with q | q | q
    · have := hwf.sep x hx r hrmem q; omega
    · rw [q, hDi'] at hd; cases hd
    · have := hwf.sep r hrmem x hx q; omega
  have hfresh' : ∀ (E' : Env), (∀ b, E.ρ b = none → ¬ (r.base ≤ b ∧ b < r.base + r.eff.new.length) → E'.ρ b = none) → ∀ b, nx0 ≤ b → (∀ x ∈ rs, (D x.i || x.i == i) = true → ¬ (x.base ≤ b ∧ b < x.base + x.eff.new.length)) → E'.ρ b = none := by
    intro E' hE b hb1 hb2
    refine hE b (hI.fresh b hb1 fun x hx hd => hb2 x hx (by rw [hd]; rfl)) (hb2 r hrmem (by rw [g2]; simp))
  have hput : ∀ {E' : Env} {cv : Value}, Ext E E' → Rel E' r.eff.v cv → RelL E' (tF t0 (fun j => D j || j == i) rs) (a.put r.o.dst cv).tmps.toList := by
    intro E' cv hx hv
    rw [htadd]
    have := put_rel (hI.t.mono hx) r.o.dst hv
    cases hd : r.o.dst with
    | none => rw [hd] at this; exact this
    | some d => rw [hd] at this; exact this
  have hdf : ∀ cv, (a.put r.o.dst cv).defers = a0.defers := by
    intro cv
    rw [← hI.df]
    cases r.o.dst <;> rfl
  unfold wpOp
  simp only [hA2]
  rw [wantedV_eq hI.t, hA, hwt]
  cases hw : r.wt with
  | false =>
    simp only [Bool.false_eq_true, if_false]
    have hpu := (g8 hw).1
    have hE : E.H = hF (hget H0) (fun j => D j || j == i) rs := by
      rw [hhadd, hpu, applyF_pure]
      exact hI.H
    refine hK E _ ⟨hE, hput (Ext.refl E) (by rw [hpu]; exact undef_rel), hI.R, hI.x, hI.O, hI.bel, hfresh' E (fun _ h _ => h), hdf _⟩
  | true =>
    simp only [if_true]
    refine .inl ?_
    -- the heap that was looked at lies in the one that is there
    have hsub : ∀ b blk, hget (heapOf H0 (bitM ms i) rest) b = some blk → b ∉ xids ms i rs → E.H b = some blk := by
      intro b blk hb hX
      rw [hI.H, ← hb, heapOf_get, ← hF_lt (pre := pre) g2 g10 g9, ← g1]
      refine hF_congr fun x hx ha => ?_
      rcases Nat.lt_trichotomy x.i i with q | q | q
      · rw [decide_eq_true q, Bool.true_and]
        cases hbit : bitM ms i x.i with
        | true => exact hpred x hx q hbit
        | false =>
          exfalso
          rcases ha with ha | ha
          · exact hX (xids_mem hx ⟨by omega, by rw [if_pos q]; exact hbit⟩ ha)
          · have hxr : x ∈ rest := by
              have hx' : x ∈ pre ++ r :: rest := g1 ▸ hx
              rcases List.mem_append.1 hx' with q' | q'
              · have := g9 x q'; omega
              · cases q' with
                | head => omega
                | tail _ q' => exact q'
            have := hwf.unseen ho h0 hwr i pre r rest g1 g2 x hxr b ha.1 ha.2 (by rw [hb]; rfl)
            rw [hbit] at this
            cases this
      · rw [decide_eq_false (by omega), Bool.false_and, q]; exact hDi
      · rw [decide_eq_false (by omega), Bool.false_and]
        cases hd2 : D x.i with
        | false => rfl
        | true =>
          exfalso
          rcases ha with ha | ha
          · exact hX (xids_mem hx (hun x hx q hd2) ha)
          · have h1 := hdomr b (by rw [hb]; rfl)
            have h2 := hwf.sep r hrmem x hx (by omega)
            omega
    have hstep := g7 hw
    unfold stepE at hstep
    split at hstep
    · -- a call in the same memory
      rename_i f vs hshv
      rw [sharedV_congr (ev_congr hnth)] at hshv
      obtain ⟨c, hop, hres⟩ := sharedV_call hshv
      split at hstep
      · rename_i v H' nx1 hcall
        split at hstep
        · rename_i e he
          simp only [Option.some.injEq, Prod.mk.injEq] at hstep
          obtain ⟨hex, rfl⟩ := hstep
          obtain ⟨e1, e2, e3, e4⟩ := effH_spec he
          have hx := (hseen pre r rest g1).1 hex.symm
          have hEH : E.H = hget (heapOf H0 (bitM ms i) rest) := by
            funext b
            rw [hI.H, heapOf_get, ← hF_lt (pre := pre) g2 g10 g9, ← g1]
            refine hF_congr fun x hx' ha => ?_
            have hno : ∀ u : Unord ms r.i x.i, False := fun u => by
              have := hx x hx' u
              rcases ha with ha | ha
              · rw [this.1] at ha; cases ha
              · rw [this.2] at ha; simp at ha; omega
            rcases Nat.lt_trichotomy x.i i with q | q | q
            · rw [decide_eq_true q, Bool.true_and]
              cases hbit : bitM ms i x.i with
              | true => exact hpred x hx' q hbit
              | false => exact (hno ⟨by omega, by rw [g2, if_pos q]; exact hbit⟩).elim
            · rw [decide_eq_false (by omega), Bool.false_and, q]; exact hDi
            · rw [decide_eq_false (by omega), Bool.false_and]
              cases hd2 : D x.i with
              | false => rfl
              | true => exact (hno (by rw [g2]; exact hun x hx' q hd2)).elim
          have hlow : ∀ b, nx0 ≤ b → r.base ≤ b ∨ ∃ x ∈ rs, D x.i = true ∧ x.base ≤ b ∧ b < x.base + x.eff.new.length := by
            intro b hb
            rcases Nat.lt_or_ge b r.base with q | q
            · obtain ⟨x, hx1, hx2, hx3⟩ := g4.cover b hb q
              have hlt := g10 x hx1
              cases hbit : bitM ms i x.i with
              | true => exact .inr ⟨x, hrestmem x hx1, hpred x (hrestmem x hx1) hlt hbit, hx2, hx3⟩
              | false =>
                have := (hx x (hrestmem x hx1) ⟨by omega, by rw [g2, if_pos hlt]; exact hbit⟩).2
                rw [this] at hx3
                simp at hx3
                omega
            · exact .inl q
          have hfr2 : ∀ b, r.base ≤ b → E.ρ b = none := by
            intro b h1
            refine hI.fresh b (by have := (hwf.nx.2 r hrmem).1; omega) fun x hx' hd hb => ?_
            rcases Nat.lt_trichotomy x.i r.i with q | q | q
            · have := hwf.sep x hx' r hrmem q; omega
            · rw [q, hDi'] at hd; cases hd
            · have := (hx x hx' (by rw [g2]; exact hun x hx' (by omega) hd)).2
              rw [this] at hb
              simp at hb
              omega
          obtain ⟨cs, hcs, hrun⟩ := resolve_run hI.t hop hres E.w
          unfold Oper.wp
          rw [hrun]
          refine (hsh f vs _ r.base v H' nx1 hcall E cs hI.R hEH hfr2 hcs).mono ?_
          rintro en w' ⟨cv, E1, rfl, rfl, hl, hH, hR, hrv, hfr3⟩
          refine hK E1 _ ⟨?_, hput hl.x (by rw [e1]; exact hrv), hR, hI.x.trans hl.x, hl.O.trans hI.O, hI.bel.trans (by have := hl.bel; rwa [hI.x.B] at this), fun b hb1 hb2 => ?_, hdf cv⟩
          · rw [hH, e3, hhadd, ← hI.H, hEH]
          · refine hfr3 b ?_
            rcases hlow b hb1 with q | ⟨x, hx1, hx2, hx3⟩
            · have := hb2 r hrmem (by rw [g2]; simp)
              omega
            · exact absurd hx3 (hb2 x hx1 (by rw [hx2]; rfl))
        · cases hstep
      · cases hstep
    rename_i hshn
    have hstep : r.ex = false ∧ opE P call (heapOf H0 (bitM ms i) rest) r.base r.t r.o = some r.eff := by
      split at hstep
      · rename_i e he
        simp only [Option.some.injEq, Prod.mk.injEq] at hstep
        obtain ⟨h1, rfl⟩ := hstep
        exact ⟨h1.symm, he⟩
      · cases hstep
    have hop : ∃ L, Sub L E ∧ opE P call L r.base (tF t0 D rs) r.o = some r.eff := by
      have hcg := fun L => opE_congr (P := P) (call := call) (L := L) (base := r.base) (ev_congr hnth)
      rcases (hseen pre r rest g1).2 with q | q
      · refine ⟨heapOf H0 (bitM ms i) rest, fun b blk hb => hsub b blk hb (by rw [← g2, q.1]; simp), ?_⟩
        rw [← hcg]
        exact hstep.2
      · rcases q.2.2 hw with q3 | q3 | ⟨q3, q4⟩ | ⟨b0, q3, q4⟩
        rotate_left
        · refine ⟨[], fun b blk hb => (by cases hb), ?_⟩
          rw [← hcg, free_any (L' := heapOf H0 (bitM ms i) rest) q3]
          exact hstep.2
        · refine ⟨heapOf H0 D rs, fun b blk hb => by rw [hI.H, ← heapOf_get]; exact hb, ?_⟩
          rw [← hcg]
          refine addr_ver q3 (fun b blk hb => ?_) hstep.2
          have hb0 := hb
          rw [heapOf_get, ← hF_lt (pre := pre) g2 g10 g9, ← g1] at hb
          rw [heapOf_get]
          rcases hF_pick (H := hget H0) (D := D) (D' := fun j => decide (j < i) && bitM ms i j) (b := b) (rs := rs) (fun x hx _ hd => by
              rw [Bool.and_eq_true, decide_eq_true_eq] at hd
              exact hpred x hx hd.1 hd.2) with k | ⟨x, hx, k1, k2, k3, k4⟩
          · exact ⟨blk, by rw [k, hb], rfl⟩
          · have hu : Unord ms i x.i := by
              rcases Nat.lt_trichotomy x.i i with q | q | q
              · rw [decide_eq_true q, Bool.true_and] at k2
                exact ⟨by omega, by rw [if_pos q]; exact k2⟩
              · rw [q, hDi] at k1; cases k1
              · exact hun x hx q k1
            have hnew : ¬ (x.base ≤ b ∧ b < x.base + x.eff.new.length) := by
              rintro ⟨n1, n2⟩
              rcases Nat.lt_trichotomy x.i i with q | q | q
              · have hxr : x ∈ rest := by
                  have hx' : x ∈ pre ++ r :: rest := g1 ▸ hx
                  rcases List.mem_append.1 hx' with q' | q'
                  · have := g9 x q'; omega
                  · cases q' with
                    | head => omega
                    | tail _ q' => exact q'
                have := hwf.unseen ho h0 hwr i pre r rest g1 g2 x hxr b n1 n2 (by rw [hb0]; rfl)
                rw [decide_eq_true q, Bool.true_and, this] at k2
                cases k2
              · rw [q, hDi] at k1; cases k1
              · have h1 := hdomr b (by rw [hb0]; rfl)
                have h2 := hwf.sep r hrmem x hx (by omega)
                omega
            have hin : b ∈ x.eff.wr.map (·.1) := k3.resolve_right hnew
            have hval := k4 (fun _ => none)
            unfold applyF at hval
            rw [newsF_get, if_neg hnew] at hval
            obtain ⟨y, hy⟩ := setsF_in hin
            rw [hy] at hval
            obtain ⟨p, p1, p2, p3⟩ := setsF_val hin (hy fun _ => none)
            refine ⟨y, hval, ?_⟩
            have := q4 x hx (by rw [g2]; exact hu) p p1 blk (by rw [p2, g2]; exact hb0)
            rw [this, p3]
        · refine ⟨hrem (heapOf H0 (bitM ms r.i) rest) (xids ms r.i rs), fun b blk hb => ?_, ?_⟩
          · rw [hrem_get] at hb
            split at hb
            · cases hb
            · rename_i hX
              rw [g2] at hb hX
              exact hsub b blk hb (by simpa using hX)
          · rw [← hcg]
            rw [load_same q3 (show hget (hrem (heapOf H0 (bitM ms r.i) rest) (xids ms r.i rs)) b0 = hget (heapOf H0 (bitM ms r.i) rest) b0 by rw [hrem_get, if_neg (by rw [q4]; simp)]), g2]
            exact hstep.2
        · refine ⟨hrem (heapOf H0 (bitM ms r.i) rest) (xids ms r.i rs), fun b blk hb => ?_, ?_⟩
          · rw [hrem_get] at hb
            split at hb
            · cases hb
            · rename_i hX
              rw [g2] at hb hX
              exact hsub b blk hb (by simpa using hX)
          · rw [← hcg]
            exact q3
    obtain ⟨L, hL, hopE⟩ := hop
    refine opE_sound hc hI.R hL hI.t hopE hfr _ _ fun cv E' h1 h2 h3 h4 h5 h6 h7 h8 => ?_
    refine hK E' _ ⟨by rw [h3, hhadd, hI.H], hput h4 h6, h5, hI.x.trans h4, h2.trans hI.O, hI.bel.trans (by have := h7; rwa [hI.x.B] at this), hfresh' E' h8, hdf cv⟩
end
end
end Go.Proofs.Ytnnfcebnmogdmaa.VM
/- The machine of values: a region whose order is open, whole. No conditions. -/
namespace Go.Proofs.Ytnnfcebnmogdmaa.VM
set_option linter.unusedSimpArgs false
set_option linter.unusedVariables false
open Go Go.RowKit
noncomputable section

/-- How a state of the machine of values stands to the model's. -/
structure StRel (E : Env) (t : List V) (H : Heap) (nx : Nat) (a : Act) : Prop where
  H : E.H = hget H
  t : RelL E t a.tmps.toList
  R : HRel E
  fresh : ∀ b, nx ≤ b → E.ρ b = none
  df : a.defers = []
theorem countP_lt {p q : Nat → Bool} : ∀ {l : List Nat}, (∀ x ∈ l, q x = true → p x = true) → (∃ x ∈ l, p x = true ∧ q x = false) → l.countP q < l.countP p
  | [], _, ⟨x, hx, _⟩ => by cases hx
  | y :: l, h, ⟨x, hx, h1, h2⟩ => by
    have hle : l.countP q ≤ l.countP p := List.countP_mono_left fun z hz hq => h z (List.mem_cons_of_mem _ hz) hq
    rw [List.countP_cons, List.countP_cons]
    cases hx with
    | head => rw [h1, h2]; simp; omega
    | tail _ hx =>
      have ih := countP_lt (fun z hz => h z (List.mem_cons_of_mem _ hz)) ⟨x, hx, h1, h2⟩
      cases hq : q y with
      | true => rw [h y (List.mem_cons_self ..) hq]; simp; omega
      | false => simp; omega

section
variable {P : Program} {cf : Cfg} {call : CallF} {sh : ShareF}
theorem draw_any {opsA : Array Oper} {ops : List Oper} (hA : opsA.toList = ops) {ms : List Nat} {H0 : Heap} {t0 : List V} {nx0 : Nat} (hc : CallOK P call) (hsh : ShareOK P sh) (ho : Orders ops ms) {E0 : Env} {a0 : Act} {rs : List DRec} {t' : List V} {nx' : Nat}
    (hwf : WF P cf call sh ops ms H0 t0 nx0 rs t' nx') (hlen : rs.length = ops.length) (h0 : ∀ b x, hget H0 b = some x → b < nx0) (hseen : ∀ pre r rest, rs = pre ++ r :: rest → Seen P call ms H0 rs r rest) {Q : Exit → Act → World → Prop}
    (hQ : ∀ E' a', Inv H0 t0 nx0 E0 a0 rs (fun j => decide (j < ops.length)) E' a' → Q .normal a' E'.w) :
    ∀ (fuel : Nat) (listed : Array Bool) (E : Env) (a : Act), listed.size = ops.length → (List.range ops.length).countP (fun j => !listed.getD j false) ≤ fuel → Down ops (fun j => listed.getD j false) →
      Inv H0 t0 nx0 E0 a0 rs (fun j => listed.getD j false) E a → wpAny P .any opsA Q fuel listed a E.w := by
  have hsz : opsA.size = ops.length := by rw [← hA]; simp
  have hops : ∀ i, opsA[i]? = ops[i]? := fun i => by rw [← hA]; exact (Array.getElem?_toList ..).symm
  have hin : ∀ {i : Nat} {y : Oper}, ops[i]? = some y → i < ops.length := by
    intro i y h
    rcases Nat.lt_or_ge i ops.length with q | q
    · exact q
    · simp [List.getElem?_eq_none q] at h
  have alldone : ∀ {listed : Array Bool} {E : Env} {a : Act}, listed.size = ops.length → Region.ready .any opsA listed = [] → Inv H0 t0 nx0 E0 a0 rs (fun j => listed.getD j false) E a → Q .normal a E.w := by
    intro listed E a hls hr hI
    have hall : ∀ j, j < ops.length → listed.getD j false = true := by
      intro j
      induction j using Nat.strongRecOn with
      | _ j ih =>
        intro hj
        cases hq : listed.getD j false with
        | true => rfl
        | false =>
          exfalso
          have : j ∈ Region.ready .any opsA listed := by
            rw [mem_ready]
            refine ⟨?_, ops[j], by rw [hops]; exact List.getElem?_eq_getElem hj, fun e he hb => ?_⟩
            · rw [Array.getD_eq_getD_getElem?, Array.getElem?_eq_getElem (by omega)] at hq ⊢
              exact hq
            · have := ho.edge j ops[j] e (List.getElem?_eq_getElem hj) he hb
              exact ih e.on this.1 (by omega)
          rw [hr] at this
          cases this
    have hfun : (fun j => listed.getD j false) = fun j => decide (j < ops.length) := by
      funext j
      by_cases hj : j < ops.length
      · rw [hall j hj, decide_eq_true hj]
      · rw [decide_eq_false hj, Array.getD_eq_getD_getElem?, Array.getElem?_eq_none (by omega)]; rfl
    rw [hfun] at hI
    exact hQ E a hI
  intro fuel
  induction fuel with
  | zero =>
    intro listed E a hls hcount hD hI
    have hr : Region.ready .any opsA listed = [] := by
      cases hq : Region.ready .any opsA listed with
      | nil => rfl
      | cons j l =>
        exfalso
        have hj : j ∈ Region.ready .any opsA listed := by rw [hq]; exact List.mem_cons_self ..
        rw [mem_ready] at hj
        obtain ⟨h1, o, h2, _⟩ := hj
        rw [hops] at h2
        have hjl := hin h2
        have : 0 < (List.range ops.length).countP (fun j => !listed.getD j false) := by
          rw [List.countP_pos_iff]
          refine ⟨j, List.mem_range.2 hjl, ?_⟩
          rw [Array.getD_eq_getD_getElem?, Array.getElem?_eq_getElem (by omega)] at h1 ⊢
          simp only [Option.getD_some] at h1 ⊢
          rw [h1]; rfl
        omega
    exact ⟨hr, alldone hls hr hI⟩
  | succ fuel ih =>
    intro listed E a hls hcount hD hI
    refine ⟨fun hr => alldone hls hr hI, fun i hi => ?_⟩
    rw [mem_ready] at hi
    obtain ⟨h1, o, h2, h3⟩ := hi
    rw [hops] at h2
    have hil := hin h2
    have hDi : listed.getD i false = false := by
      rw [Array.getD_eq_getD_getElem?, Array.getElem?_eq_getElem (by omega)] at h1 ⊢
      exact h1
    have hset : ∀ j, (listed.setIfInBounds i true).getD j false = (listed.getD j false || j == i) := by
      intro j
      by_cases hj : i = j
      · subst hj
        rw [Array.getD_eq_getD_getElem?, Array.getElem?_setIfInBounds_self_of_lt (by omega)]
        simp
      · have hji : (j == i) = false := by simpa using fun e => hj e.symm
        rw [hji, Bool.or_false, Array.getD_eq_getD_getElem?, Array.getElem?_setIfInBounds_ne hj, Array.getD_eq_getD_getElem?]
    have hfun : (fun j => (listed.setIfInBounds i true).getD j false) = fun j => (listed.getD j false || j == i) := funext hset
    refine draw_step hA hc hsh ho hwf hlen h0 hseen hD hI h2 hDi h3 fun E' a' hI' => ?_
    refine ih _ E' a' (by simp [hls]) ?_ ?_ (by rw [hfun]; exact hI')
    · have hlt : (List.range ops.length).countP (fun j => !(listed.setIfInBounds i true).getD j false) < (List.range ops.length).countP (fun j => !listed.getD j false) := by
        refine countP_lt (fun x _ hx => ?_) ⟨i, List.mem_range.2 hil, by rw [hDi]; rfl, by rw [hset]; simp⟩
        rw [hset] at hx
        cases hq : listed.getD x false with
        | true => rw [hq] at hx; simp at hx
        | false => rfl
      omega
    · intro j z hz hj e he hb
      simp only [hset] at hj ⊢
      rw [Bool.or_eq_true] at hj
      rcases hj with hj | hj
      · have q : listed.getD e.on false = true := hD j z hz hj e he hb
        rw [q]; rfl
      · have : j = i := by simpa using hj
        subst this
        rw [h2] at hz
        cases hz
        rw [h3 e he hb]; rfl

theorem draw_sound {opsA : Array Oper} (hm : P.follows .mixedOrders = true) (hc : CallOK P call) (hsh : ShareOK P sh) {id : Nat} {t : List V} {H0 : Heap} {nx : Nat} {E : Env} {a : Act} (hS : StRel E t H0 nx a) {t' : List V} {H' : Heap} {nx' : Nat}
    (h : runDraw P cf call sh opsA.toList t H0 nx = some (t', H', nx')) {Q : Exit → Act → World → Prop} (hQ : ∀ E' a', StRel E' t' H' nx' a' → Later E E' → Q .normal a' E'.w) : (Code.region id opsA true).wp P Q a E.w := by
  unfold runDraw at h
  simp only at h
  split at h
  · rename_i hok
    have ho := orders_of hok
    split at h
    · rename_i t1 nx1 recs hf
      split at h
      · rename_i hchk
        simp only [Option.some.injEq, Prod.mk.injEq] at h
        obtain ⟨rfl, rfl, rfl⟩ := h
        obtain ⟨hwf, hlen⟩ := fwd_wf (WF.nil (P := P) (cf := cf) (call := call) (sh := sh) (ops := opsA.toList) (ms := masks opsA.toList []) (H0 := H0) (t0 := t) (nx0 := nx)) rfl (fun j => by simp) hf
        rw [List.length_nil, Nat.zero_add] at hlen
        have hseen : ∀ pre r rest, recs = pre ++ r :: rest → Seen P call (masks opsA.toList []) H0 recs r rest := by
          rcases Bool.or_eq_true_iff.1 hchk with q | q
          · have hw2 : ∀ r ∈ recs, r.eff.wr = [] ∧ r.ex = false := fun r hr => by have := List.all_eq_true.1 q r hr; simpa using this
            have hw : ∀ r ∈ recs, r.eff.wr = [] := fun r hr => (hw2 r hr).1
            intro pre r rest e
            have hex := (hw2 r (by rw [e]; simp)).2
            exact ⟨(fun h => by rw [hex] at h; cases h), .inl ⟨xids_nil hw, fun b hb => by rw [hw r (by rw [e]; simp)] at hb; cases hb⟩⟩
          · exact chk_seen q
        have hb : ∀ b x, hget H0 b = some x → b < nx := by
          intro b x hbx
          obtain ⟨e, he, _⟩ := hS.R.at_ b x (by rw [hS.H]; exact hbx)
          rcases Nat.lt_or_ge b nx with q | q
          · exact q
          · rw [hS.fresh b q] at he; cases he
        let E1 : Env := { E with w := { E.w with drawn := E.w.drawn + 1 } }
        have hx1 : Ext E E1 := ext_world (fun _ _ => rfl) (Nat.le_refl _)
        have hR1 : HRel E1 := hrel_world hS.R (fun _ _ => rfl) (Nat.le_refl _)
        have hb1 : Below E.B E.w E1.w := ⟨rfl, rfl, rfl, Nat.le_refl _, fun _ _ => rfl⟩
        have hnone : ∀ {rs : List DRec} {H : Nat → Option Blk}, hF H (fun _ => false) rs = H := by
          intro rs
          induction rs with
          | nil => intro H; rfl
          | cons r rs ih => intro H; simp only [hF, Bool.false_eq_true, if_false]; exact ih
        have hnoneT : ∀ {rs : List DRec} {t : List V}, tF t (fun _ => false) rs = t := by
          intro rs
          induction rs with
          | nil => intro t; rfl
          | cons r rs ih => intro t; simp only [tF, Bool.false_eq_true, if_false]; exact ih
        have hlist : (fun j => (Array.replicate opsA.size false).getD j false) = fun _ => false := by
          funext j
          rw [Array.getD_eq_getD_getElem?, Array.getElem?_replicate]
          split <;> rfl
        refine wp_region_any hm ?_
        refine draw_any (ops := opsA.toList) (E0 := E) (a0 := a) rfl hc hsh ho hwf hlen hb hseen (fun E' a' hI => ?_) opsA.size (Array.replicate opsA.size false) E1 a (by simp) ?_ ?_ ?_
        · have hDall : ∀ r ∈ recs, decide (r.i < opsA.toList.length) = true := fun r hr => decide_eq_true (by have := hwf.idx r hr; omega)
          refine hQ E' a' ⟨?_, ?_, hI.R, fun b hb => ?_, hI.df.trans hS.df⟩ ⟨hI.x, hI.O, hI.bel⟩
          · rw [hI.H, heapOf_get]
            funext b
            exact hF_congr fun r hr _ => hDall r hr
          · have ht := hI.t
            have : tF t (fun j => decide (j < opsA.toList.length)) recs = tF t (fun _ => true) recs := by
              apply List.ext_getElem?
              intro s
              exact tF_congr fun r hr _ => hDall r hr
            rw [this, ← hwf.t] at ht
            exact ht
          · refine hI.fresh b (Nat.le_trans hwf.nx.1 hb) fun r hr _ hq => ?_
            have := (hwf.nx.2 r hr).2
            omega
        · rw [show opsA.size = (List.range opsA.toList.length).length from by simp]
          exact List.countP_le_length ..
        · intro j y hy hj
          have : (Array.replicate opsA.size false).getD j false = false := congrFun hlist j
          simp only [this] at hj
          cases hj
        · rw [hlist]
          refine ⟨by rw [hnone]; exact hS.H, by rw [hnoneT]; exact hS.t.mono hx1, hR1, hx1, rfl, hb1, fun b hb _ => hS.fresh b hb, rfl⟩
      · cases h
    · cases h
  · cases h
end
end
end Go.Proofs.Ytnnfcebnmogdmaa.VM
/- The machine of values: what a call leaves, and the machine itself. No conditions. -/
namespace Go.Proofs.Ytnnfcebnmogdmaa.VM
set_option linter.unusedSimpArgs false
set_option linter.unusedVariables false
open Go Go.RowKit
noncomputable section

/-! Results. -/
def resV (P : Program) (t : List V) (H : Heap) : ResultVar → Option V
  | .tmp i => some (nth t i)
  | .cell a ty => loadV P H ty (nth t a)
def resultsV (P : Program) (fn : Func) (t : List V) (H : Heap) : Option V :=
  match mapO (resV P t H) fn.results.toList with
  | some [v] => some v
  | some vs => some (.tup vs)
  | none => none

/-- What a call on its own hands back: values without blocks. -/
def exportI (H : Heap) (v : V) : Option (V × List Blk) :=
  match reify H true 60 v with
  | some (v', _) => some (v', [])
  | none => none

/-! Results whose rows may be written on: their blocks go along. -/
def topIds : V → List (Nat × Nat × Nat × Nat)
  | .slB b off ver n => [(b, off, ver, n)]
  | .agg cs => cs.filterMap fun | .slB b off ver n => some (b, off, ver, n) | _ => none
  | _ => []
def allIds : V → List (Nat × Nat × Nat × Nat)
  | .tup vs => vs.flatMap topIds
  | v => topIds v
def idxN : List Nat → Nat → Nat → Option Nat
  | [], _, _ => none
  | a :: r, b, j => if a = b then some j else idxN r b (j + 1)
def expC (L : Heap) (ids : List Nat) (base : Nat) : V → Option V
  | .slB b _ _ n => (idxN ids b 0).map fun j => .slB (base + j) 0 0 n
  | v => (reify L true 60 v).map (·.1)
def expT (L : Heap) (ids : List Nat) (base : Nat) : V → Option V
  | .agg cs => (mapO (expC L ids base) cs).map .agg
  | v => expC L ids base v
def expV (L : Heap) (ids : List Nat) (base : Nat) : V → Option V
  | .tup vs => (mapO (expT L ids base) vs).map .tup
  | v => expT L ids base v
def expB (H L : Heap) : Nat × Nat × Nat × Nat → Option Blk
  | (b, off, ver, n) => match hget H b with
    | some blk => if blk.ver = ver ∧ blk.fz = false ∧ off + n * blk.k ≤ blk.cells.length then
        match mapRL (reify L true 60) ((blk.cells.drop off).take (n * blk.k)) with
        | some (cs, _) => some ⟨cs, blk.k, 0, false⟩
        | none => none else none
    | none => none
def nodupB : List Nat → Bool
  | [] => true
  | a :: r => !r.contains a && nodupB r
def exportT (H : Heap) (base : Nat) (v : V) : Option (V × List Blk) :=
  let qs := allIds v
  let ids := qs.map (·.1)
  if nodupB ids = true then
    let L := hrem H ids
    match expV L ids base v, mapO (expB H L) qs with
    | some v', some blks => some (v', blks)
    | _, _ => none
  else none

structure St where
  t : List V
  H : Heap
  nx : Nat
inductive Ex where
  | normal | exit (id : Nat) | ret
abbrev ExecF := Code → St → Option (Ex × St)

def bodyOf (P : Program) (f : FuncId) : Option (Func × Code) :=
  match P.funcs[f]? with
  | some fn => match fn.body with
    | some c => some (fn, c)
    | none => none
  | none => none
def frame (fn : Func) (vs : List V) : List V := vs ++ List.replicate (fn.ntmps - vs.length) (.tup [])
def callI (P : Program) (cf : Cfg) (ih : ExecF) : CallF := fun f base vs =>
  match cf.ext f with
  | some g => g base vs
  | none => match bodyOf P f with
    | some (fn, c) => match ih c ⟨frame fn vs, [], 0⟩ with
      | some (.exit _, _) => none
      | some (_, st) => match resultsV P fn st.t st.H with
        | some v => if cf.thaw f then exportT st.H base v else exportI st.H v
        | none => none
      | none => none
    | none => none
def callS (P : Program) (ih : ExecF) : ShareF := fun f vs H nx =>
  match bodyOf P f with
  | some (fn, c) => match ih c ⟨frame fn vs, H, nx⟩ with
    | some (.exit _, _) => none
    | some (_, st) => match resultsV P fn st.t st.H with
      | some v => some (v, st.H, st.nx)
      | none => none
    | none => none
  | none => none
def stepOp (P : Program) (cf : Cfg) (call : CallF) (sh : ShareF) (ops : List Oper) (st : St) (o : Oper) : Option St :=
  if wantedV ops st.t o then
    match sharedV P cf st.t o with
    | some (f, vs) => match sh f vs st.H st.nx with
      | some (v, H', nx') => some ⟨putV st.t o.dst v, H', nx'⟩
      | none => none
    | none => match opE P call st.H st.nx st.t o with
      | some eff => some ⟨putV st.t o.dst eff.v, applyL st.H st.nx eff, st.nx + eff.new.length⟩
      | none => none
  else some ⟨putV st.t o.dst (.tup []), st.H, st.nx⟩
def bindO {α β : Type} (x : Option α) (f : α → Option β) : Option β :=
  match x with
  | some a => f a
  | none => none
def runSeq (P : Program) (cf : Cfg) (call : CallF) (sh : ShareF) (ops l : List Oper) (st : St) : Option St :=
  List.rec (motive := fun _ => St → Option St) some (fun o _ ih st => bindO (stepOp P cf call sh ops st o) ih) l st
theorem runSeq_cons (P : Program) (cf : Cfg) (call : CallF) (sh : ShareF) (ops : List Oper) (o : Oper) (r : List Oper) (st : St) : runSeq P cf call sh ops (o :: r) st = (match stepOp P cf call sh ops st o with
    | some st' => runSeq P cf call sh ops r st'
    | none => none) := by
  show bindO (stepOp P cf call sh ops st o) (runSeq P cf call sh ops r) = _
  unfold bindO
  cases stepOp P cf call sh ops st o <;> rfl
/-- On, if it went through. -/
def onward (r : Option (Ex × St)) (f : St → Option (Ex × St)) : Option (Ex × St) :=
  match r with
  | some (.normal, st') => f st'
  | r => r
def iterN (f : St → Option (Ex × St)) (n : Nat) (st : St) : Option (Ex × St) :=
  Nat.rec (motive := fun _ => St → Option (Ex × St)) (fun _ => none) (fun _ ih st => onward (f st) ih) n st
def execRegion (P : Program) (cf : Cfg) (ih : ExecF) (ops : Array Oper) (draw : Bool) (st : St) : Option (Ex × St) :=
  if draw then match runDraw P cf (callI P cf ih) (callS P ih) ops.toList st.t st.H st.nx with
    | some (t, H, nx) => some (.normal, ⟨t, H, nx⟩)
    | none => none
  else match runSeq P cf (callI P cf ih) (callS P ih) ops.toList ops.toList st with
    | some st' => some (.normal, st')
    | none => none
def execCond (ih : ExecF) (c : Operand) (x y : Code) (st : St) : Option (Ex × St) :=
  match evalV st.t c with
  | some (.bool b) => ih (if b then x else y) st
  | _ => none
def execBlock (ih : ExecF) (id : Nat) (body : Code) (st : St) : Option (Ex × St) :=
  match ih body st with
  | some (.exit id', st') => if id' = id then some (.normal, st') else some (.exit id', st')
  | r => r
def execStep (P : Program) (cf : Cfg) (n : Nat) (ih : ExecF) : ExecF := fun c st =>
  match c with
  | .skip => some (.normal, st)
  | .label _ => some (.normal, st)
  | .region _ ops draw => execRegion P cf ih ops draw st
  | .seq x y => onward (ih x st) (ih y)
  | .cond c x y => execCond ih c x y st
  | .block id body => execBlock ih id body st
  | .loop body => iterN (ih body) n st
  | .scope body => ih body st
  | .exit id => some (.exit id, st)
  | .ret => some (.ret, st)
  | _ => none
def exec (P : Program) (cf : Cfg) : Nat → ExecF := fun n => Nat.rec (fun _ _ => none) (fun n ih => execStep P cf n ih) n
/-- A call on its own. -/
def vcall (P : Program) (cf : Cfg) (n : Nat) : CallF := callI P cf (exec P cf n)
end
end Go.Proofs.Ytnnfcebnmogdmaa.VM
/- The machine of values: it is the model's. No conditions. -/
namespace Go.Proofs.Ytnnfcebnmogdmaa.VM
set_option linter.unusedSimpArgs false
set_option linter.unusedVariables false
open Go Go.RowKit
noncomputable section
section
variable {P : Program}

theorem loadVar_run {E : Env} {L : Heap} (hR : HRel E) (hL : Sub L E) {ty : TypeId} {p v : V} {c : Value} (hv : loadV P L ty p = some v) (r : Rel E p c) :
    ∃ ad cv, c = .pointer (some ad) ∧ (loadVar ty ad).run P E.w = .ok cv E.w ∧ Rel E v cv := by
  unfold loadV at hv
  split at hv
  · rename_i n cs hz hc
    obtain ⟨h1, h2⟩ := tySz_run hz
    obtain ⟨b, o', cvs, e1, e2, e3⟩ := cellsAt_rel hR hL hc r
    split at hv
    · rename_i hn
      cases hv
      have hl := run_loadCells_at (P := P) e3 n (by rw [← e2.length]; exact hn)
      exact ⟨_, .agg (cvs.take n).toArray, e1, by simp [loadVar, h1, h2, hl], .agg (e2.take n)⟩
    · cases hv
  · rename_i n cs hz hc
    obtain ⟨h1, h2⟩ := tySz_run hz
    obtain ⟨b, o', cvs, e1, e2, e3⟩ := cellsAt_rel hR hL hc r
    obtain ⟨y, g1, g2⟩ := e2.get 0 v hv
    have g3 := e3 0 y g1
    simp only [Nat.add_zero] at g3
    exact ⟨_, y, e1, by simp [loadVar, h1, g3], g2⟩
  · cases hv

def resC (tmps : Array Value) : ResultVar → Sem Value
  | .tmp i => pure (tmps.getD i undef)
  | .cell q ty => do loadVar ty (← asAddr (tmps.getD q undef))
theorem results_resC (fn : Func) (tmps : Array Value) : results fn tmps = (do
    let vs ← fn.results.mapM (resC tmps)
    pure (if h : vs.size = 1 then vs[0] else .tuple vs)) := by
  unfold results
  congr 1
theorem resM_run {E : Env} {H : Heap} (hR : HRel E) (hL : Sub H E) {t : List V} {a : Act} (ht : RelL E t a.tmps.toList) : ∀ {rs : List ResultVar} {vs : List V}, mapO (resV P t H) rs = some vs →
    ∃ cs : List Value, (rs.mapM (resC a.tmps)).run P E.w = .ok cs E.w ∧ RelL E vs cs
  | [], vs, h => by cases h; exact ⟨[], by simp, .nil⟩
  | r :: rs, vs, h => by
    simp only [mapO] at h
    cases h1 : resV P t H r with
    | none => rw [h1] at h; cases h
    | some v =>
      cases h2 : mapO (resV P t H) rs with
      | none => rw [h1, h2] at h; cases h
      | some ws =>
        rw [h1, h2] at h
        cases h
        obtain ⟨cs, g1, g2⟩ := resM_run hR hL ht h2
        cases r with
        | tmp i =>
          simp only [resV] at h1
          cases h1
          refine ⟨a.tmps.getD i undef :: cs, ?_, .cons (nth_rel ht i) g2⟩
          rw [List.mapM_cons]
          simp only [resC, Sem.run_bind, Sem.run_pure, Result.andThen_ok, g1]
        | cell q ty =>
          simp only [resV] at h1
          obtain ⟨ad, cv, k1, k2, k3⟩ := loadVar_run hR hL h1 (nth_rel ht q)
          refine ⟨cv :: cs, ?_, .cons k3 g2⟩
          rw [List.mapM_cons]
          simp only [resC, Sem.run_bind, k1, asAddr, Sem.run_pure, Result.andThen_ok, k2, g1]
theorem results_rel {E : Env} {H : Heap} (hR : HRel E) (hL : Sub H E) {t : List V} {a : Act} (ht : RelL E t a.tmps.toList) {fn : Func} {v : V} (h : resultsV P fn t H = some v) :
    ∃ cv, (results fn a.tmps).run P E.w = .ok cv E.w ∧ Rel E v cv := by
  unfold resultsV at h
  have key : ∀ {vs : List V}, mapO (resV P t H) fn.results.toList = some vs → ∃ cs : List Value, (results fn a.tmps).run P E.w = .ok (if h : cs.toArray.size = 1 then cs.toArray[0] else .tuple cs.toArray) E.w ∧ RelL E vs cs := by
    intro vs hvs
    obtain ⟨cs, g1, g2⟩ := resM_run (P := P) hR hL ht hvs
    refine ⟨cs, ?_, g2⟩
    rw [results_resC, Array.mapM_eq_mapM_toList]
    simp only [Sem.run_bind, Sem.run_map, g1, Result.andThen_ok, Sem.run_pure]
  split at h
  · rename_i v' hv
    cases h
    obtain ⟨cs, g1, g2⟩ := key hv
    cases g2 with
    | cons r s =>
      cases s
      exact ⟨_, g1, r⟩
  · rename_i vs hne hv
    cases h
    obtain ⟨cs, g1, g2⟩ := key hv
    have hl := g2.length
    have : ¬ cs.toArray.size = 1 := by
      intro q
      have hq : vs.length = 1 := by simp at q; omega
      match vs, hq with
      | [x], _ => exact hne x rfl
    rw [dif_neg this] at g1
    exact ⟨_, g1, .tup g2⟩
  · cases h

theorem frame_rel {E : Env} {fn : Func} {vs : List V} {cs : List Value} (h : RelL E vs cs) : RelL E (frame fn vs) (cs.toArray ++ Array.replicate (fn.ntmps - cs.toArray.size) undef).toList := by
  have hl := h.length
  simp only [Array.toList_append, Array.toList_replicate, List.size_toArray, frame, ← hl]
  refine h.append ?_
  generalize fn.ntmps - vs.length = n
  induction n with
  | zero => exact .nil
  | succ n ih => exact .cons undef_rel ih

theorem exportI_rel {E : Env} {H : Heap} (hR : HRel E) (hL : Sub H E) {v v' : V} {blks : List Blk} {c : Value} (h : exportI H v = some (v', blks)) (r : Rel E v c) (base : Nat) :
    HRel ⟨E.w, newsF blks base (fun _ => none), fun _ => none, E.B, E.O⟩ ∧ Rel ⟨E.w, newsF blks base (fun _ => none), fun _ => none, E.B, E.O⟩ v' c := by
  unfold exportI at h
  split at h
  · rename_i v1 rs hv
    simp only [Option.some.injEq, Prod.mk.injEq] at h
    obtain ⟨rfl, rfl⟩ := h
    refine ⟨⟨(fun b blk hb => by cases hb), (fun b b' blk blk' e e' c o o' h1 => by cases h1), hR.le⟩, ?_⟩
    refine reify_rel (A := ⟨E.w, newsF [] base (fun _ => none), fun _ => none, E.B, E.O⟩) hR hL 60 v v1 rs c hv r ⟨rfl, (fun d hd => ⟨hd.1, hd.2.1, fun b blk e o h1 => by cases h1⟩), (fun b hb blk e d o h1 h2 h3 => ?_), (fun _ => rfl)⟩
    obtain ⟨e', he', hl⟩ := hR.at_ b blk (hL b blk h1)
    rw [h2] at he'
    cases he'
    have := hl.lt h3
    exact ⟨this.2, fun q => by have q' : d < E.B := q; omega, fun b blk e o h1 => by cases h1⟩
  · cases h

/-- A function's body, walked, is a call of it. -/
theorem calls_body {fn : Func} {c : Code} {f : FuncId} (hb : bodyOf P f = some (fn, c)) {E : Env} {vs : List V} {cs : List Value} {H : Heap} {nx : Nat} (hR : HRel E) (hH : E.H = hget H) (hfr : ∀ b, nx ≤ b → E.ρ b = none) (hvs : RelL E vs cs)
    {ih : ExecF} (hih : ∀ c st ex st', ih c st = some (ex, st') → ∀ E a, StRel E st.t st.H st.nx a → ∀ Q : Exit → Act → World → Prop, (∀ E' a', StRel E' st'.t st'.H st'.nx a' → Later E E' → Q (match ex with | .normal => .normal | .exit id => .exit id | .ret => .ret) a' E'.w) → c.wp P Q a E.w)
    {ex : Ex} {st : St} (h : ih c ⟨frame fn vs, H, nx⟩ = some (ex, st)) (hex : ∀ id, ex ≠ .exit id) {v : V} (hv : resultsV P fn st.t st.H = some v) :
    Calls P f cs.toArray E.w (fun e w' => ∃ cv E', e = .returned cv ∧ E'.w = w' ∧ Later E E' ∧ E'.H = hget st.H ∧ HRel E' ∧ Rel E' v cv ∧ ∀ b, st.nx ≤ b → E'.ρ b = none) := by
  have hf : P.funcs[f]? = some fn ∧ fn.body = some c := by
    unfold bodyOf at hb
    split at hb
    · rename_i fn' hfn
      split at hb
      · rename_i c' hc
        cases hb
        exact ⟨hfn, hc⟩
      · cases hb
    · cases hb
  refine calls_of_wp hf.1 hf.2 ?_
  refine hih c _ ex st h E _ ⟨hH, frame_rel hvs, hR, hfr, rfl⟩ _ fun E' a' hS hl => ?_
  obtain ⟨cv, g1, g2⟩ := results_rel (P := P) (fn := fn) hS.R (fun b blk hb => by rw [hS.H]; exact hb) hS.t hv
  cases ex with
  | exit id => exact absurd rfl (hex id)
  | normal => exact ⟨hS.df, cv, g1, cv, E', rfl, rfl, hl, hS.H, hS.R, g2, hS.fresh⟩
  | ret => exact ⟨hS.df, cv, g1, cv, E', rfl, rfl, hl, hS.H, hS.R, g2, hS.fresh⟩

def ExecOK (P : Program) (ih : ExecF) : Prop :=
  ∀ c st ex st', ih c st = some (ex, st') → ∀ E a, StRel E st.t st.H st.nx a → ∀ Q : Exit → Act → World → Prop,
    (∀ E' a', StRel E' st'.t st'.H st'.nx a' → Later E E' → Q (match ex with | .normal => .normal | .exit id => .exit id | .ret => .ret) a' E'.w) → c.wp P Q a E.w
theorem callS_ok {ih : ExecF} (hih : ExecOK P ih) : ShareOK P (callS P ih) := by
  intro f vs H nx v H' nx' hcall E cs hR hH hfr hcs
  unfold callS at hcall
  split at hcall
  · rename_i fn code hb
    split at hcall
    · cases hcall
    · rename_i ex st2 hex hex2
      split at hcall
      · rename_i v2 hv2
        cases hcall
        exact calls_body hb hR hH hfr hcs hih hex2 (fun id q => hex id q) hv2
      · cases hcall
    · cases hcall
  · cases hcall
def ExtOK (P : Program) (cf : Cfg) : Prop := ∀ f g, cf.ext f = some g → ∀ base vs rv blks, g base vs = some (rv, blks) → IsoSound P f base vs rv blks

theorem nodupB_get : ∀ {l : List Nat}, nodupB l = true → ∀ (i j b : Nat), l[i]? = some b → l[j]? = some b → i = j
  | [], _, i, j, b, h, _ => by simp at h
  | a :: r, h, i, j, b, h1, h2 => by
    simp only [nodupB, Bool.and_eq_true, Bool.not_eq_true'] at h
    have hn : ∀ k, r[k]? ≠ some a := fun k q => by
      have := List.mem_of_getElem? q
      have h3 := h.1
      rw [← Bool.not_eq_true] at h3
      exact h3 (by simpa using this)
    cases i with
    | zero =>
      simp at h1
      subst h1
      cases j with
      | zero => rfl
      | succ j => simp at h2; exact absurd h2 (hn j)
    | succ i =>
      cases j with
      | zero => simp at h1 h2; subst h2; exact absurd h1 (hn i)
      | succ j => simp at h1 h2; rw [nodupB_get h.2 i j b h1 h2]
theorem idxN_get : ∀ {l : List Nat} {b k j : Nat}, idxN l b k = some j → k ≤ j ∧ l[j - k]? = some b
  | [], b, k, j, h => by cases h
  | a :: r, b, k, j, h => by
    rw [idxN] at h
    split at h
    · rename_i hab
      cases h
      subst hab
      exact ⟨Nat.le_refl _, by simp⟩
    · obtain ⟨h1, h2⟩ := idxN_get h
      refine ⟨by omega, ?_⟩
      rw [show j - k = (j - (k + 1)) + 1 from by omega]
      exact h2
theorem mapO_get {α β : Type} {f : α → Option β} : ∀ {l : List α} {r : List β}, mapO f l = some r → r.length = l.length ∧ ∀ (i : Nat) (x : β), r[i]? = some x → ∃ a, l[i]? = some a ∧ f a = some x
  | [], r, h => by cases h; exact ⟨rfl, fun i x h => by simp at h⟩
  | a :: l, r, h => by
    simp only [mapO] at h
    cases h1 : f a with
    | none => rw [h1] at h; cases h
    | some b =>
      cases h2 : mapO f l with
      | none => rw [h1, h2] at h; cases h
      | some bs =>
        rw [h1, h2] at h
        cases h
        obtain ⟨g1, g2⟩ := mapO_get h2
        refine ⟨by simp [g1], fun i x hx => ?_⟩
        cases i with
        | zero => simp at hx; subst hx; exact ⟨a, rfl, h1⟩
        | succ i => simp at hx; obtain ⟨y, k1, k2⟩ := g2 i x hx; exact ⟨y, by simpa using k1, k2⟩
theorem mapRL_length {f : V → Option (V × List Nat)} : ∀ {vs vs' : List V} {rs : List Nat}, mapRL f vs = some (vs', rs) → vs'.length = vs.length
  | [], vs', rs, h => by simp only [mapRL, Option.some.injEq, Prod.mk.injEq] at h; obtain ⟨rfl, rfl⟩ := h; rfl
  | v :: vs, vs', rs, h => by
    simp only [mapRL] at h
    cases h1 : f v with
    | none => rw [h1] at h; cases h
    | some p =>
      cases h2 : mapRL f vs with
      | none => rw [h1, h2] at h; cases h
      | some q =>
        rw [h1, h2] at h
        simp only [Option.some.injEq, Prod.mk.injEq] at h
        obtain ⟨rfl, rfl⟩ := h
        simp [mapRL_length h2]

def expρ (E : Env) (qs : List (Nat × Nat × Nat × Nat)) (base : Nat) (x : Nat) : Option RE :=
  if base ≤ x then match qs[x - base]? with
    | some (b, off, _, _) => match E.ρ b with
      | some e => some ⟨e.pos.map fun p => (p.1, p.2 + off), e.k, 0, e.asz⟩
      | none => none
    | none => none
  else none

theorem exportT_rel {E : Env} {H : Heap} (hR : HRel E) (hH : E.H = hget H) {v v' : V} {blks : List Blk} {c : Value} {base : Nat} (h : exportT H base v = some (v', blks)) (r : Rel E v c) :
    ∃ ρ, HRel ⟨E.w, newsF blks base (fun _ => none), ρ, E.B, E.O⟩ ∧ Rel ⟨E.w, newsF blks base (fun _ => none), ρ, E.B, E.O⟩ v' c ∧ ∀ b, ρ b ≠ none → base ≤ b ∧ b < base + blks.length := by
  unfold exportT at h
  simp only at h
  split at h
  · rename_i hnd
    generalize hqs : allIds v = qs at h hnd
    split at h
    · rename_i v1 bl hv hb
      simp only [Option.some.injEq, Prod.mk.injEq] at h
      obtain ⟨rfl, rfl⟩ := h
      obtain ⟨hlen, hget'⟩ := mapO_get hb
      -- what a block that goes along was
      have hone : ∀ x blk, newsF bl base (fun _ => none) x = some blk → base ≤ x ∧ ∃ b off ver n blk0 e rs, qs[x - base]? = some (b, off, ver, n) ∧ hget H b = some blk0 ∧ E.ρ b = some e ∧ Lies E blk0 e ∧ blk0.ver = ver ∧ blk0.fz = false ∧
          off + n * blk0.k ≤ blk0.cells.length ∧ mapRL (reify (hrem H (qs.map (·.1))) true 60) ((blk0.cells.drop off).take (n * blk0.k)) = some (blk.cells, rs) ∧ blk.k = blk0.k ∧ blk.ver = 0 ∧ expρ E qs base x = some ⟨e.pos.map fun p => (p.1, p.2 + off), e.k, 0, e.asz⟩ := by
        intro x blk hx
        rw [newsF_get] at hx
        split at hx
        · rename_i hrange
          obtain ⟨q, hq1, hq2⟩ := hget' _ blk hx
          obtain ⟨b, off, ver, n⟩ := q
          simp only [expB] at hq2
          split at hq2
          · rename_i blk0 hb0
            split at hq2
            · rename_i hc
              split at hq2
              · rename_i cs rs hcs
                cases hq2
                obtain ⟨e, he, hl⟩ := hR.at_ b blk0 (by rw [hH]; exact hb0)
                exact ⟨hrange.1, b, off, ver, n, blk0, e, rs, hq1, hb0, he, hl, hc.1, hc.2.1, hc.2.2, hcs, rfl, rfl, by unfold expρ; rw [if_pos hrange.1, hq1]; simp only [he]⟩
              · cases hq2
            · cases hq2
          · cases hq2
        · cases hx
      have hids : ∀ (j b off ver n : Nat), qs[j]? = some (b, off, ver, n) → (qs.map (·.1))[j]? = some b := by
        intro j b off ver n hj
        rw [List.getElem?_map, hj]; rfl
      have hreads : ∀ rs, Reads (hrem H (qs.map (·.1))) E ⟨E.w, newsF bl base (fun _ => none), expρ E qs base, E.B, E.O⟩ true rs := by
        intro rs
        refine ⟨rfl, (fun d hd => ⟨hd.1, hd.2.1, fun x blk e1 o h1 h2 h3 h4 => ?_⟩), (fun b hb1 blk e d o h1 h2 h3 => ?_), (fun _ => rfl)⟩
        · obtain ⟨_, b, off, ver, n, blk0, e, rs', k1, k2, k3, k4, k5, k6, k7, k8, k9, k10, k11⟩ := hone x blk h1
          have h3' : expρ E qs base x = some e1 := h3
          rw [k11] at h3'
          cases h3'
          cases hp : e.pos with
          | none => rw [hp] at h4; cases h4
          | some p =>
            rw [hp] at h4
            simp only [Option.map_some, Option.some.injEq, Prod.mk.injEq] at h4
            exact hd.2.2 b blk0 e p.2 (by rw [hH]; exact k2) k6 k3 (by rw [hp, ← h4.1])
        · rw [hrem_get] at h1
          split at h1
          · cases h1
          · rename_i hni
            obtain ⟨e', he', hl⟩ := hR.at_ b blk (by rw [hH]; exact h1)
            rw [h2] at he'
            cases he'
            have hlt := hl.lt h3
            refine ⟨hlt.2, (fun q => by have q' : d < E.B := q; omega), fun x blk1 e1 o1 g1 g2 g3 g4 => ?_⟩
            obtain ⟨_, b1, off, ver, n, blk0, e2, rs', k1, k2, k3, k4, k5, k6, k7, k8, k9, k10, k11⟩ := hone x blk1 g1
            have g3' : expρ E qs base x = some e1 := g3
            rw [k11] at g3'
            cases g3'
            cases hp : e2.pos with
            | none => rw [hp] at g4; cases g4
            | some p =>
              rw [hp] at g4
              simp only [Option.map_some, Option.some.injEq, Prod.mk.injEq] at g4
              have := hR.inj b b1 blk blk0 e e2 d o p.2 (by rw [hH]; exact h1) (by rw [hH]; exact k2) h2 k3 h3 (by rw [hp, ← g4.1])
              subst this
              exact hni (by simpa using List.mem_of_getElem? (hids _ _ _ _ _ k1))
      have hsub : Sub (hrem H (qs.map (·.1))) E := by
        intro b blk hb1
        rw [hrem_get] at hb1
        split at hb1
        · cases hb1
        · rw [hH]; exact hb1
      have hRR : HRel ⟨E.w, newsF bl base (fun _ => none), expρ E qs base, E.B, E.O⟩ := by
        refine ⟨fun x blk hx => ?_, fun x x' blk blk' e1 e1' d o o' h1 h2 h3 h4 h5 h6 => ?_, hR.le⟩
        · obtain ⟨_, b, off, ver, n, blk0, e, rs', k1, k2, k3, k4, k5, k6, k7, k8, k9, k10, k11⟩ := hone x blk hx
          refine ⟨_, k11, k10.symm, k4.2.1.trans k9.symm, ?_⟩
          have hbl := mapRL_length k8
          have h3 := k4.2.2
          cases hp : e.pos with
          | none =>
            rw [hp] at h3
            simp only [Option.map_none]
            have : blk.cells.length = 0 := by rw [hbl, h3.1]; simp
            exact ⟨List.length_eq_zero_iff.1 this, h3.2⟩
          | some p =>
            rw [hp] at h3
            obtain ⟨g1, arr, el, lo, hi, g2, g3, g4, g5, g6⟩ := h3
            simp only [Option.map_some]
            have hcl : blk.cells.length = n * blk0.k := by rw [hbl]; simp; omega
            refine ⟨g1, arr, el, lo, hi, g2, g3, by rw [hcl]; omega, g5, ?_⟩
            have hw := ((g6.drop off).take (n * blk0.k))
            have h7 := mapRL_rel (L := hrem H (qs.map (·.1))) (E := E) (A := ⟨E.w, newsF bl base (fun _ => none), expρ E qs base, E.B, E.O⟩) (res := true)
              (fun v v' rs c h1 h2 h3 => reify_rel hR hsub 60 v v' rs c h1 h2 h3) k8 hw (hreads _)
            rw [List.drop_take, List.drop_drop, List.take_take, Nat.min_eq_left (by omega)] at h7
            rw [hcl]
            exact h7
        · obtain ⟨hx1, b, off, ver, n, blk0, e, rs', k1, k2, k3, k4, k5, k6, k7, k8, k9, k10, k11⟩ := hone x blk h1
          obtain ⟨hx2, b2, off2, ver2, n2, blk2, e2, rs2, q1, q2, q3, q4, q5, q6, q7, q8, q9, q10, q11⟩ := hone x' blk' h2
          have h3' : expρ E qs base x = some e1 := h3
          have h4' : expρ E qs base x' = some e1' := h4
          rw [k11] at h3'
          rw [q11] at h4'
          cases h3'
          cases h4'
          cases hp : e.pos with
          | none => rw [hp] at h5; cases h5
          | some p =>
            cases hp2 : e2.pos with
            | none => rw [hp2] at h6; cases h6
            | some p2 =>
              rw [hp] at h5
              rw [hp2] at h6
              simp only [Option.map_some, Option.some.injEq, Prod.mk.injEq] at h5 h6
              have hbb := hR.inj b b2 blk0 blk2 e e2 d p.2 p2.2 (by rw [hH]; exact k2) (by rw [hH]; exact q2) k3 q3 (by rw [hp, ← h5.1]) (by rw [hp2, ← h6.1])
              subst hbb
              have := nodupB_get hnd _ _ b (hids _ _ _ _ _ k1) (hids _ _ _ _ _ q1)
              omega
      -- values
      have hcell : ∀ x x' cx, (∀ b off ver n, x = V.slB b off ver n → (b, off, ver, n) ∈ qs) → expC (hrem H (qs.map (·.1))) (qs.map (·.1)) base x = some x' → Rel E x cx → Rel ⟨E.w, newsF bl base (fun _ => none), expρ E qs base, E.B, E.O⟩ x' cx := by
        intro x x' cx hq hx hr
        have other : ∀ {y y' : V}, (reify (hrem H (qs.map (·.1))) true 60 y).map (·.1) = some y' → Rel E y cx → Rel ⟨E.w, newsF bl base (fun _ => none), expρ E qs base, E.B, E.O⟩ y' cx := by
          intro y y' hy hr
          obtain ⟨p, hp, rfl⟩ := map_some hy
          exact reify_rel hR hsub 60 y p.1 p.2 cx hp hr (hreads _)
        cases x <;> simp only [expC] at hx <;> try exact other hx hr
        rename_i b off ver n
        obtain ⟨j, hj, rfl⟩ := map_some hx
        obtain ⟨_, hj2⟩ := idxN_get hj
        simp only [Nat.sub_zero] at hj2
        have hmem : (b, off, ver, n) ∈ qs := hq b off ver n rfl
        obtain ⟨j2, hj3⟩ := List.getElem?_of_mem hmem
        have hjj : j = j2 := nodupB_get hnd j j2 b hj2 (hids _ _ _ _ _ hj3)
        subst hjj
        have hjl : j < bl.length := by
          rw [hlen]
          rcases Nat.lt_or_ge j qs.length with q | q
          · exact q
          · simp [List.getElem?_eq_none q] at hj3
        obtain ⟨_, b1, off1, ver1, n1, blk0, e, rs', k1, k2, k3, k4, k5, k6, k7, k8, k9, k10, k11⟩ := hone (base + j) bl[j] (by rw [newsF_get, if_pos ⟨by omega, by omega⟩, Nat.add_sub_cancel_left]; exact List.getElem?_eq_getElem hjl)
        rw [Nat.add_sub_cancel_left, hj3] at k1
        simp only [Option.some.injEq, Prod.mk.injEq] at k1
        obtain ⟨rfl, rfl, rfl, rfl⟩ := k1
        cases hr with
        | slB he hle hpos =>
          rw [k3] at he
          cases he
          obtain ⟨hn, hq⟩ := hpos (k4.1.trans k5)
          refine .slB k11 (Nat.le_refl _) fun _ => ⟨hn, ?_⟩
          rcases hq with ⟨c', o', g1, g2, g3, g4⟩ | ⟨g1, g2, g3, g4⟩
          · exact .inl ⟨c', o' + off, by simp [g1], g2, g3, by simpa using g4⟩
          · exact .inr ⟨by simp [g1], g2, rfl, g4⟩
      have hcells : ∀ (xs xs' : List V) (cxs : List Value), (∀ x ∈ xs, ∀ b off ver n, x = V.slB b off ver n → (b, off, ver, n) ∈ qs) → mapO (expC (hrem H (qs.map (·.1))) (qs.map (·.1)) base) xs = some xs' → RelL E xs cxs →
          RelL ⟨E.w, newsF bl base (fun _ => none), expρ E qs base, E.B, E.O⟩ xs' cxs := by
        intro xs
        induction xs with
        | nil => intro xs' cxs _ h1 h2; cases h1; cases h2; exact .nil
        | cons x xs ih =>
          intro xs' cxs hq h1 h2
          simp only [mapO] at h1
          cases h3 : expC (hrem H (qs.map (·.1))) (qs.map (·.1)) base x with
          | none => rw [h3] at h1; cases h1
          | some y =>
            cases h4 : mapO (expC (hrem H (qs.map (·.1))) (qs.map (·.1)) base) xs with
            | none => rw [h3, h4] at h1; cases h1
            | some ys =>
              rw [h3, h4] at h1
              cases h1
              cases h2 with
              | cons r s => exact .cons (hcell x y _ (hq x (List.mem_cons_self ..)) h3 r) (ih ys _ (fun z hz => hq z (List.mem_cons_of_mem _ hz)) h4 s)
      have htop : ∀ x x' cx, (∀ q ∈ topIds x, q ∈ qs) → expT (hrem H (qs.map (·.1))) (qs.map (·.1)) base x = some x' → Rel E x cx → Rel ⟨E.w, newsF bl base (fun _ => none), expρ E qs base, E.B, E.O⟩ x' cx := by
        intro x x' cx hq hx hr
        unfold expT at hx
        split at hx
        · rename_i cs
          obtain ⟨ys, h1, rfl⟩ := map_some hx
          cases hr with
          | agg s =>
            refine .agg (hcells cs ys _ (fun y hy b off ver n e => hq _ ?_) h1 s)
            simp only [topIds, List.mem_filterMap]
            exact ⟨y, hy, by rw [e]⟩
        · refine hcell x x' cx (fun b off ver n e => hq _ ?_) hx hr
          rw [e]
          simp [topIds]
      refine ⟨expρ E qs base, hRR, ?_, fun x hx => ?_⟩
      · unfold expV at hv
        split at hv
        · rename_i vs
          obtain ⟨ys, h1, rfl⟩ := map_some hv
          cases r with
          | tup s =>
            refine .tup ?_
            have hsub2 : ∀ x ∈ vs, ∀ q ∈ topIds x, q ∈ qs := by
              intro x hx q hq
              rw [← hqs]
              simp only [allIds, List.mem_flatMap]
              exact ⟨x, hx, hq⟩
            have htops : ∀ (xs xs' : List V) (cxs : List Value), (∀ x ∈ xs, ∀ q ∈ topIds x, q ∈ qs) → mapO (expT (hrem H (qs.map (·.1))) (qs.map (·.1)) base) xs = some xs' → RelL E xs cxs →
                RelL ⟨E.w, newsF bl base (fun _ => none), expρ E qs base, E.B, E.O⟩ xs' cxs := by
              intro xs
              induction xs with
              | nil => intro xs' cxs _ h1 h2; cases h1; cases h2; exact .nil
              | cons x xs ih =>
                intro xs' cxs hq h1 h2
                simp only [mapO] at h1
                cases h3 : expT (hrem H (qs.map (·.1))) (qs.map (·.1)) base x with
                | none => rw [h3] at h1; cases h1
                | some y =>
                  cases h4 : mapO (expT (hrem H (qs.map (·.1))) (qs.map (·.1)) base) xs with
                  | none => rw [h3, h4] at h1; cases h1
                  | some ys =>
                    rw [h3, h4] at h1
                    cases h1
                    cases h2 with
                    | cons r s => exact .cons (htop x y _ (hq x (List.mem_cons_self ..)) h3 r) (ih ys _ (fun z hz => hq z (List.mem_cons_of_mem _ hz)) h4 s)
            exact htops vs ys _ hsub2 h1 s
        · rename_i hne
          refine htop v v1 c (fun q hq => ?_) hv r
          rw [← hqs]
          unfold allIds
          split
          · rename_i vs; exact (hne vs rfl).elim
          · exact hq
      · unfold expρ at hx
        split at hx
        · rename_i hle
          cases hj : qs[x - base]? with
          | none => rw [hj] at hx; exact absurd rfl hx
          | some q =>
            have : x - base < qs.length := by
              rcases Nat.lt_or_ge (x - base) qs.length with q' | q'
              · exact q'
              · simp [List.getElem?_eq_none q'] at hj
            rw [hlen]
            omega
        · exact absurd rfl hx
    · cases h
  · cases h

theorem callI_ok {cf : Cfg} (hext : ExtOK P cf) {ih : ExecF} (hih : ExecOK P ih) : CallOK P (callI P cf ih) := by
  intro f base vs rv blks h
  unfold callI at h
  split at h
  · rename_i g hg
    exact hext f g hg base vs rv blks h
  · split at h
    · rename_i fn c hb
      split at h
      · cases h
      · rename_i ex st hex hex2
        split at h
        · rename_i v hv
          intro w O cargs hargs
          have hR0 : HRel ⟨w, fun _ => none, fun _ => none, w.heap.size, O⟩ := ⟨(fun b blk hb => by cases hb), (fun b b' blk blk' e e' c o o' h1 => by cases h1), Nat.le_refl _⟩
          refine (calls_body hb (H := []) (nx := 0) hR0 rfl (fun _ _ => rfl) hargs hih hex2 (fun id q => hex id q) hv).mono fun e w' hpost => ?_
          obtain ⟨cv, E', he, rfl, hl, hH, hR, hrv, hfr⟩ := hpost
          have hB : E'.B = w.heap.size := hl.x.B
          have hO : E'.O = O := hl.O
          split at h
          · obtain ⟨ρ, g1, g2, g3⟩ := exportT_rel (base := base) hR hH h hrv
            rw [hB, hO] at g1 g2
            exact ⟨cv, ρ, he, hl.bel, g1, g2, g3⟩
          · have := exportI_rel hR (fun b blk hb => by rw [hH]; exact hb) h hrv base
            rw [hB, hO] at this
            exact ⟨cv, _, he, hl.bel, this.1, this.2, fun b hb => absurd rfl hb⟩
        · cases h
      · cases h
    · cases h

theorem seq_sound {cf : Cfg} {call : CallF} {sh : ShareF} (hc : CallOK P call) {ih : ExecF} (hih : ExecOK P ih) (hsh : sh = callS P ih) {opsA : Array Oper} {Q : Exit → Act → World → Prop} :
    ∀ {l : List Oper} {st st' : St} {E : Env} {a : Act}, StRel E st.t st.H st.nx a → runSeq P cf call sh opsA.toList l st = some st' → (∀ E' a', StRel E' st'.t st'.H st'.nx a' → Later E E' → Q .normal a' E'.w) → wpList P opsA Q l a E.w
  | [], st, st', E, a, hS, h, hQ => by
    simp only [runSeq, Option.some.injEq] at h
    subst h
    exact hQ E a hS (Later.refl E)
  | o :: r, st, st', E, a, hS, h, hQ => by
    rw [runSeq_cons] at h
    split at h
    · rename_i st1 hst1
      have hsub : Sub st.H E := fun b blk hb => by rw [hS.H]; exact hb
      unfold wpList
      rw [wantedV_eq hS.t]
      unfold stepOp at hst1
      split at hst1
      · rename_i hw
        rw [if_pos hw]
        refine .inl ?_
        have hnext : ∀ cv E1 v, StRel E1 st.t st1.H st1.nx { a with tmps := a.tmps } → Rel E1 v cv → st1.t = putV st.t o.dst v → Later E E1 → wpList P opsA Q r (a.put o.dst cv) E1.w := by
          intro cv E1 v hS1 hv ht1 hl
          refine seq_sound hc hih hsh (st := st1) (E := E1) ⟨hS1.H, ?_, hS1.R, hS1.fresh, ?_⟩ h fun E' a' hS' hl' => hQ E' a' hS' (hl.trans hl')
          · rw [ht1]
            have := put_rel hS1.t o.dst hv
            cases hd : o.dst with
            | none => rw [hd] at this; exact this
            | some d => rw [hd] at this; exact this
          · rw [← hS1.df]; cases o.dst <;> rfl
        split at hst1
        · rename_i f vs hshv
          split at hst1
          · rename_i v H' nx' hcall
            cases hst1
            -- a call in the same memory
            unfold sharedV at hshv
            split at hshv
            · rename_i c hop
              split at hshv
              · cases hshv
              · split at hshv
                · rename_i f' vs' hres
                  split at hshv
                  · cases hshv
                    obtain ⟨cs, hcs, hrun⟩ := resolve_run hS.t hop hres E.w
                    unfold Oper.wp
                    rw [hrun]
                    subst hsh
                    unfold callS at hcall
                    split at hcall
                    · rename_i fn code hb
                      split at hcall
                      · cases hcall
                      · rename_i ex st2 hex hex2
                        split at hcall
                        · rename_i v2 hv2
                          cases hcall
                          refine (calls_body hb hS.R hS.H hS.fresh hcs hih hex2 (fun id q => hex id q) hv2).mono ?_
                          rintro e w' ⟨cv, E1, rfl, rfl, hl, hH, hR, hrv, hfr⟩
                          exact hnext cv E1 v ⟨hH, hS.t.mono hl.x, hR, hfr, hS.df⟩ hrv rfl hl
                        · cases hcall
                      · cases hcall
                    · cases hcall
                  · cases hshv
                · cases hshv
            · cases hshv
          · cases hst1
        · split at hst1
          · rename_i eff heff
            cases hst1
            refine opE_sound hc hS.R hsub hS.t heff (fun b h1 _ => hS.fresh b h1) _ _ fun cv E1 k1 k2 k3 k4 k5 k6 k7 k8 => ?_
            refine hnext cv E1 eff.v ⟨?_, hS.t.mono k4, k5, fun b hb => ?_, hS.df⟩ k6 rfl ⟨k4, k2, k7⟩
            · rw [k3, hS.H]; exact (hget_applyL _ _ _).symm
            · simp only at hb
              exact k8 b (hS.fresh b (by omega)) (by omega)
          · cases hst1
      · rename_i hw
        cases hst1
        rw [if_neg hw]
        refine seq_sound hc hih hsh (st := ⟨putV st.t o.dst (.tup []), st.H, st.nx⟩) (E := E) ⟨hS.H, ?_, hS.R, hS.fresh, ?_⟩ h hQ
        · have := put_rel hS.t o.dst (undef_rel (E := E))
          cases hd : o.dst with
          | none => rw [hd] at this; exact this
          | some d => rw [hd] at this; exact this
        · rw [← hS.df]; cases o.dst <;> rfl
    · cases h

theorem exec_ok (hm : P.follows .mixedOrders = true) {cf : Cfg} (hext : ExtOK P cf) : ∀ n, ExecOK P (exec P cf n)
  | 0 => fun c st ex st' h => by cases h
  | n + 1 => by
    have hih := exec_ok hm hext n
    have hc := callI_ok hext hih
    intro c st ex st' h E a hS Q hQ
    have h' : execStep P cf n (exec P cf n) c st = some (ex, st') := h
    clear h
    unfold execStep at h'
    split at h'
    · cases h'; exact wp_skip (hQ E a hS (Later.refl E))
    · cases h'; exact wp_label (hQ E a hS (Later.refl E))
    · rename_i id ops draw
      unfold execRegion at h'
      split at h'
      · rename_i hd
        subst hd
        split at h'
        · rename_i t H nx hr
          cases h'
          exact draw_sound hm hc (callS_ok hih) hS hr hQ
        · cases h'
      · rename_i hd
        have hd' : draw = false := by simpa using hd
        subst hd'
        split at h'
        · rename_i st1 hr
          cases h'
          exact wp_region_list (seq_sound hc hih rfl hS hr hQ)
        · cases h'
    · rename_i x y
      refine wp_seq ?_
      unfold onward at h'
      split at h'
      · rename_i st1 h1
        refine hih x st _ st1 h1 E a hS _ fun E1 a1 hS1 hl1 => ?_
        exact hih y st1 ex st' h' E1 a1 hS1 Q fun E' a' hS' hl' => hQ E' a' hS' (hl1.trans hl')
      · rename_i hne
        refine hih x st ex st' h' E a hS _ fun E1 a1 hS1 hl1 => ?_
        cases ex with
        | normal => exact absurd h' (hne st')
        | exit id => exact hQ E1 a1 hS1 hl1
        | ret => exact hQ E1 a1 hS1 hl1
    · rename_i c x y
      unfold execCond at h'
      split at h'
      · rename_i b hb
        have r := evalV_rel hS.t hb
        generalize hcx : a.eval c = cx at r
        cases r
        refine wp_cond hcx ?_
        have := hih _ st ex st' h' E a hS Q hQ
        exact this
      · cases h'
    · rename_i id body
      refine wp_block ?_
      unfold execBlock at h'
      split at h'
      · rename_i id' st1 h1
        refine hih body st _ st1 h1 E a hS _ fun E1 a1 hS1 hl1 => ?_
        split at h'
        · rename_i hid
          cases h'
          simp only [Exit.inBlock, hid, if_true]
          exact hQ E1 a1 hS1 hl1
        · rename_i hid
          cases h'
          simp only [Exit.inBlock, hid, if_false]
          exact hQ E1 a1 hS1 hl1
      · rename_i hne
        refine hih body st ex st' h' E a hS _ fun E1 a1 hS1 hl1 => ?_
        cases ex with
        | normal => exact hQ E1 a1 hS1 hl1
        | exit id' => exact absurd h' (hne id' st')
        | ret => exact hQ E1 a1 hS1 hl1
    · rename_i body
      have key : ∀ (k : Nat) (st : St) (E0 : Env) (a : Act), StRel E0 st.t st.H st.nx a → Later E E0 → iterN (exec P cf n body) k st = some (ex, st') → Code.rounds P body Q k a E0.w := by
        intro k
        induction k with
        | zero => intro st E0 a _ _ h; cases h
        | succ k ihk =>
          intro st E0 a hS0 hl0 h
          have h : onward (exec P cf n body st) (iterN (exec P cf n body) k) = some (ex, st') := h
          rw [rounds_succ]
          unfold onward at h
          split at h
          · rename_i st1 h1
            refine hih body st _ st1 h1 E0 a hS0 _ fun E1 a1 hS1 hl1 => ?_
            exact ihk st1 E1 a1 hS1 (hl0.trans hl1) h
          · rename_i hne
            refine hih body st ex st' h E0 a hS0 _ fun E1 a1 hS1 hl1 => ?_
            cases ex with
            | normal => exact absurd h (hne st')
            | exit id => exact hQ E1 a1 hS1 (hl0.trans hl1)
            | ret => exact hQ E1 a1 hS1 (hl0.trans hl1)
      exact wp_loop_rounds n (key n st E a hS (Later.refl E) h')
    · rename_i body
      refine wp_scope_straight ?_
      refine hih body st ex st' h' E a hS _ fun E1 a1 hS1 hl1 => ?_
      cases ex <;> exact hQ E1 a1 hS1 hl1
    · cases h'; exact wp_exit (hQ E a hS (Later.refl E))
    · cases h'; exact wp_ret (hQ E a hS (Later.refl E))
    · cases h'
/-- What the machine of values says of a call on its own is so. -/
theorem vcall_ok (hm : P.follows .mixedOrders = true) {cf : Cfg} (hext : ExtOK P cf) (n : Nat) : CallOK P (vcall P cf n) := callI_ok hext (exec_ok hm hext n)
/-- A law that is true of these values. -/
theorem calls_true (hm : P.follows .mixedOrders = true) {cf : Cfg} (hext : ExtOK P cf) {n : Nat} {f : FuncId} {vs : List V} (h : vcall P cf n f 0 vs = some (.bool true, [])) {w : World} {cs : List Value}
    (hvs : RelL ⟨w, fun _ => none, fun _ => none, w.heap.size, fun _ => True⟩ vs cs) : Calls P f cs.toArray w (fun e w' => e = .returned (.bool true) ∧ Below w.heap.size w w') := by
  refine (vcall_ok hm hext n f 0 vs _ _ h w (fun _ => True) cs hvs).mono fun e w' hp => ?_
  obtain ⟨cv, ρ, he, hb, _, hr, _⟩ := hp
  cases hr
  exact ⟨he, hb⟩
theorem extOK_none {thaw shared : FuncId → Bool} : ExtOK P ⟨thaw, shared, fun _ => none⟩ := fun f g h => by cases h
end
end
end Go.Proofs.Ytnnfcebnmogdmaa.VM
/- The machine of values: calls that have been carried out once. No conditions. -/
namespace Go.Proofs.Ytnnfcebnmogdmaa.VM
set_option linter.unusedVariables false
open Go Go.RowKit
noncomputable section
def memoG (rv : V) : Nat → List V → Option (V × List Blk) := fun _ vs => match vs with
  | [] => some (rv, [])
  | _ => none
def Cfg.memo (cf : Cfg) (f : FuncId) (rv : V) : Cfg := ⟨cf.thaw, cf.shared, fun x => bif Nat.beq x f then some (memoG rv) else cf.ext x⟩
def Cfg.by (cf : Cfg) (f : FuncId) (g : Nat → List V → Option (V × List Blk)) : Cfg := ⟨cf.thaw, cf.shared, fun x => bif Nat.beq x f then some g else cf.ext x⟩
theorem iso_base {P : Program} {f : FuncId} {base : Nat} {vs : List V} {rv : V} (h : IsoSound P f 0 vs rv []) : IsoSound P f base vs rv [] := by
  intro w O cargs hr
  refine (h w O cargs hr).mono fun e w' ⟨cv, ρ, h1, h2, h3, h4, h5⟩ => ?_
  exact ⟨cv, ρ, h1, h2, h3, h4, fun b hb => absurd (h5 b hb).2 (by simp)⟩
theorem by_ok {P : Program} {cf : Cfg} (hext : ExtOK P cf) {f : FuncId} {g : Nat → List V → Option (V × List Blk)} (hg : ∀ base vs rv blks, g base vs = some (rv, blks) → IsoSound P f base vs rv blks) : ExtOK P (cf.by f g) := by
  intro x g' hx base vs rv blks h
  simp only [Cfg.by] at hx
  cases hq : Nat.beq x f with
  | true =>
    rw [hq] at hx
    cases hx
    rw [Nat.eq_of_beq_eq_true hq]
    exact hg base vs rv blks h
  | false =>
    rw [hq] at hx
    exact hext x g' hx base vs rv blks h
theorem memo_ok {P : Program} (hm : P.follows .mixedOrders = true) {cf : Cfg} (hext : ExtOK P cf) {n : Nat} {f : FuncId} {rv : V} (h : vcall P cf n f 0 [] = some (rv, [])) : ExtOK P (cf.memo f rv) := by
  refine by_ok hext fun base vs rv' blks h' => ?_
  unfold memoG at h'
  split at h'
  · cases h'
    exact iso_base (vcall_ok hm hext n f 0 [] rv [] h)
  · cases h'
end
end Go.Proofs.Ytnnfcebnmogdmaa.VM
/- The machine of values: a table of calls that have been carried out. No conditions. -/
namespace Go.Proofs.Ytnnfcebnmogdmaa.VM
set_option linter.unusedVariables false
open Go Go.RowKit
noncomputable section
def look : List (List V × V) → List V → Option V
  | [], _ => none
  | (as, rv) :: r, vs => if allL (veq 60) as vs = true then some rv else look r vs
def tabG (tab : List (List V × V)) : Nat → List V → Option (V × List Blk) := fun _ vs => (look tab vs).map fun rv => (rv, [])
theorem look_mem : ∀ {tab : List (List V × V)} {vs : List V} {rv : V}, look tab vs = some rv → (vs, rv) ∈ tab
  | [], vs, rv, h => by cases h
  | (as, r) :: tab, vs, rv, h => by
    rw [look] at h
    split at h
    · rename_i q
      cases h
      rw [allL_eq (veq_eq 60) q]
      exact List.mem_cons_self ..
    · exact List.mem_cons_of_mem _ (look_mem h)
theorem tab_ok {P : Program} (hm : P.follows .mixedOrders = true) {cf cf' : Cfg} (hext : ExtOK P cf) (hext' : ExtOK P cf') {n : Nat} {f : FuncId} {tab : List (List V × V)} (h : ∀ p ∈ tab, vcall P cf n f 0 p.1 = some (p.2, [])) : ExtOK P (cf'.by f (tabG tab)) := by
  refine by_ok hext' fun base vs rv' blks h' => ?_
  unfold tabG at h'
  obtain ⟨rv, h1, h2⟩ := map_some h'
  cases h2
  exact iso_base (vcall_ok hm hext n f 0 vs _ [] (h _ (look_mem h1)))
end
end Go.Proofs.Ytnnfcebnmogdmaa.VM
