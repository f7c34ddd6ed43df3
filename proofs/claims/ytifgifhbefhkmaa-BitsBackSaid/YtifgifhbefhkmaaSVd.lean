/- Values with labels: how heaps stand to each other. No conditions. -/
import Derived.Test.YtifgifhbefhkmaaSVc
namespace Go.Proofs.Ytifgifhbefhkmaa.VM
set_option linter.unusedSimpArgs false
set_option linter.unusedVariables false
open Go Go.RowKit
noncomputable section

@[simp] theorem SI.val_lit (n : Int) : (SI.lit n).val = n := rfl
@[simp] theorem SI.val_sym (n : Int) : (SI.sym n).val = n := rfl
@[simp] theorem SN.val_lit (n : Nat) : (SN.lit n).val = n := rfl
@[simp] theorem SN.val_sym (n : Nat) : (SN.sym n).val = n := rfl
theorem rdrop_eq {α : Type} (e : SN) (xs : List α) : rdrop e xs = xs.drop e.val := by
  unfold rdrop
  split
  · rfl
  · rfl
theorem req_of {b : SB} {K : Prop} (h : req b K) : b.holds ∧ K := by
  unfold req at h
  split at h
  · exact ⟨rfl, h⟩
  · cases h
  · exact h
theorem bra_of {b : SB} {K1 K2 : Prop} (h : bra b K1 K2) : (b.holds ∧ K1) ∨ (¬ b.holds ∧ K2) := by
  unfold bra at h
  split at h
  · exact .inl ⟨rfl, h⟩
  · exact .inr ⟨by simp [SB.holds], h⟩
  · rename_i p
    by_cases hp : p
    · exact .inl ⟨hp, h.1 hp⟩
    · exact .inr ⟨hp, h.2 hp⟩
theorem SB.not_holds (b : SB) : b.not.holds ↔ ¬ b.holds := by
  cases b with
  | lit b => cases b <;> simp [SB.not, SB.holds]
  | sym p => simp [SB.not, SB.holds]
theorem SI.lt_holds (a b : SI) : (SI.lt a b).holds ↔ a.val < b.val := by
  cases a <;> cases b <;> simp [SI.lt, SB.holds, SI.val]
theorem SI.le_holds (a b : SI) : (SI.le a b).holds ↔ a.val ≤ b.val := by
  cases a <;> cases b <;> simp [SI.le, SB.holds, SI.val]
theorem SI.eq_holds (a b : SI) : (SI.eq a b).holds ↔ a.val = b.val := by
  cases a <;> cases b <;> simp [SI.eq, SB.holds, SI.val]
theorem SN.le_holds (a b : SN) : (SN.le a b).holds ↔ a.val ≤ b.val := by
  cases a <;> cases b <;> simp [SN.le, SB.holds, SN.val]
theorem SN.eq_holds (a b : SN) : (SN.eq a b).holds ↔ a.val = b.val := by
  cases a <;> cases b <;> simp [SN.eq, SB.holds, SN.val]
theorem SN.add_val (a b : SN) : (a.add b).val = a.val + b.val := by
  cases a with
  | lit a => cases b with
    | lit b => rfl
    | sym b => simp only [SN.add, SN.val]; cases h : Nat.beq a 0 <;> simp [SN.val]; have := Nat.eq_of_beq_eq_true h; omega
  | sym a => cases b with
    | lit b => simp only [SN.add, SN.val]; cases h : Nat.beq b 0 <;> simp [SN.val]; have := Nat.eq_of_beq_eq_true h; omega
    | sym b => rfl
theorem SN.sub_val (a b : SN) : (a.sub b).val = a.val - b.val := by
  cases a with
  | lit a => cases b with
    | lit b => rfl
    | sym b => rfl
  | sym a => cases b with
    | lit b => simp only [SN.sub, SN.val]; cases h : Nat.beq b 0 <;> simp [SN.val]; have := Nat.eq_of_beq_eq_true h; omega
    | sym b => rfl
theorem SI.toN_val (a : SI) : a.toN.val = a.val.toNat := by cases a <;> rfl
theorem SN.toI_val (a : SN) : a.toI.val = (a.val : Int) := by cases a <;> rfl
theorem allN_of {m : Nat} {f : Nat → Prop} (h : allN m f) : ∀ j, j < m → f j := by
  induction m with
  | zero => intro j hj; omega
  | succ m ih =>
    intro j hj
    have h' : allN m f ∧ f m := h
    by_cases q : j = m
    · subst q; exact h'.2
    · exact ih h'.1 j (by omega)
theorem caseN_of {i : SN} {m : Nat} {K : Nat → Prop} (h : caseN i m K) : i.val < m ∧ K i.val := by
  unfold caseN at h
  split at h
  · rename_i j
    cases q : Nat.blt j m
    · rw [q] at h; cases h
    · rw [q] at h
      exact ⟨by simpa [SN.val] using q, h⟩
  · rename_i j
    exact ⟨h.1, allN_of h.2 j h.1 rfl⟩

theorem sget_cons (j : Nat) (b : SBlk) (H : SHeap) (i : Nat) : sget ((j, b) :: H) i = if i = j then some b else sget H i := by
  show (bif Nat.beq j i then some b else sget H i) = _
  cases h : Nat.beq j i
  · have : i ≠ j := fun e => by subst e; simp at h
    simp [this]
  · have : i = j := (Nat.eq_of_beq_eq_true h).symm
    simp [this]
theorem sget_sset (H : SHeap) (j : Nat) (x : SBlk) (k : Nat) : sget (sset H j x) k = if k = j then some x else sget H k := by
  induction H with
  | nil => exact sget_cons j x [] k
  | cons p r ih =>
    obtain ⟨i, b⟩ := p
    show sget (bif Nat.beq i j then (i, x) :: r else (i, b) :: sset r j x) k = _
    cases h : Nat.beq i j
    · simp only [cond_false]
      rw [sget_cons, ih, sget_cons]
      have hne : i ≠ j := fun e => by subst e; simp at h
      by_cases h1 : k = i
      · have h2 : k ≠ j := by omega
        rw [if_pos h1, if_neg h2, if_pos h1]
      · rw [if_neg h1, if_neg h1]
    · have he : i = j := Nat.eq_of_beq_eq_true h
      subst he
      simp only [cond_true]
      rw [sget_cons, sget_cons]
      by_cases h1 : k = i <;> simp [h1]

theorem snth_rel {ε : Nat → Option BE} : ∀ {t : List SV} {tv : List V}, RL ε t tv → ∀ i, RV ε (snth t i) (nth tv i)
  | _, _, .nil, i => .any _
  | _, _, .cons r s, 0 => r
  | _, _, .cons r s, i + 1 => snth_rel s i
theorem ssetn_eq : ∀ (t : List SV) (i : Nat) (x : SV), ssetn t i x = t.set i x
  | [], i, x => rfl
  | v :: r, 0, x => rfl
  | v :: r, i + 1, x => by have := ssetn_eq r i x; exact congrArg (v :: ·) this
theorem sdrop_eq : ∀ (n : Nat) (l : List SV), sdrop l n = l.drop n
  | 0, l => rfl
  | n + 1, [] => rfl
  | n + 1, x :: l => by have := sdrop_eq n l; exact this
theorem stake_eq : ∀ (n : Nat) (l : List SV), stake l n = l.take n
  | 0, l => rfl
  | n + 1, [] => rfl
  | n + 1, x :: l => by have := stake_eq n l; exact congrArg (x :: ·) this
theorem slen_eq : ∀ (l : List SV), slen l = l.length
  | [] => rfl
  | x :: l => by have := slen_eq l; exact congrArg Nat.succ this
theorem ssetCells_rel {ε : Nat → Option BE} : ∀ {vs : List SV} {cvs : List V} {l : List SV} {cl : List V} (i : Nat), RL ε vs cvs → RL ε l cl → RL ε (ssetCells l i vs) (setCells cl i cvs)
  | _, _, _, _, _, .nil, h => h
  | _, _, _, _, i, .cons r s, h => by
    rw [ssetCells, setCells, ssetn_eq]
    exact ssetCells_rel (i + 1) s (h.set i r)

mutual
theorem toS_rel {ε : Nat → Option BE} : ∀ (n : Nat) (v : V), RV ε (toS n v) v
  | 0, v => .any v
  | n + 1, v => by
    have ihl : ∀ l : List V, RL ε (l.map (toS n)) l := fun l => toSL_rel n l
    cases v <;> simp only [toS]
    case int k i => exact .int _ _ _ rfl
    case bool b => exact .bool _ _ Iff.rfl
    case str s => exact .str s
    case agg cs => exact .agg (ihl cs)
    case tup cs => exact .tup (ihl cs)
    case iface t v => exact .iface t (toS_rel n v)
    case nilIface => exact .nilIface
    case func fn f c => exact .func fn (ihl f) (ihl c)
    case nilFunc => exact .nilFunc
    case nilPtr => exact .nilPtr
    case nilSl => exact .nilSl
    all_goals exact .any _
theorem toSL_rel {ε : Nat → Option BE} : ∀ (n : Nat) (l : List V), RL ε (l.map (toS n)) l
  | n, [] => .nil
  | n, v :: l => .cons (toS_rel n v) (toSL_rel n l)
end
theorem mapS_eq {ε : Nat → Option BE} {f : SV → Option V} (hf : ∀ s v v', f s = some v → RV ε s v' → v' = v) : ∀ {l : List SV} {r r' : List V}, mapS f l = some r → RL ε l r' → r' = r
  | [], r, _, h, .nil => by cases h; rfl
  | a :: l, r, _, h, .cons q s => by
    simp only [mapS] at h
    cases h1 : f a with
    | none => rw [h1] at h; cases h
    | some b =>
      cases h2 : mapS f l with
      | none => rw [h1, h2] at h; cases h
      | some bs =>
        rw [h1, h2] at h
        cases h
        rw [hf a b _ h1 q, mapS_eq hf h2 s]
theorem toV_eq {ε : Nat → Option BE} : ∀ (n : Nat) {s : SV} {v v' : V}, toV n s = some v → RV ε s v' → v' = v
  | 0, s, v, v', h, _ => by cases h
  | n + 1, s, v, v', h, r => by
    have ih := fun s v v' => toV_eq (ε := ε) n (s := s) (v := v) (v' := v')
    cases r <;> simp only [toV] at h
    case any => cases h
    case int k i m hm =>
      cases i with
      | lit i => cases h; rw [hm]; rfl
      | sym i => cases h
    case bool b c hb =>
      cases b with
      | lit b =>
        cases h
        simp only [SB.holds] at hb
        cases c <;> cases b <;> simp_all
      | sym p => cases h
    case agg s =>
      obtain ⟨r, h1, rfl⟩ := map_some h
      rw [mapS_eq ih h1 s]
    case iface t s =>
      obtain ⟨r, h1, rfl⟩ := map_some h
      rw [ih _ _ _ h1 s]
    all_goals first | (cases h; rfl) | cases h

theorem evalS_rel {ε : Nat → Option BE} {t : List SV} {tv : List V} (ht : RL ε t tv) {x : Operand} {v : SV} (h : evalS t x = some v) : ∃ v', evalV tv x = some v' ∧ RV ε v v' := by
  cases x with
  | tmp i => cases h; exact ⟨_, rfl, snth_rel ht i⟩
  | const c =>
    simp only [evalS] at h
    obtain ⟨w, h1, rfl⟩ := mapU_some h
    exact ⟨w, h1, toS_rel 9 w⟩
  | func f => cases h; exact ⟨_, rfl, .func _ .nil .nil⟩
  | global g => cases h
theorem evalSL_rel {ε : Nat → Option BE} {t : List SV} {tv : List V} (ht : RL ε t tv) : ∀ {xs : List Operand} {vs : List SV}, evalSL t xs = some vs → ∃ vs', evalL tv xs = some vs' ∧ RL ε vs vs'
  | [], vs, h => by cases h; exact ⟨[], rfl, .nil⟩
  | x :: r, vs, h => by
    simp only [evalSL] at h
    cases h1 : evalS t x with
    | none => rw [h1] at h; cases h
    | some v =>
      cases h2 : evalSL t r with
      | none => rw [h1, h2] at h; cases h
      | some ws =>
        rw [h1, h2] at h
        cases h
        obtain ⟨v', g1, g2⟩ := evalS_rel ht h1
        obtain ⟨ws', g3, g4⟩ := evalSL_rel ht h2
        exact ⟨v' :: ws', by simp [evalL, g1, g3], .cons g2 g4⟩
inductive SPRel (ε : Nat → Option BE) : List (Nat × SV) → List (Nat × V) → Prop
  | nil : SPRel ε [] []
  | cons {i : Nat} {v : SV} {c : V} {vs : List (Nat × SV)} {cs : List (Nat × V)} : RV ε v c → SPRel ε vs cs → SPRel ε ((i, v) :: vs) ((i, c) :: cs)
theorem evalSP_rel {ε : Nat → Option BE} {t : List SV} {tv : List V} (ht : RL ε t tv) : ∀ {xs : List (Nat × Operand)} {vs : List (Nat × SV)}, evalSP t xs = some vs → ∃ vs', evalParts tv xs = some vs' ∧ SPRel ε vs vs'
  | [], vs, h => by cases h; exact ⟨[], rfl, .nil⟩
  | (i, x) :: r, vs, h => by
    simp only [evalSP] at h
    cases h1 : evalS t x with
    | none => rw [h1] at h; cases h
    | some v =>
      cases h2 : evalSP t r with
      | none => rw [h1, h2] at h; cases h
      | some ws =>
        rw [h1, h2] at h
        cases h
        obtain ⟨v', g1, g2⟩ := evalS_rel ht h1
        obtain ⟨ws', g3, g4⟩ := evalSP_rel ht h2
        exact ⟨(i, v') :: ws', by simp [evalParts, g1, g3], .cons g2 g4⟩

theorem one_rel {ε : Nat → Option BE} {s : SV} {v : V} (r : RV ε s v) (h : s.one = true) : v.one = true ∧ s.cells = [s] ∧ v.cells = [v] := by
  have hc : s.cells = [s] := by cases s <;> first | rfl | (simp only [SV.one] at h; cases h)
  have hv : v.one = true := by cases r <;> first | rfl | assumption | (simp only [SV.one] at h; cases h)
  exact ⟨hv, hc, by cases v <;> first | rfl | (simp only [V.one] at hv; cases hv)⟩
theorem sones_rel {ε : Nat → Option BE} : ∀ {l : List SV} {l' : List V}, RL ε l l' → sones l = true → l'.all V.one = true
  | _, _, .nil, _ => rfl
  | v :: l, _, .cons r s, h => by
    have h' : (bif v.one then sones l else false) = true := h
    cases q : v.one with
    | false => rw [q] at h'; cases h'
    | true =>
      rw [q] at h'
      simp only [List.all_cons, Bool.and_eq_true]
      exact ⟨(one_rel r q).1, sones_rel s h'⟩
theorem cellsV_rel {ε : Nat → Option BE} {s : SV} {v : V} (r : RV ε s v) (h : sones s.cells = true) : RL ε s.cells v.cells := by
  cases s with
  | agg cs => cases r with
    | agg q => exact q
  | any => simp [SV.cells, sones, SV.one] at h
  | tup cs => simp [SV.cells, sones, SV.one] at h
  | _ =>
    have := one_rel r rfl
    rw [this.2.1, this.2.2]
    exact .cons r .nil

/-! Blocks. -/
structure RH (ε : Nat → Option BE) (H : SHeap) (L : Heap) : Prop where
  at_ : ∀ b blk, sget H b = some blk → ∃ e, ε b = some e ∧ e.sv = blk.ver ∧ COK blk.cells ∧
    ((blk.lz = true ∧ e.act = none ∧ blk.cells.list = []) ∨ ∃ b' v' ablk, e.act = some (b', v') ∧ hget L b' = some ablk ∧ ablk.ver = v' ∧ ablk.k = blk.k ∧ (blk.fz = false → ablk.fz = false) ∧ RL ε blk.cells.list ablk.cells)
  inj : ∀ b1 b2 blk1 blk2 e1 e2 b' v1 v2, sget H b1 = some blk1 → sget H b2 = some blk2 → ε b1 = some e1 → ε b2 = some e2 → e1.act = some (b', v1) → e2.act = some (b', v2) → b1 = b2
theorem RH.upd {ε : Nat → Option BE} {H H' : SHeap} {L L' : Heap} (h : RH ε H L) {b b' : Nat} {nblk : SBlk} {ablk : Blk}
    (hs : ∀ j, sget H' j = if j = b then some nblk else sget H j) (hl : ∀ j, hget L' j = if j = b' then some ablk else hget L j)
    (hex : EX ε (updF ε b ⟨nblk.ver, some (b', ablk.ver)⟩))
    (hown : (∃ blk e0 v0, sget H b = some blk ∧ ε b = some e0 ∧ e0.act = some (b', v0)) ∨ hget L b' = none)
    (hk : ablk.k = nblk.k) (hfz : nblk.fz = false → ablk.fz = false) (hc : COK nblk.cells) (hr : RL (updF ε b ⟨nblk.ver, some (b', ablk.ver)⟩) nblk.cells.list ablk.cells) :
    RH (updF ε b ⟨nblk.ver, some (b', ablk.ver)⟩) H' L' := by
  have other : ∀ b1 blk1 e1 v1, b1 ≠ b → sget H b1 = some blk1 → ε b1 = some e1 → e1.act ≠ some (b', v1) := by
    intro b1 blk1 e1 v1 hne h1 h2 h3
    rcases hown with ⟨blk, e0, v0, g1, g2, g3⟩ | hn
    · exact hne (h.inj b1 b blk1 blk e1 e0 b' v1 v0 h1 g1 h2 g2 h3 g3)
    · obtain ⟨e, q1, _, _, q⟩ := h.at_ b1 blk1 h1
      rw [h2] at q1; cases q1
      rcases q with ⟨_, q, _⟩ | ⟨b2, v2, a2, q1, q2, _⟩
      · rw [h3] at q; cases q
      · rw [h3] at q1; cases q1
        rw [hn] at q2; cases q2
  refine ⟨fun b1 blk1 h1 => ?_, fun b1 b2 blk1 blk2 e1 e2 c v1 v2 h1 h2 h3 h4 h5 h6 => ?_⟩
  · rw [hs] at h1
    by_cases hb : b1 = b
    · rw [if_pos hb] at h1
      cases h1
      exact ⟨⟨nblk.ver, some (b', ablk.ver)⟩, by simp [updF, hb], rfl, hc, .inr ⟨b', ablk.ver, ablk, rfl, by rw [hl, if_pos rfl], rfl, hk, hfz, hr⟩⟩
    · rw [if_neg hb] at h1
      obtain ⟨e, q1, q2, q3, q4⟩ := h.at_ b1 blk1 h1
      refine ⟨e, by simp [updF, hb, q1], q2, q3, q4.imp id ?_⟩
      rintro ⟨b2, v2, a2, g1, g2, g3, g4, g5, g6⟩
      refine ⟨b2, v2, a2, g1, ?_, g3, g4, g5, g6.mono hex⟩
      rw [hl, if_neg (fun q => other b1 blk1 e v2 hb h1 q1 (by rw [g1, q]))]
      exact g2
  · rw [hs] at h1 h2
    simp only [updF] at h3 h4
    by_cases hb1 : b1 = b <;> by_cases hb2 : b2 = b
    · rw [hb1, hb2]
    · rw [if_pos hb1] at h3
      rw [if_neg hb2] at h2 h4
      cases h3
      cases h5
      exact absurd h6 (other b2 blk2 e2 v2 hb2 h2 h4)
    · rw [if_pos hb2] at h4
      rw [if_neg hb1] at h1 h3
      cases h4
      cases h6
      exact absurd h5 (other b1 blk1 e1 v1 hb1 h1 h3)
    · rw [if_neg hb1] at h1 h3
      rw [if_neg hb2] at h2 h4
      exact h.inj b1 b2 blk1 blk2 e1 e2 c v1 v2 h1 h2 h3 h4 h5 h6

/-- What an operation with labels tells of one that is carried out. -/
structure ER (ε ε' : Nat → Option BE) (H : SHeap) (L : Heap) (base vbase : Nat) (se : SEff) (e : Eff) : Prop where
  ex : EX ε ε'
  v : RV ε' se.v e.v
  heap : ∀ H' L', RH ε H' L' → (∀ p ∈ se.wr, sget H' p.1 = sget H p.1) → (∀ b, vbase ≤ b → hget L' b = none) → (∀ b, base ≤ b → ε b = none) → RH ε' (sapply H' base se) (applyL L' vbase e)
  fresh : ∀ b, ε b = none → ¬ (base ≤ b ∧ b < base + se.new.length) → ε' b = none
  wrIn : ∀ p ∈ e.wr, (hget L p.1).isSome = true
  same : se.wr = [] → ∀ b e, ε b = some e → ε' b = some e
  wrE : se.wr = [] → e.wr = []
  newE : se.wr = [] → se.new.length = e.new.length
  act : ∀ sb eb b' v0, ε sb = some eb → eb.act = some (b', v0) → ∃ eb' v1, ε' sb = some eb' ∧ eb'.act = some (b', v1)
  wrAt : ∀ p ∈ e.wr, ∃ q ∈ se.wr, ∃ blk eb v0, sget H q.1 = some blk ∧ ε q.1 = some eb ∧ eb.act = some (p.1, v0)
theorem ER.pure {ε : Nat → Option BE} {H : SHeap} {L : Heap} {base vbase : Nat} {s : SV} {v : V} (h : RV ε s v) : ER ε ε H L base vbase (SEff.pure s) (Eff.pure v) :=
  ⟨EX.refl ε, h, fun H' L' hr _ _ _ => hr, fun b hb _ => hb, fun p hp => (by cases hp), fun _ b e he => he, fun _ => rfl, fun _ => rfl, fun sb eb b' v0 h k => ⟨eb, v0, h, k⟩, fun p hp => (by cases hp)⟩
theorem ER.new1 {ε : Nat → Option BE} {H : SHeap} {L : Heap} {base vbase : Nat} {s : SV} {v : V} {c : SC} {cells : List V} {k : Nat} {fz lz : Bool} (hf : ε base = none) (hc : COK c) (hr : RL ε c.list cells)
    (hv : RV (updF ε base ⟨0, some (vbase, 0)⟩) s v) : ER ε (updF ε base ⟨0, some (vbase, 0)⟩) H L base vbase ⟨s, [], [⟨c, k, 0, fz, lz⟩]⟩ ⟨v, [], [⟨cells, k, 0, false⟩]⟩ := by
  have hex : EX ε (updF ε base ⟨0, some (vbase, 0)⟩) := fun b e he => ⟨e, by
    unfold updF
    rw [if_neg (fun q => by rw [q, hf] at he; cases he)]
    exact he, .inl rfl⟩
  refine ⟨hex, hv, fun H' L' h _ hl hs => ?_, fun b hb hn => ?_, fun p hp => (by cases hp), fun _ b e he => ?_, fun _ => rfl, fun _ => rfl, fun sb eb b' v0 h k => ⟨eb, v0, by unfold updF; rw [if_neg (fun q => by rw [q, hf] at h; cases h)]; exact h, k⟩, fun p hp => (by cases hp)⟩
  · refine RH.upd (nblk := ⟨c, k, 0, fz, lz⟩) (ablk := ⟨cells, k, 0, false⟩) h (fun j => sget_cons _ _ _ _) (fun j => ?_) hex (.inr (hl _ (Nat.le_refl _))) rfl (fun _ => rfl) hc (hr.mono hex)
    show hget ((vbase, _) :: L') j = _
    rw [hget_cons]
    rfl
  · unfold updF
    simp only [List.length_singleton] at hn
    rw [if_neg (by omega)]
    exact hb
  · unfold updF
    rw [if_neg (fun q => by rw [q, hf] at he; cases he)]
    exact he
theorem updF_self' {α : Type} {ρ : Nat → Option α} {b : Nat} {e : α} (h : ρ b = some e) : updF ρ b e = ρ := updF_self h
/-- One block is written. -/
theorem ER.wr1 {ε : Nat → Option BE} {H : SHeap} {L : Heap} {base vbase : Nat} {s : SV} {v : V} {b b' : Nat} {blk : SBlk} {ablk : Blk} {e0 : BE} {nblk : SBlk} {nab : Blk} {v0 : Nat}
    (hb : sget H b = some blk) (he : ε b = some e0) (ha : e0.act = some (b', v0)) (hab : hget L b' = some ablk)
    (hver : (nblk.ver = e0.sv ∧ nab.ver = v0) ∨ e0.sv < nblk.ver) (hk : nab.k = nblk.k) (hfz : nblk.fz = false → nab.fz = false) (hc : COK nblk.cells)
    (hr : RL ε nblk.cells.list nab.cells) (hv : RV (updF ε b ⟨nblk.ver, some (b', nab.ver)⟩) s v) :
    ER ε (updF ε b ⟨nblk.ver, some (b', nab.ver)⟩) H L base vbase ⟨s, [(b, nblk)], []⟩ ⟨v, [(b', nab)], []⟩ := by
  have hex : EX ε (updF ε b ⟨nblk.ver, some (b', nab.ver)⟩) := by
    intro j e hj
    unfold updF
    by_cases q : j = b
    · subst q
      rw [he] at hj
      cases hj
      refine ⟨_, if_pos rfl, ?_⟩
      rcases hver with ⟨h1, h2⟩ | h1
      · left
        cases e0 with
        | mk sv act =>
          simp only at ha h1
          rw [h1, h2, ha]
      · exact .inr h1
    · exact ⟨e, by rw [if_neg q]; exact hj, .inl rfl⟩
  refine ⟨hex, hv, fun H' L' h hw _ _ => ?_, fun j hj _ => ?_, fun p hp => ?_, fun q => (by cases q), fun q => (by cases q), fun q => (by cases q), fun sb eb b1 v1 h k => ?_, fun p hp => ⟨(b, nblk), List.mem_singleton.2 rfl, blk, e0, v0, hb, he, by simp only [List.mem_singleton] at hp; subst hp; exact ha⟩⟩
  · have hb' : sget H' b = some blk := by rw [hw (b, nblk) (List.mem_singleton.2 rfl)]; exact hb
    refine RH.upd (nblk := nblk) (ablk := nab) h (fun j => sget_sset _ _ _ _) (fun j => ?_) hex (.inl ⟨blk, e0, v0, hb', he, ha⟩) hk hfz hc (hr.mono hex)
    show hget (hset L' b' nab) j = _
    rw [hget_hset]
    rfl
  · unfold updF
    rw [if_neg (fun q => by rw [q, he] at hj; cases hj)]
    exact hj
  · simp only [List.mem_singleton] at hp
    subst hp
    rw [hab]; rfl
  · by_cases q : sb = b
    · subst q
      rw [he] at h; cases h
      rw [ha] at k; cases k
      exact ⟨_, nab.ver, by unfold updF; exact if_pos rfl, rfl⟩
    · exact ⟨eb, v1, by unfold updF; rw [if_neg q]; exact h, k⟩
/-- A nil slice that has a label grows. -/
theorem ER.lz1 {ε : Nat → Option BE} {H : SHeap} {L : Heap} {base vbase : Nat} {s : SV} {v : V} {b : Nat} {blk : SBlk} {e0 : BE} {nblk : SBlk} {nab : Blk}
    (hb : sget H b = some blk) (he : ε b = some e0) (hna : e0.act = none) (hver : e0.sv < nblk.ver) (hk : nab.k = nblk.k) (hfz : nblk.fz = false → nab.fz = false) (hc : COK nblk.cells)
    (hr : RL ε nblk.cells.list nab.cells) (hv : RV (updF ε b ⟨nblk.ver, some (vbase, nab.ver)⟩) s v) :
    ER ε (updF ε b ⟨nblk.ver, some (vbase, nab.ver)⟩) H L base vbase ⟨s, [(b, nblk)], []⟩ ⟨v, [], [nab]⟩ := by
  have hex : EX ε (updF ε b ⟨nblk.ver, some (vbase, nab.ver)⟩) := by
    intro j e hj
    unfold updF
    by_cases q : j = b
    · subst q
      rw [he] at hj
      cases hj
      exact ⟨_, if_pos rfl, .inr hver⟩
    · exact ⟨e, by rw [if_neg q]; exact hj, .inl rfl⟩
  refine ⟨hex, hv, fun H' L' h hw hl _ => ?_, fun j hj _ => ?_, fun p hp => (by cases hp), fun q => (by cases q), fun q => (by cases q), fun q => (by cases q), fun sb eb b1 v1 h k => ⟨eb, v1, by unfold updF; rw [if_neg (fun q => by rw [q, he] at h; cases h; rw [hna] at k; cases k)]; exact h, k⟩, fun p hp => (by cases hp)⟩
  · refine RH.upd (nblk := nblk) (ablk := nab) h (fun j => sget_sset _ _ _ _) (fun j => ?_) hex (.inr (hl _ (Nat.le_refl _))) hk hfz hc (hr.mono hex)
    show hget ((vbase, _) :: L') j = _
    rw [hget_cons]
    rfl
  · unfold updF
    rw [if_neg (fun q => by rw [q, he] at hj; cases hj)]
    exact hj
end
end Go.Proofs.Ytifgifhbefhkmaa.VM
