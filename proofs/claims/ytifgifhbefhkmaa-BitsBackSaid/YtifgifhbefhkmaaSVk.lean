/- Values with labels: calls, and all operations. No conditions. -/
import Derived.Test.YtifgifhbefhkmaaSVj
namespace Go.Proofs.Ytifgifhbefhkmaa.VM
set_option linter.unusedSimpArgs false
set_option linter.unusedVariables false
open Go Go.RowKit
noncomputable section
section
variable {P : Program} {ε : Nat → Option BE} {H : SHeap} {L : Heap} {t : List SV} {tv : List V} {base vbase : Nat} {cx : SCfg}

theorem aliasL_of {f : SV → Bool} {g : V → Bool} : ∀ {l : List SV} {vs : List V}, RL ε l vs → (∀ s ∈ l, ∀ v, RV ε s v → f s = false → g v = false) → saliasL f l = false → aliasL g vs = false
  | _, _, .nil, _, _ => rfl
  | s :: l, _, .cons r q, h, ha => by
    simp only [saliasL, Bool.or_eq_false_iff] at ha
    simp only [aliasL, Bool.or_eq_false_iff]
    exact ⟨h s (List.mem_cons_self ..) _ r ha.1, aliasL_of q (fun s hs => h s (List.mem_cons_of_mem _ hs)) ha.2⟩
theorem scalar_alias {s : SV} {v : V} (r : RV ε s v) (h : scalar s) (m : Nat) : alias (m + 1) v = false := by
  cases r <;> simp only [scalar] at h <;> rfl
theorem flat_alias {α : Type} {e : α → List SV} {k d : Nat} {xs : List α} (hc : COK (.rows e k d true xs)) {vs : List V} (hr : RL ε (SC.rows e k d true xs).list vs) (m : Nat) : aliasL (alias (m + 1)) vs = false := by
  have hall : ∀ s ∈ (SC.rows e k d true xs).list, scalar s := by
    intro s hs
    obtain ⟨x, _, hx⟩ := List.mem_flatMap.1 hs
    exact (hc x).2.2 rfl s hx
  revert hall hr
  generalize (SC.rows e k d true xs).list = l
  intro hr hall
  clear hc
  induction l generalizing vs with
  | nil => cases hr; rfl
  | cons s l ih =>
    cases hr with
    | cons r q =>
      simp only [aliasL, Bool.or_eq_false_iff]
      exact ⟨scalar_alias r (hall s (List.mem_cons_self ..)) m, ih q fun w hw => hall w (List.mem_cons_of_mem _ hw)⟩
theorem salias_of (hcur : ∀ b e, ε b = some e → e.sv = 0 ∧ ∃ p, e.act = some p) : ∀ (n m : Nat) (s : SV) (v : V), n ≤ m → RV ε s v → salias n s = false → alias (m + 1) v = false
  | 0, _, _, _, _, _, h => by cases h
  | n + 1, 0, _, _, hle, _, _ => by omega
  | n + 1, m + 1, s, v, hle, r, h => by
    have ih := fun s v => salias_of hcur n m s v (by omega)
    have ihl : ∀ {l : List SV} {vs : List V}, RL ε l vs → saliasL (salias n) l = false → aliasL (alias (m + 1)) vs = false := fun hl ha => aliasL_of hl (fun s _ v hv hs => ih s v hv hs) ha
    cases r <;> simp only [salias] at h
    case any => cases h
    case int => rfl
    case bool => rfl
    case str => rfl
    case strS => rfl
    case nilIface => rfl
    case nilFunc => rfl
    case nilPtr => rfl
    case nilSl => rfl
    case agg q => exact ihl q h
    case tup q => exact ihl q h
    case iface q => exact ih _ _ q h
    case func q1 q2 =>
      simp only [Bool.or_eq_false_iff] at h
      simp only [alias, Bool.or_eq_false_iff]
      exact ⟨ihl q1 h.1, ihl q2 h.2⟩
    case ptrI fr fr' ex cs cs' rest q1 q2 q3 q4 =>
      simp only [Bool.or_eq_false_iff, Bool.not_eq_false'] at h
      obtain ⟨⟨h1, h2⟩, h3⟩ := h
      have hr := q4 h2
      subst hr
      rw [List.append_nil]
      simp only [alias, Bool.or_eq_false_iff, Bool.not_eq_false']
      refine ⟨q1 h1, ?_⟩
      cases cs with
      | lit l => exact ihl (show RL ε l cs' from q2) h3
      | rows e k d fl xs =>
        simp only [Bool.not_eq_false'] at h3
        subst h3
        exact flat_alias q3 q2 m
    case ptrB he hv hp ho =>
      obtain ⟨h1, p, h2⟩ := hcur _ _ he
      obtain ⟨b', v', _, rfl⟩ := hp (by omega)
      rfl
    case slI fr fr' tt tt' cs cs' n' m' q1 q2 q3 q4 q5 =>
      simp only [alias]
      split
      · rfl
      · rename_i hne
        simp only [Bool.or_eq_false_iff, Bool.not_eq_false']
        cases cs with
        | lit l =>
          have hh : (!fr || saliasL (salias n) l) = false := by
            cases l with
            | nil =>
              cases n' with
              | lit k =>
                cases k with
                | zero => cases q4; subst q3; simp at hne
                | succ k => exact h
              | sym k => exact h
            | cons x l => exact h
          simp only [Bool.or_eq_false_iff, Bool.not_eq_false'] at hh
          exact ⟨q1 hh.1, ihl (show RL ε l cs' from q4) hh.2⟩
        | rows e k d fl xs =>
          simp only [Bool.or_eq_false_iff, Bool.not_eq_false'] at h
          obtain ⟨h1, h2⟩ := h
          subst h2
          exact ⟨q1 h1, flat_alias q5 q4 m⟩
    case slIn => rfl
    case slI0 => rfl
    case slB he hv hp ho =>
      obtain ⟨h1, p, h2⟩ := hcur _ _ he
      rcases hp (by omega) with ⟨b', v', _, rfl⟩ | ⟨q, _⟩
      · rfl
      · rw [h2] at q; cases q

/-! Blocks that come back. -/
def newsE (ε : Nat → Option BE) (base vbase n : Nat) : Nat → Option BE := fun b => if base ≤ b ∧ b < base + n then some ⟨0, some (vbase + (b - base), 0)⟩ else ε b
inductive NewR (ε : Nat → Option BE) : List SBlk → List Blk → Prop
  | nil : NewR ε [] []
  | cons {s : SBlk} {b : Blk} {ss : List SBlk} {bs : List Blk} : COK s.cells → s.ver = 0 → b.ver = 0 → b.k = s.k → (s.fz = false → b.fz = false) → s.lz = false → RL ε s.cells.list b.cells → NewR ε ss bs → NewR ε (s :: ss) (b :: bs)
theorem NewR.length {ss : List SBlk} {bs : List Blk} (h : NewR ε ss bs) : ss.length = bs.length := by
  induction h with
  | nil => rfl
  | cons _ _ _ _ _ _ _ _ ih => simp [ih]
theorem NewR.mono {ε' : Nat → Option BE} (hx : EX ε ε') {ss : List SBlk} {bs : List Blk} (h : NewR ε ss bs) : NewR ε' ss bs := by
  induction h with
  | nil => exact .nil
  | cons h1 h2 h3 h4 h5 h6 h7 _ ih => exact .cons h1 h2 h3 h4 h5 h6 (h7.mono hx) ih
theorem NewR.get {ss : List SBlk} {bs : List Blk} (h : NewR ε ss bs) : ∀ (i : Nat) (s : SBlk), ss[i]? = some s → ∃ b, bs[i]? = some b ∧ COK s.cells ∧ s.ver = 0 ∧ b.ver = 0 ∧ b.k = s.k ∧ (s.fz = false → b.fz = false) ∧ s.lz = false ∧ RL ε s.cells.list b.cells := by
  induction h with
  | nil => intro i s hs; simp at hs
  | cons h1 h2 h3 h4 h5 h6 h7 _ ih =>
    intro i s hs
    cases i with
    | zero => simp at hs; subst hs; exact ⟨_, rfl, h1, h2, h3, h4, h5, h6, h7⟩
    | succ i => simp at hs; obtain ⟨b, g⟩ := ih i s hs; exact ⟨b, by simpa using g.1, g.2⟩
theorem sget_snews : ∀ (l : List SBlk) (j : Nat) (H : SHeap) (i : Nat), sget (snews l j H) i = if j ≤ i ∧ i < j + l.length then l[i - j]? else sget H i
  | [], j, H, i => by simp [snews]; intro h1 h2; omega
  | b :: r, j, H, i => by
    rw [snews, sget_snews r, sget_cons]
    simp only [List.length_cons]
    by_cases h1 : j + 1 ≤ i ∧ i < j + 1 + r.length
    · rw [if_pos h1, if_pos (by omega), show i - j = (i - (j + 1)) + 1 by omega, List.getElem?_cons_succ]
    · rw [if_neg h1]
      by_cases h2 : i = j
      · subst h2
        rw [if_pos rfl, if_pos (by omega)]
        simp
      · rw [if_neg h2, if_neg (by omega)]
theorem sget_ssets_fz {H : SHeap} : ∀ {rs : List Nat} {wr : List (Nat × SBlk)}, sfreeze H rs = some wr → ∀ (H' : SHeap), (∀ p ∈ wr, sget H' p.1 = sget H p.1) → ∀ j, sget (ssets wr H') j = if j ∈ rs then (sget H j).map fun b => ⟨b.cells, b.k, b.ver, true, b.lz⟩ else sget H' j
  | [], wr, h, H', _, j => by cases h; simp [ssets]
  | b :: rs, wr, h, H', hw, j => by
    simp only [sfreeze] at h
    cases h1 : sget H b with
    | none => rw [h1] at h; cases h
    | some blk =>
      cases h2 : sfreeze H rs with
      | none => rw [h1, h2] at h; cases h
      | some l =>
        rw [h1, h2] at h
        cases h
        rw [ssets]
        -- the rest, over a heap one of whose blocks is told anew
        have hgen : ∀ {rs : List Nat} {wr : List (Nat × SBlk)}, sfreeze H rs = some wr → ∀ (G : SHeap) (j : Nat), sget (ssets wr G) j = if j ∈ rs then (sget H j).map fun b => ⟨b.cells, b.k, b.ver, true, b.lz⟩ else sget G j := by
          intro rs
          induction rs with
          | nil => intro wr h G j; cases h; simp [ssets]
          | cons c rs ih =>
            intro wr h G j
            simp only [sfreeze] at h
            cases g1 : sget H c with
            | none => rw [g1] at h; cases h
            | some cb =>
              cases g2 : sfreeze H rs with
              | none => rw [g1, g2] at h; cases h
              | some m =>
                rw [g1, g2] at h
                cases h
                rw [ssets, ih g2, sget_sset]
                by_cases q1 : j ∈ rs
                · rw [if_pos q1, if_pos (List.mem_cons_of_mem _ q1)]
                · rw [if_neg q1]
                  by_cases q2 : j = c
                  · subst q2
                    rw [if_pos rfl, if_pos (List.mem_cons_self ..), g1]
                    rfl
                  · rw [if_neg q2, if_neg (by simp [q1, q2])]
        rw [hgen h2, sget_sset]
        by_cases q1 : j ∈ rs
        · rw [if_pos q1, if_pos (List.mem_cons_of_mem _ q1)]
        · rw [if_neg q1]
          by_cases q2 : j = b
          · subst q2
            rw [if_pos rfl, if_pos (List.mem_cons_self ..), h1]
            rfl
          · rw [if_neg q2, if_neg (by simp [q1, q2])]
theorem freezeL_get : ∀ {rs : List Nat}, (∀ b ∈ rs, (hget L b).isSome = true) → ∃ wr, freezeL L rs = some wr ∧ (∀ p ∈ wr, (hget L p.1).isSome = true ∧ p.1 ∈ rs) ∧ ∀ (G : Heap) j, hget (hsets wr G) j = if j ∈ rs then (hget L j).map fun b => { b with fz := true } else hget G j
  | [], _ => ⟨[], rfl, fun p hp => (List.not_mem_nil hp).elim, fun G j => by rw [hsets, if_neg List.not_mem_nil]⟩
  | b :: rs, h => by
    obtain ⟨wr, h1, h2, h3⟩ := freezeL_get fun x hx => h x (List.mem_cons_of_mem _ hx)
    obtain ⟨blk, hb⟩ := Option.isSome_iff_exists.1 (h b (List.mem_cons_self ..))
    refine ⟨(b, { blk with fz := true }) :: wr, by simp [freezeL, hb, h1], fun p hp => ?_, fun G j => ?_⟩
    · rcases List.mem_cons.1 hp with rfl | hp
      · simp [hb]
      · exact ⟨(h2 p hp).1, List.mem_cons_of_mem _ (h2 p hp).2⟩
    · rw [hsets, h3, hget_hset]
      unfold updF
      by_cases q1 : j ∈ rs
      · rw [if_pos q1, if_pos (List.mem_cons_of_mem _ q1)]
      · rw [if_neg q1]
        by_cases q2 : j = b
        · subst q2
          rw [if_pos rfl, if_pos (List.mem_cons_self ..), hb]
          rfl
        · rw [if_neg q2, if_neg (by simp [q1, q2])]

theorem newsE_ex {n : Nat} (hf : ∀ b, base ≤ b → ε b = none) : EX ε (newsE ε base vbase n) := fun b e he => ⟨e, by
  unfold newsE
  rw [if_neg (fun q => by rw [hf b q.1] at he; cases he)]
  exact he, .inl rfl⟩
theorem newsE_none {n : Nat} : EX (newsE (fun _ => none) base vbase n) (newsE ε base vbase n) := by
  intro b e he
  refine ⟨e, ?_, .inl rfl⟩
  unfold newsE at he ⊢
  split at he
  · rename_i h; rw [if_pos h]; exact he
  · cases he
/-- What a call leaves: rows that are written no more, and new ones. -/
theorem sfreeze_mem : ∀ {rs : List Nat} {wr : List (Nat × SBlk)}, sfreeze H rs = some wr → ∀ b ∈ rs, ∃ x, (b, x) ∈ wr
  | [], wr, _, b, hb => by cases hb
  | c :: rs, wr, h, b, hb => by
    simp only [sfreeze] at h
    cases g1 : sget H c with
    | none => rw [g1] at h; cases h
    | some cb =>
      cases g2 : sfreeze H rs with
      | none => rw [g1, g2] at h; cases h
      | some m =>
        rw [g1, g2] at h
        cases h
        rcases List.mem_cons.1 hb with rfl | hb
        · exact ⟨_, List.mem_cons_self ..⟩
        · obtain ⟨x, hx⟩ := sfreeze_mem g2 b hb
          exact ⟨x, List.mem_cons_of_mem _ hx⟩
theorem call_er {rs rz' : List Nat} {wr : List (Nat × SBlk)} {wr' : List (Nat × Blk)} {ss : List SBlk} {bs : List Blk} {s : SV} {v : V} (hH : RH ε H L) (hf : ∀ b, base ≤ b → ε b = none) (hfz : sfreeze H rs = some wr)
    (hfz' : ∀ (G : Heap) j, hget (hsets wr' G) j = if j ∈ rz' then (hget L j).map fun b => { b with fz := true } else hget G j) (hwi : ∀ p ∈ wr', (hget L p.1).isSome = true ∧ p.1 ∈ rz')
    (hrs : ∀ b' ∈ rz', (hget L b').isSome = true ∧ ∃ b ∈ rs, ∃ e v0, ε b = some e ∧ e.act = some (b', v0)) (hin : ∀ b ∈ rs, (sget H b).isSome = true)
    (hwe : rs = [] → wr' = []) (hn : NewR (newsE (fun _ => none) base vbase ss.length) ss bs) (hv : RV (newsE (fun _ => none) base vbase ss.length) s v) :
    ER ε (newsE ε base vbase ss.length) H L base vbase ⟨s, wr, ss⟩ ⟨v, wr', bs⟩ := by
  have hex := newsE_ex (vbase := vbase) (n := ss.length) hf
  have hlen := hn.length
  refine ⟨hex, hv.mono newsE_none, fun H' L' hr hw hl hs => ?_, fun b hb hn => ?_, fun p hp => (hwi p hp).1, fun _ b e he => ?_, fun q => hwe ?_, fun _ => hlen, fun sb eb b' v0 h k => ⟨eb, v0, by unfold newsE; rw [if_neg (fun q => by rw [hf sb q.1] at h; cases h)]; exact h, k⟩, fun p hp => ?_⟩
  rotate_left 2
  · unfold newsE
    rw [if_neg (fun q => by rw [hf b q.1] at he; cases he)]
    exact he
  · cases rs with
    | nil => rfl
    | cons c rs =>
      exfalso
      simp only [sfreeze] at hfz
      cases g1 : sget H c with
      | none => rw [g1] at hfz; cases hfz
      | some cb => cases g2 : sfreeze H rs with
        | none => rw [g1, g2] at hfz; cases hfz
        | some m => rw [g1, g2] at hfz; cases hfz; cases q
  · obtain ⟨_, b, hb, e, v0, k1, k2⟩ := hrs p.1 (hwi p hp).2
    obtain ⟨x, hx⟩ := sfreeze_mem hfz b hb
    obtain ⟨blk, hblk⟩ := Option.isSome_iff_exists.1 (hin b hb)
    exact ⟨(b, x), hx, blk, e, v0, hblk, k1, k2⟩
  · have gS : ∀ j, sget (sapply H' base ⟨s, wr, ss⟩) j = if base ≤ j ∧ j < base + ss.length then ss[j - base]? else if j ∈ rs then (sget H j).map fun b => ⟨b.cells, b.k, b.ver, true, b.lz⟩ else sget H' j := by
      intro j
      rw [sapply, sget_snews, sget_ssets_fz hfz H' hw]
    have gL : ∀ j, hget (applyL L' vbase ⟨v, wr', bs⟩) j = if vbase ≤ j ∧ j < vbase + bs.length then bs[j - vbase]? else if j ∈ rz' then (hget L j).map fun b => { b with fz := true } else hget L' j := by
      intro j
      rw [applyL, hget_hnews, newsF_get, hfz']
    have hHw : ∀ b ∈ rs, sget H' b = sget H b := by
      intro b hb
      obtain ⟨blk, hblk⟩ := Option.isSome_iff_exists.1 (hin b hb)
      have hmem : ∀ {rs : List Nat} {wr : List (Nat × SBlk)}, sfreeze H rs = some wr → ∀ b ∈ rs, ∃ x, (b, x) ∈ wr := by
        intro rs
        induction rs with
        | nil => intro wr _ b hb; cases hb
        | cons c rs ih =>
          intro wr h b hb
          simp only [sfreeze] at h
          cases g1 : sget H c with
          | none => rw [g1] at h; cases h
          | some cb =>
            cases g2 : sfreeze H rs with
            | none => rw [g1, g2] at h; cases h
            | some m =>
              rw [g1, g2] at h
              cases h
              rcases List.mem_cons.1 hb with rfl | hb
              · exact ⟨_, List.mem_cons_self ..⟩
              · obtain ⟨x, hx⟩ := ih g2 b hb
                exact ⟨x, List.mem_cons_of_mem _ hx⟩
      obtain ⟨x, hx⟩ := hmem hfz b hb
      exact hw (b, x) hx
    have old : ∀ b e, ε b = some e → newsE ε base vbase ss.length b = some e ∧ ¬ (base ≤ b ∧ b < base + ss.length) := by
      intro b e he
      have : ¬ (base ≤ b ∧ b < base + ss.length) := fun q => by rw [hf b q.1] at he; cases he
      exact ⟨by unfold newsE; rw [if_neg this]; exact he, this⟩
    -- an elder label's block
    have elder : ∀ b blk1, ¬ (base ≤ b ∧ b < base + ss.length) → sget (sapply H' base ⟨s, wr, ss⟩) b = some blk1 → ∃ blk, sget H' b = some blk ∧ blk1.cells = blk.cells ∧ blk1.k = blk.k ∧ blk1.ver = blk.ver ∧ blk1.lz = blk.lz ∧ (b ∉ rs → blk1.fz = blk.fz) ∧ (b ∈ rs → blk1.fz = true) := by
      intro b blk1 hb h1
      rw [gS, if_neg hb] at h1
      by_cases q : b ∈ rs
      · rw [if_pos q, ← hHw b q] at h1
        obtain ⟨blk, g1, rfl⟩ := mapU_some h1
        exact ⟨blk, g1, rfl, rfl, rfl, rfl, fun q' => absurd q q', fun _ => rfl⟩
      · rw [if_neg q] at h1
        exact ⟨blk1, h1, rfl, rfl, rfl, rfl, fun _ => rfl, fun q' => absurd q' q⟩
    refine ⟨fun b blk1 h1 => ?_, fun b1 b2 blk1 blk2 e1 e2 c v1 v2 h1 h2 h3 h4 h5 h6 => ?_⟩
    · by_cases hb : base ≤ b ∧ b < base + ss.length
      · rw [gS, if_pos hb] at h1
        obtain ⟨ab, k1, k2, k3, k4, k5, k6, k7, k8⟩ := hn.get _ _ h1
        refine ⟨⟨0, some (vbase + (b - base), 0)⟩, by unfold newsE; rw [if_pos hb], k3.symm, k2, .inr ⟨_, _, ab, rfl, ?_, k4, k5, k6, k8.mono newsE_none⟩⟩
        rw [gL, if_pos (by omega), Nat.add_sub_cancel_left]
        exact k1
      · obtain ⟨blk, g1, g2, g3, g4, g5, g6, g7⟩ := elder b blk1 hb h1
        obtain ⟨e, k1, k2, k3, k4⟩ := hr.at_ b blk g1
        refine ⟨e, (old b e k1).1, k2.trans g4.symm, by rw [g2]; exact k3, ?_⟩
        rcases k4 with ⟨k4, k5, k6⟩ | ⟨b', v', ab, k4, k5, k6, k7, k8, k9⟩
        · exact .inl ⟨g5.trans k4, k5, by rw [g2]; exact k6⟩
        · right
          have hlt : b' < vbase := by
            rcases Nat.lt_or_ge b' vbase with q | q
            · exact q
            · rw [hl b' q] at k5; cases k5
          by_cases q : b' ∈ rz'
          · obtain ⟨q1, c, hc, e2, v2, q2, q3⟩ := hrs b' q
            obtain ⟨cb, hcb⟩ := Option.isSome_iff_exists.1 (hin c hc)
            have hcc : c = b := hr.inj c b cb blk e2 e b' v2 v' (by rw [hHw c hc]; exact hcb) g1 q2 k1 q3 k4
            subst hcc
            -- the same block in both heaps
            obtain ⟨e', j1, j2, j3, j4⟩ := hH.at_ c cb hcb
            rw [k1] at j1; cases j1
            rcases j4 with ⟨_, j5, _⟩ | ⟨b3, v3, ab3, j5, j6, j7, j8, j9, j10⟩
            · rw [k4] at j5; cases j5
            · rw [k4] at j5; cases j5
              have hcells : cb = blk := by
                have := hHw c hc
                rw [g1, hcb] at this
                exact (Option.some.inj this).symm
              subst hcells
              refine ⟨b', v', { ab3 with fz := true }, k4, ?_, j7, j8.trans g3.symm, fun q' => (by rw [g7 hc] at q'; cases q'), by rw [g2]; exact j10.mono hex⟩
              rw [gL, if_neg (by omega), if_pos q, j6]
              rfl
          · refine ⟨b', v', ab, k4, by rw [gL, if_neg (by omega), if_neg q]; exact k5, k6, k7.trans g3.symm, fun q' => k8 ?_, by rw [g2]; exact k9.mono hex⟩
            by_cases q2 : b ∈ rs
            · rw [g7 q2] at q'; cases q'
            · rw [← g6 q2]; exact q'
    · have side : ∀ b blk e v0, sget (sapply H' base ⟨s, wr, ss⟩) b = some blk → newsE ε base vbase ss.length b = some e → e.act = some (c, v0) → (base ≤ b ∧ b < base + ss.length ∧ c = vbase + (b - base)) ∨ (∃ blk0, sget H' b = some blk0 ∧ ε b = some e ∧ c < vbase) := by
        intro b blk e v0 g1 g2 g3
        by_cases hb : base ≤ b ∧ b < base + ss.length
        · unfold newsE at g2
          rw [if_pos hb] at g2
          cases g2
          simp only [Option.some.injEq, Prod.mk.injEq] at g3
          exact .inl ⟨hb.1, hb.2, g3.1.symm⟩
        · obtain ⟨blk0, k1, _⟩ := elder b blk hb g1
          have g2' : ε b = some e := by unfold newsE at g2; rw [if_neg hb] at g2; exact g2
          refine .inr ⟨blk0, k1, g2', ?_⟩
          obtain ⟨e', j1, j2, j3, j4⟩ := hr.at_ b blk0 k1
          rw [g2'] at j1; cases j1
          rcases j4 with ⟨_, j5, _⟩ | ⟨b3, v3, ab3, j5, j6, _⟩
          · rw [g3] at j5; cases j5
          · rw [g3] at j5; cases j5
            rcases Nat.lt_or_ge c vbase with q | q
            · exact q
            · rw [hl c q] at j6; cases j6
      rcases side b1 blk1 e1 v1 h1 h3 h5 with ⟨p1, p2, p3⟩ | ⟨p1, p2, p3, p4⟩ <;> rcases side b2 blk2 e2 v2 h2 h4 h6 with ⟨q1, q2, q3⟩ | ⟨q1, q2, q3, q4⟩
      · omega
      · omega
      · omega
      · exact hr.inj b1 b2 p1 q1 e1 e2 c v1 v2 p2 q2 p3 q3 h5 h6
  · unfold newsE
    rw [if_neg hn]
    exact hb
end
end
end Go.Proofs.Ytifgifhbefhkmaa.VM
