/- Values with labels: regions that draw their order. No conditions. -/
import Derived.Test.YtifgifhbefhkmaaSVp
namespace Go.Proofs.Ytifgifhbefhkmaa.VM
set_option linter.unusedSimpArgs false
set_option linter.unusedVariables false
open Go Go.RowKit
noncomputable section
section
variable {P : Program} {cf : Cfg} {sx : SX}

theorem RH.congr {ε : Nat → Option BE} {H H' : SHeap} {L L' : Heap} (h : RH ε H L) (hs : ∀ b, sget H' b = sget H b) (hl : ∀ b, hget L' b = hget L b) : RH ε H' L' :=
  ⟨fun b blk hb => by
    rw [hs] at hb
    obtain ⟨e, h1, h2, h3, h4⟩ := h.at_ b blk hb
    refine ⟨e, h1, h2, h3, h4.imp id ?_⟩
    rintro ⟨b', v', ab, g1, g2, g3⟩
    exact ⟨b', v', ab, g1, by rw [hl]; exact g2, g3⟩,
   fun b1 b2 blk1 blk2 e1 e2 c v1 v2 h1 h2 => h.inj b1 b2 blk1 blk2 e1 e2 c v1 v2 (by rw [← hs]; exact h1) (by rw [← hs]; exact h2)⟩
/-- Labels that are new leave the elder ones as they are. -/
theorem RH.more {ε ε' : Nat → Option BE} {H : SHeap} {L : Heap} (h : RH ε H L) (hx : EX ε ε') (hsame : ∀ b e, ε b = some e → ε' b = some e) : RH ε' H L := by
  refine ⟨fun b blk hb => ?_, fun b1 b2 blk1 blk2 e1 e2 c v1 v2 h1 h2 h3 h4 h5 h6 => ?_⟩
  · obtain ⟨e, h1, h2, h3, h4⟩ := h.at_ b blk hb
    refine ⟨e, hsame b e h1, h2, h3, h4.imp id ?_⟩
    rintro ⟨b', v', ab, g1, g2, g3, g4, g5, g6⟩
    exact ⟨b', v', ab, g1, g2, g3, g4, g5, g6.mono hx⟩
  · obtain ⟨f1, k1, _⟩ := h.at_ b1 blk1 h1
    obtain ⟨f2, k2, _⟩ := h.at_ b2 blk2 h2
    have q1 := hsame b1 f1 k1
    have q2 := hsame b2 f2 k2
    rw [h3] at q1; cases q1
    rw [h4] at q2; cases q2
    exact h.inj b1 b2 blk1 blk2 _ _ c v1 v2 h1 h2 k1 k2 h5 h6
theorem rlen_eq : ∀ (l : List SRec), rlen l = l.length
  | [] => rfl
  | _ :: l => congrArg Nat.succ (rlen_eq l)
theorem heapOf_cons (H0 : Heap) (D : Nat → Bool) (r : DRec) (rest : List DRec) (b : Nat) : hget (heapOf H0 D (r :: rest)) b = if D r.i then hget (applyL (heapOf H0 D rest) r.base r.eff) b else hget (heapOf H0 D rest) b := by
  rw [heapOf]
  split
  · rename_i h1 h2
    split
    · rw [hget_applyL]
      unfold applyF
      rw [h1, h2]
      rfl
    · rfl
  · split <;> rfl
theorem heapOf_congr {H0 : Heap} {D D' : Nat → Bool} : ∀ {rs : List DRec}, (∀ r ∈ rs, D r.i = D' r.i ∨ (r.eff.wr = [] ∧ r.eff.new = [])) → heapOf H0 D rs = heapOf H0 D' rs
  | [], _ => rfl
  | r :: rest, h => by
    have ih := heapOf_congr (H0 := H0) (rs := rest) fun x hx => h x (List.mem_cons_of_mem _ hx)
    rcases h r (List.mem_cons_self ..) with h0 | ⟨h1, h2⟩
    · rw [heapOf, heapOf, ih, h0]
    · rw [heapOf, heapOf, ih, h1, h2]
/-- The labels' walk beside the other. -/
inductive DP : List SRec → List DRec → Prop
  | nil : DP [] []
  | cons {s : SRec} {r : DRec} {ss : List SRec} {rs : List DRec} : (s.fr = true → s.eff.wr = [] ∧ s.eff.new = [] ∧ r.eff.wr = [] ∧ r.eff.new = [] ∧ (r.wt = false ∨ freeOp r.o = true)) → (∀ b, s.ld = some b → s.eff.wr = [] ∧ s.eff.new = [] ∧ r.eff.wr = [] ∧ r.eff.new = []) → r.i = rs.length → (r.eff.wr ≠ [] → s.eff.w = true) → DP ss rs → DP (s :: ss) (r :: rs)
theorem DP.length {ss : List SRec} {rs : List DRec} (h : DP ss rs) : ss.length = rs.length := by
  induction h with
  | nil => rfl
  | cons _ _ _ _ _ ih => simp [ih]
theorem DP.idx {ss : List SRec} {rs : List DRec} (h : DP ss rs) : ∀ r ∈ rs, r.i < rs.length := by
  induction h with
  | nil => intro r hr; cases hr
  | cons _ _ h2 _ _ ih =>
    intro r hr
    rcases List.mem_cons.1 hr with rfl | hr
    · simp [h2]
    · have := ih r hr; simp; omega
def FreeR (r : DRec) : Prop := r.eff.wr = [] ∧ r.eff.new = [] ∧ (r.wt = false ∨ freeOp r.o = true)
/-- A load of a block that is not among these. -/
def LoadR (ss : List SRec) (rs : List DRec) (ws : List (Nat × SBlk)) (r : DRec) : Prop := r.eff.wr = [] ∧ r.eff.new = [] ∧ ∃ (j : Nat) (s : SRec) (b : Nat), rs[j]? = some r ∧ ss[j]? = some s ∧ s.ld = some b ∧ ∀ p ∈ ws, p.1 ≠ b
theorem LoadR.cons {s0 : SRec} {r0 : DRec} {ss : List SRec} {rs : List DRec} {ws : List (Nat × SBlk)} {r : DRec} (h : LoadR ss rs ws r) : LoadR (s0 :: ss) (r0 :: rs) ws r := by
  obtain ⟨h1, h2, j, s, b, h3, h4, h5, h6⟩ := h
  exact ⟨h1, h2, j + 1, s, b, by simpa using h3, by simpa using h4, h5, h6⟩
theorem ldOK_of {ws : List (Nat × SBlk)} {l : Option Nat} (h : ldOK ws l = true) : ∃ b, l = some b ∧ ∀ p ∈ ws, p.1 ≠ b := by
  unfold ldOK at h
  split at h
  · rename_i b
    refine ⟨b, rfl, fun p hp q => ?_⟩
    have := List.all_eq_true.1 h p hp
    rw [q, Nat.beq_refl] at this
    cases this
  · cases h
theorem fullX_of {D : Nat → Bool} {ws : List (Nat × SBlk)} {ss : List SRec} {rs : List DRec} (h : DP ss rs) (hf : fullX D ws ss = true) : ∀ r ∈ rs, D r.i = true ∨ FreeR r ∨ LoadR ss rs ws r := by
  induction h with
  | nil => intro r hr; cases hr
  | @cons s r ss rs h1 h0 h2 h3 h4 ih =>
    obtain ⟨f1, f2⟩ := andT (show ((D (rlen ss) || s.fr || ldOK ws s.ld) && fullX D ws ss) = true from hf)
    intro x hx
    rcases List.mem_cons.1 hx with rfl | hx
    · rw [Bool.or_eq_true, Bool.or_eq_true] at f1
      rcases f1 with (f1 | f1) | f1
      · left; rw [h2, ← h4.length, ← rlen_eq]; exact f1
      · right; left; exact ⟨(h1 f1).2.2.1, (h1 f1).2.2.2.1, (h1 f1).2.2.2.2⟩
      · right; right
        obtain ⟨b, g1, g2⟩ := ldOK_of f1
        exact ⟨(h0 b g1).2.2.1, (h0 b g1).2.2.2, 0, s, b, rfl, rfl, g1, g2⟩
    · exact (ih f2 x hx).imp id (Or.imp id LoadR.cons)
theorem sheapM_full {H0 : SHeap} {D : Nat → Bool} {ws : List (Nat × SBlk)} {ss : List SRec} {rs : List DRec} (h : DP ss rs) (hf : fullX D ws ss = true) : sheapM H0 D ss = sheapM H0 (fun _ => true) ss := by
  induction h with
  | nil => rfl
  | @cons s r ss rs h1 h0 h2 h3 h4 ih =>
    obtain ⟨f1, f2⟩ := andT (show ((D (rlen ss) || s.fr || ldOK ws s.ld) && fullX D ws ss) = true from hf)
    rw [sheapM, sheapM, ih f2]
    cases hD : D (rlen ss) with
    | true => rfl
    | false =>
      rw [hD, Bool.false_or] at f1
      have hn : s.eff.wr = [] ∧ s.eff.new = [] := by
        rw [Bool.or_eq_true] at f1
        rcases f1 with f1 | f1
        · exact ⟨(h1 f1).1, (h1 f1).2.1⟩
        · obtain ⟨b, g1, _⟩ := ldOK_of f1
          exact ⟨(h0 b g1).1, (h0 b g1).2.1⟩
      simp only [cond_false, cond_true]
      unfold sapply
      rw [hn.1, hn.2]
      rfl
theorem heapOf_full {L0 : Heap} {D : Nat → Bool} {ss : List SRec} {rs : List DRec} {ws : List (Nat × SBlk)} (h : DP ss rs) (hf : fullX D ws ss = true) : heapOf L0 D rs = heapOf L0 (fun _ => true) rs :=
  heapOf_congr fun r hr => (fullX_of h hf r hr).imp id fun q => q.elim (fun q => ⟨q.1, q.2.1⟩) fun q => ⟨q.1, q.2.1⟩

theorem fullX_all (ws : List (Nat × SBlk)) : ∀ l : List SRec, fullX (fun _ => true) ws l = true
  | [] => rfl
  | r :: l => by show ((true || r.fr || ldOK ws r.ld) && fullX (fun _ => true) ws l) = true; rw [fullX_all ws l]; rfl
theorem seenM_all : ∀ l : List SRec, seenM (fun _ => true) l = true
  | [] => rfl
  | r :: l => by rw [seenM, seenM_all l, fullX_all]; cases r.eff.w <;> rfl
/-- What is kept while a region that draws its order is gone through. -/
structure DInv (ms : List Nat) (H0 : SHeap) (L0 : Heap) (ε : Nat → Option BE) (t : List SV) (tv : List V) (nx nxv : Nat) (srecs : List SRec) (recs : List DRec) : Prop where
  t : RL ε t tv
  fs : ∀ b, nx ≤ b → ε b = none
  dp : DP srecs recs
  at_ : ∀ D, seenM D srecs = true → RH ε (sheapM H0 D srecs) (heapOf L0 D recs) ∧ ∀ b, nxv ≤ b → hget (heapOf L0 D recs) b = none
  ex : ∀ r ∈ recs, r.ex = false
  wr : ∀ pre r rest, recs = pre ++ r :: rest → ∀ p ∈ r.eff.wr, (hget (heapOf L0 (bitM ms r.i) rest) p.1).isSome = true
  ord : ∀ r ∈ recs, FreeR r ∨ ∀ x ∈ recs, x.eff.wr ≠ [] → x.i ≠ r.i → (if x.i < r.i then bitM ms r.i x.i else bitM ms x.i r.i) = true ∨ (r.eff.wr = [] ∧ r.eff.new = [] ∧ ∃ b', loadB r.t r.o = some b' ∧ ∀ p ∈ x.eff.wr, p.1 ≠ b')
  lds : ∀ (j : Nat) (s : SRec) (r : DRec) (b : Nat), srecs[j]? = some s → recs[j]? = some r → s.ld = some b → ∃ eb b' v0, ε b = some eb ∧ eb.act = some (b', v0) ∧ loadB r.t r.o = some b' ∧ (sget (sheapM H0 (fun _ => true) srecs) b).isSome = true
  sw : ∀ D, seenM D srecs = true → ∀ x ∈ recs, x.eff.wr ≠ [] → D x.i = true

theorem sget_ssets : ∀ (l : List (Nat × SBlk)) (H : SHeap) (b : Nat), (sget H b).isSome = true → (sget (ssets l H) b).isSome = true
  | [], H, b, h => h
  | (i, x) :: l, H, b, h => sget_ssets l _ b (by rw [sget_sset]; split <;> simp_all)
theorem sget_ssets_imp : ∀ (l : List (Nat × SBlk)) (H H' : SHeap), (∀ b, (sget H b).isSome = true → (sget H' b).isSome = true) → ∀ b, (sget (ssets l H) b).isSome = true → (sget (ssets l H') b).isSome = true
  | [], H, H', h, b, hb => h b hb
  | (i, x) :: l, H, H', h, b, hb => sget_ssets_imp l _ _ (fun c hc => by rw [sget_sset] at hc ⊢; split <;> simp_all) b hb
theorem sget_snews_imp (l : List SBlk) (j : Nat) (H H' : SHeap) (h : ∀ b, (sget H b).isSome = true → (sget H' b).isSome = true) (b : Nat) (hb : (sget (snews l j H) b).isSome = true) : (sget (snews l j H') b).isSome = true := by
  rw [sget_snews] at hb ⊢
  split
  · rename_i q; rwa [if_pos q] at hb
  · rename_i q; rw [if_neg q] at hb; exact h b hb
theorem sapply_some {H : SHeap} {base : Nat} {e : SEff} {b : Nat} (h : (sget H b).isSome = true) : (sget (sapply H base e) b).isSome = true := by
  unfold sapply
  rw [sget_snews]
  split
  · rename_i q
    rw [List.getElem?_eq_getElem (by omega)]
    rfl
  · exact sget_ssets _ _ _ h
theorem sheapM_some {H0 : SHeap} {D : Nat → Bool} : ∀ {l : List SRec} {b : Nat}, (sget (sheapM H0 D l) b).isSome = true → (sget (sheapM H0 (fun _ => true) l) b).isSome = true
  | [], b, h => h
  | r :: l, b, h => by
    show (sget (sapply (sheapM H0 (fun _ => true) l) r.base r.eff) b).isSome = true
    rw [sheapM] at h
    cases hD : D (rlen l) with
    | true =>
      rw [hD] at h
      exact sget_snews_imp _ _ _ _ (fun c hc => sget_ssets_imp _ _ _ (fun d hd => sheapM_some hd) c hc) b h
    | false =>
      rw [hD] at h
      exact sapply_some (sheapM_some h)
theorem loadSB_of {ε : Nat → Option BE} {H : SHeap} {L : Heap} {t : List SV} {tv : List V} {o : Oper} {b : Nat} (hH : RH ε H L) (ht : RL ε t tv) (h : loadSB H t o = some b) :
    ∃ eb b' v0, ε b = some eb ∧ eb.act = some (b', v0) ∧ loadB tv o = some b' ∧ (sget H b).isSome = true := by
  unfold loadSB at h
  split at h
  · rename_i ty x ho
    split at h
    · rename_i b0 e k f ver hx
      split at h
      · rename_i blk hb
        cases hv : Nat.beq blk.ver ver with
        | false => rw [hv] at h; cases h
        | true =>
          rw [hv] at h; cases h
          obtain ⟨v, hv1, hv2⟩ := evalS_rel ht hx
          obtain ⟨e0, b', v0, ablk, q1, q2, q3, q4, _⟩ := ptrB_at hH hb hv hv2
          refine ⟨e0, b', v0, q1, q2, ?_, by rw [hb]; rfl⟩
          unfold loadB
          rw [ho]
          simp only [hv1, q4]
      · cases h
    · cases h
  · cases h

theorem xids_of {ms : List Nat} {i y : Nat} : ∀ {l : List DRec}, y ∈ xids ms i l → ∃ x ∈ l, x.eff.wr ≠ [] ∧ y ∈ x.eff.wr.map (·.1) ∧ x.i ≠ i ∧ (if x.i < i then bitM ms i x.i else bitM ms x.i i) = false
  | [], h => by cases h
  | x :: l, h => by
    rw [xids] at h
    split at h
    · obtain ⟨z, h1, h2⟩ := xids_of h
      exact ⟨z, List.mem_cons_of_mem _ h1, h2⟩
    · rename_i hw
      by_cases hq : (x.i == i || (if x.i < i then bitM ms i x.i else bitM ms x.i i)) = true
      · rw [if_pos hq] at h
        obtain ⟨z, h1, h2⟩ := xids_of h
        exact ⟨z, List.mem_cons_of_mem _ h1, h2⟩
      · rw [if_neg hq] at h
        rcases List.mem_append.1 h with h | h
        · simp only [Bool.or_eq_true, not_or, Bool.not_eq_true, beq_eq_false_iff_ne, ne_eq] at hq
          exact ⟨x, List.mem_cons_self .., fun q => hw q, h, hq.1, hq.2⟩
        · obtain ⟨z, h1, h2⟩ := xids_of h
          exact ⟨z, List.mem_cons_of_mem _ h1, h2⟩
theorem chk_of {call : CallF} {ms : List Nat} {L0 : Heap} {all : List DRec} (hex : ∀ r ∈ all, r.ex = false) (hwr : ∀ pre r rest, all = pre ++ r :: rest → ∀ p ∈ r.eff.wr, (hget (heapOf L0 (bitM ms r.i) rest) p.1).isSome = true)
    (hord : ∀ r ∈ all, FreeR r ∨ ∀ x ∈ all, x.eff.wr ≠ [] → x.i ≠ r.i → (if x.i < r.i then bitM ms r.i x.i else bitM ms x.i r.i) = true ∨ (r.eff.wr = [] ∧ r.eff.new = [] ∧ ∃ b', loadB r.t r.o = some b' ∧ ∀ p ∈ x.eff.wr, p.1 ≠ b')) : ∀ (rs pre : List DRec), all = pre ++ rs → chk P call ms L0 all rs = true
  | [], _, _ => rfl
  | r :: rest, pre, h => by
    have hr : r ∈ all := by rw [h]; simp
    rw [chk, hex r hr, chk_of hex hwr hord rest (pre ++ [r]) (by rw [h]; simp)]
    simp only [Bool.not_false, Bool.true_or, Bool.and_true]
    rcases hord r hr with hfr | hord
    · split
      · rw [hfr.1]; rfl
      · rw [hfr.1]
        simp only [List.isEmpty_nil, Bool.true_and]
        rcases hfr.2.2 with q | q
        · rw [q]; rfl
        · rw [q]; simp
    · have key : ∀ y ∈ xids ms r.i all, r.eff.wr = [] ∧ ∃ b', loadB r.t r.o = some b' ∧ y ≠ b' := by
        intro y hy
        obtain ⟨x, h1, h2, h3, h4, h5⟩ := xids_of hy
        rcases hord x h1 h2 h4 with q | ⟨q1, _, b', q2, q3⟩
        · rw [h5] at q; cases q
        · obtain ⟨p, hp, rfl⟩ := List.mem_map.1 h3
          exact ⟨q1, b', q2, q3 p hp⟩
      split
      · rw [List.all_eq_true]
        exact fun p hp => hwr pre r rest h p hp
      · rename_i hne
        cases hX : xids ms r.i all with
        | nil => exact absurd hX hne
        | cons y X =>
          obtain ⟨k1, b', k2, _⟩ := key y (by rw [hX]; exact List.mem_cons_self ..)
          have k3 : (xids ms r.i all).contains b' = false := by
            cases hc : (xids ms r.i all).contains b' with
            | false => rfl
            | true =>
              obtain ⟨_, b2, g1, g2⟩ := key b' (by simpa using hc)
              rw [k2] at g1; cases g1
              exact absurd rfl g2
          rw [hX] at k3
          rw [k1, k2]
          simp only [k3]
          simp

theorem sfwd_of {call : SCall} (hC : SCallOK call (fun n => callI P cf (exec P cf n))) {ops : List Oper} {ms : List Nat} {H0 : SHeap} {L0 : Heap} {K : SSt → Prop} :
    ∀ {l : List Oper} {i : Nat} {ε : Nat → Option BE} {t : List SV} {tv : List V} {nx nxv : Nat} {srecs : List SRec} {recs : List DRec}, DInv ms H0 L0 ε t tv nx nxv srecs recs → srecs.length = i →
      sfwd sx P cf call ops ms H0 K l i srecs t nx →
      ∃ tv' nxv' recs', (∃ N, ∀ n, N ≤ n → fwd P cf (callI P cf (exec P cf n)) (callS P (exec P cf n)) ops ms L0 l i tv nxv recs = some (tv', nxv', recs')) ∧
        ∃ ε' t' nx' srecs', EX ε ε' ∧ DInv ms H0 L0 ε' t' tv' nx' nxv' srecs' recs' ∧ K ⟨t', sheapM H0 (fun _ => true) srecs', nx'⟩
  | [], i, ε, t, tv, nx, nxv, srecs, recs, hI, hi, h => ⟨tv, nxv, recs, ⟨0, fun n _ => rfl⟩, ε, t, nx, srecs, EX.refl ε, hI, h⟩
  | o :: l, i, ε, t, tv, nx, nxv, srecs, recs, hI, hi, h => by
    obtain ⟨hseen, h⟩ := bif_of (show bif seenM (bitM ms i) srecs then _ else Stuck 262 from h)
    obtain ⟨t1, h1, ht1⟩ := wantedS_of hI.t h
    have hri : recs.length = i := by rw [← hI.dp.length]; exact hi
    -- an operation with its effect, put behind the others
    have push : ∀ (wt fr : Bool) (ld : Option Nat) (se : SEff) (e : Eff) (ε' : Nat → Option BE), ER ε ε' (sheapM H0 (bitM ms i) srecs) (heapOf L0 (bitM ms i) recs) nx nxv se e → (se.w = true → fullX (bitM ms i) se.wr srecs = true) → (fr = true → se.nil = true ∧ (wt = false ∨ freeOp o = true)) → (∀ b, ld = some b → se.nil = true ∧ ∃ eb b' v0, ε b = some eb ∧ eb.act = some (b', v0) ∧ loadB tv o = some b' ∧ (sget (sheapM H0 (bitM ms i) srecs) b).isSome = true) →
        DInv ms H0 L0 ε' (putS t1 o.dst se.v) (putV tv o.dst e.v) (nx + se.new.length) (nxv + e.new.length) (⟨nx, se, fr, ld⟩ :: srecs) (⟨i, o, wt, nxv, tv, e, false⟩ :: recs) := by
      intro wt fr ld se e ε' he hw hfr hld
      have hsw : e.wr ≠ [] → se.w = true := by
        intro q
        unfold SEff.w
        split
        · rename_i q2; exact absurd (he.wrE q2) q
        · rfl
      have hwn : se.w = false → se.wr = [] := by
        unfold SEff.w
        split
        · rename_i q; exact fun _ => q
        · intro q; cases q
      have hdp : DP (⟨nx, se, fr, ld⟩ :: srecs) (⟨i, o, wt, nxv, tv, e, false⟩ :: recs) := by
        have nilE : se.nil = true → se.wr = [] ∧ se.new = [] ∧ e.wr = [] ∧ e.new = [] := by
          intro q1
          have hn : se.wr = [] ∧ se.new = [] := by
            unfold SEff.nil at q1
            split at q1
            · rename_i a b; exact ⟨a, b⟩
            · cases q1
          have h3 := he.newE hn.1
          rw [hn.2] at h3
          exact ⟨hn.1, hn.2, he.wrE hn.1, List.length_eq_zero_iff.1 h3.symm⟩
        refine .cons (fun q => ?_) (fun b q => nilE (hld b q).1) hri.symm hsw hI.dp
        obtain ⟨q1, q2⟩ := hfr q
        obtain ⟨a1, a2, a3, a4⟩ := nilE q1
        exact ⟨a1, a2, a3, a4, q2⟩
      refine ⟨putS_rel (ht1.mono he.ex) _ he.v, fun b hb => he.fresh b (hI.fs b (by omega)) (by omega), hdp, fun D hD => ?_, fun r hr => ?_, fun pre r rest hq p hp => ?_, fun r hr => ?_, fun j s r b hs hr hb => ?_, fun D hD x hx hxw => ?_⟩
      · obtain ⟨hD1, hD2⟩ := andT (show ((bif se.w then D (rlen srecs) && fullX D se.wr srecs else true) && seenM D srecs) = true from hD)
        obtain ⟨g1, g2⟩ := hI.at_ D hD2
        have hget' := heapOf_cons L0 D ⟨i, o, wt, nxv, tv, e, false⟩ recs
        have hsl : sheapM H0 D (⟨nx, se, fr, ld⟩ :: srecs) = bif D i then sapply (sheapM H0 D srecs) nx se else sheapM H0 D srecs := by rw [sheapM, rlen_eq, hi]
        cases hDi : D i with
        | true =>
          have hsame : ∀ p ∈ se.wr, sget (sheapM H0 D srecs) p.1 = sget (sheapM H0 (bitM ms i) srecs) p.1 := by
            intro p hp
            have hw1 : se.w = true := by unfold SEff.w; split; rename_i q; rw [q] at hp; cases hp; rfl
            rw [hw1] at hD1
            rw [sheapM_full hI.dp (andT hD1).2, sheapM_full hI.dp (hw hw1)]
          have hwi : ∀ p ∈ e.wr, (hget (heapOf L0 D recs) p.1).isSome = true := by
            intro p hp
            have hw1 := hsw (fun q => by rw [q] at hp; cases hp)
            rw [hw1] at hD1
            rw [heapOf_full hI.dp (andT hD1).2, ← heapOf_full hI.dp (hw hw1)]
            exact he.wrIn p hp
          constructor
          · refine RH.congr (he.heap _ _ g1 hsame g2 hI.fs) (fun b => by rw [hsl, hDi]; rfl) (fun b => by rw [hget', if_pos hDi])
          · intro b hb
            rw [hget', if_pos hDi]
            exact applyL_none hwi g2 b hb
        | false =>
          have hwf : se.w = false := by
            cases hq : se.w with
            | false => rfl
            | true =>
              rw [hq] at hD1
              have := (andT hD1).1
              rw [rlen_eq, hi, hDi] at this
              cases this
          constructor
          · exact RH.congr (g1.more he.ex (he.same (hwn hwf))) (fun b => by rw [hsl, hDi]; rfl) (fun b => by rw [hget', if_neg (by rw [hDi]; simp)])
          · intro b hb
            rw [hget', if_neg (by rw [hDi]; simp)]
            exact g2 b (by omega)
      · rcases List.mem_cons.1 hr with rfl | hr
        · rfl
        · exact hI.ex r hr
      · cases pre with
        | nil =>
          simp only [List.nil_append, List.cons.injEq] at hq
          obtain ⟨rfl, rfl⟩ := hq
          exact he.wrIn p hp
        | cons y pre =>
          simp only [List.cons_append, List.cons.injEq] at hq
          exact hI.wr pre r rest hq.2 p hp
      · rcases List.mem_cons.1 hr with rfl | hr
        · right
          intro x hx hxw hne
          rcases List.mem_cons.1 hx with rfl | hx
          · exact absurd rfl hne
          · have := hI.dp.idx x hx
            rw [if_pos (show x.i < i by omega)]
            exact .inl (hI.sw (bitM ms i) hseen x hx hxw)
        · by_cases hfree : FreeR r
          · exact .inl hfree
          · right
            intro x hx hxw hne
            have hord := (hI.ord r hr).resolve_left hfree
            rcases List.mem_cons.1 hx with rfl | hx
            · have := hI.dp.idx r hr
              rw [if_neg (show ¬ i < r.i by omega)]
              rcases fullX_of hI.dp (hw (hsw hxw)) r hr with q | q | q
              · exact .inl q
              · exact absurd q hfree
              · obtain ⟨l1, l2, j, s, b, l3, l4, l5, l6⟩ := q
                obtain ⟨eb, b', v0, m1, m2, m3, m4⟩ := hI.lds j s r b l4 l3 l5
                refine .inr ⟨l1, l2, b', m3, fun p hp hpe => ?_⟩
                obtain ⟨q, hq, blk, eb2, v2, n1, n2, n3⟩ := he.wrAt p hp
                have hseenA : seenM (fun _ => true) srecs = true := seenM_all srecs
                obtain ⟨g1, _⟩ := hI.at_ (fun _ => true) hseenA
                rw [sheapM_full hI.dp (hw (hsw hxw))] at n1
                obtain ⟨blk1, hb1⟩ := Option.isSome_iff_exists.1 m4
                exact l6 q hq (g1.inj q.1 b blk blk1 eb2 eb b' v2 v0 n1 hb1 n2 m1 (by rw [n3, hpe]) m2)
            · exact hord x hx hxw hne
      · -- lds: the new record by hld, the elder by hI.lds, he.act; presence through sapply
        have grow : (sget (sheapM H0 (fun _ => true) srecs) b).isSome = true → (sget (sheapM H0 (fun _ => true) (⟨nx, se, fr, ld⟩ :: srecs)) b).isSome = true := by
          intro q
          show (sget (sapply (sheapM H0 (fun _ => true) srecs) nx se) b).isSome = true
          exact sapply_some q
        cases j with
        | zero =>
          simp only [List.getElem?_cons_zero, Option.some.injEq] at hs hr
          subst hs; subst hr
          obtain ⟨_, eb, b', v0, m1, m2, m3, m4⟩ := hld b hb
          obtain ⟨eb', v1, n1, n2⟩ := he.act b eb b' v0 m1 m2
          exact ⟨eb', b', v1, n1, n2, m3, grow (sheapM_some m4)⟩
        | succ j =>
          simp only [List.getElem?_cons_succ] at hs hr
          obtain ⟨eb, b', v0, m1, m2, m3, m4⟩ := hI.lds j s r b hs hr hb
          obtain ⟨eb', v1, n1, n2⟩ := he.act b eb b' v0 m1 m2
          exact ⟨eb', b', v1, n1, n2, m3, grow m4⟩
      · obtain ⟨hD1, hD2⟩ := andT (show ((bif se.w then D (rlen srecs) && fullX D se.wr srecs else true) && seenM D srecs) = true from hD)
        rcases List.mem_cons.1 hx with rfl | hx
        · rw [hsw hxw] at hD1
          have := (andT hD1).1
          rwa [rlen_eq, hi] at this
        · exact hI.sw D hD2 x hx hxw
    cases hw : wantedV ops tv o with
    | false =>
      rw [hw] at h1
      simp only [cond_false] at h1
      have hn := push false true none (SEff.pure (.tup [])) (Eff.pure (.tup [])) ε (ER.pure undef_rv) (fun q => by cases q) (fun _ => ⟨rfl, .inl rfl⟩) (fun b q => by cases q)
      obtain ⟨tv', nxv', recs', ⟨N, k1⟩, ε', t', nx', srecs', k2, k3, k4⟩ := sfwd_of hC hn (by simp [hi]) h1
      refine ⟨tv', nxv', recs', ⟨N, fun n hN => ?_⟩, ε', t', nx', srecs', k2, k3, k4⟩
      rw [fwd, hw]
      exact k1 n hN
    | true =>
      rw [hw] at h1
      simp only [cond_true] at h1
      split at h1
      · cases h1
      · rename_i hs
        have hsn := sharedS_none ht1 hs h1
        obtain ⟨g1, g2⟩ := hI.at_ (bitM ms i) hseen
        obtain ⟨se, e, ε1, k1, ⟨N1, k2⟩, k3⟩ := sop_of hC g1 ht1 hI.fs (vbase := nxv) h1
        obtain ⟨hfull, k1⟩ := bif_of k1
        have hn := push true (freeOp o && se.nil) (bif se.nil then loadSB (sheapM H0 (bitM ms i) srecs) t1 o else none) se e ε1 k3 (fun q => by rw [q] at hfull; exact hfull) (fun q => ⟨(andT q).2, .inr (andT q).1⟩) (fun b q => by
          cases hn : se.nil with
          | false => rw [hn] at q; cases q
          | true => rw [hn] at q; exact ⟨rfl, loadSB_of g1 ht1 q⟩)
        obtain ⟨tv', nxv', recs', ⟨N2, j1⟩, ε', t', nx', srecs', j2, j3, j4⟩ := sfwd_of hC hn (by simp [hi]) k1
        refine ⟨tv', nxv', recs', ⟨max N1 N2, fun n hN => ?_⟩, ε', t', nx', srecs', k3.ex.trans j2, j3, j4⟩
        rw [fwd, hw]
        simp only [if_true, stepE, hsn, opE_eq, k2 n (by omega)]
        exact j1 n (by omega)

theorem sdraw_of {call : SCall} (hC : SCallOK call (fun n => callI P cf (exec P cf n))) {ops : List Oper} {K : SSt → Prop} {ss : SSt} {s : St} {ε : Nat → Option BE} (hr : RSt ε ss s) (h : sdraw sx P cf call ops ss K) :
    ∃ s', (∃ N, ∀ n, N ≤ n → runDraw P cf (callI P cf (exec P cf n)) (callS P (exec P cf n)) ops s.t s.H s.nx = some (s'.t, s'.H, s'.nx)) ∧ ∃ ε' ss', EX ε ε' ∧ RSt ε' ss' s' ∧ K ss' := by
  unfold sdraw at h
  obtain ⟨hd, h⟩ := bif_of h
  have h0 : DInv (masks ops []) ss.H s.H ε ss.t s.t ss.nx s.nx [] [] :=
    ⟨hr.t, hr.fs, .nil, fun D _ => ⟨hr.H, hr.fv⟩, fun r hr => (by cases hr), fun pre r rest hq => (by cases pre <;> cases hq), fun r hr => (by cases hr), fun j s r b hs => (by simp at hs), fun D _ x hx => (by cases hx)⟩
  obtain ⟨tv', nxv', recs', ⟨N, k1⟩, ε', t', nx', srecs', k2, k3, k4⟩ := sfwd_of hC h0 rfl h
  have hall : seenM (fun _ => true) srecs' = true := seenM_all srecs'
  obtain ⟨g1, g2⟩ := k3.at_ _ hall
  refine ⟨⟨tv', heapOf s.H (fun _ => true) recs', nxv'⟩, ⟨N, fun n hn => ?_⟩, ε', _, k2, ⟨k3.t, g1, k3.fs, g2⟩, k4⟩
  unfold runDraw
  rw [if_pos hd, show fwd P cf (callI P cf (exec P cf n)) (callS P (exec P cf n)) ops (masks ops []) s.H ops 0 s.t s.nx [] = some (tv', nxv', recs') from k1 n hn]
  simp only
  rw [if_pos (by rw [chk_of k3.ex k3.wr k3.ord recs' [] rfl]; simp)]
end
end
end Go.Proofs.Ytifgifhbefhkmaa.VM
