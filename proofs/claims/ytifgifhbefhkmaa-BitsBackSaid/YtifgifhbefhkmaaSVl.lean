/- Values with labels: a call. No conditions. -/
import Derived.Test.YtifgifhbefhkmaaSVk
namespace Go.Proofs.Ytifgifhbefhkmaa.VM
set_option linter.unusedSimpArgs false
set_option linter.unusedVariables false
open Go Go.RowKit
noncomputable section
section
variable {P : Program} {ε : Nat → Option BE} {H : SHeap} {L : Heap} {t : List SV} {tv : List V} {base vbase : Nat} {cx : SCfg}

def noE : Nat → Option BE := fun _ => none
/-- What a call with labels tells of one that is carried out. -/
def SCallOK (call : SCall) (C : Nat → CallF) : Prop :=
  ∀ f base as K, call f base as K → ∀ as', RL noE as as' → ∀ vbase, ∃ rv blks srv sblks, (∃ N, ∀ n, N ≤ n → C n f vbase as' = some (rv, blks)) ∧ K srv sblks ∧ NewR (newsE noE base vbase sblks.length) sblks blks ∧ RV (newsE noE base vbase sblks.length) srv rv
theorem newsE_cur {n : Nat} : ∀ b e, newsE noE base vbase n b = some e → e.sv = 0 ∧ ∃ p, e.act = some p := by
  intro b e h
  unfold newsE at h
  split at h
  · cases h; exact ⟨rfl, _, rfl⟩
  · cases h
theorem newR_alias (hcur : ∀ b e, ε b = some e → e.sv = 0 ∧ ∃ p, e.act = some p) {sblks : List SBlk} {blks : List Blk} (h : NewR ε sblks blks)
    (hs : (sblks.any (fun b => match b.cells with | .lit l => saliasL (salias 50) l | .rows _ _ _ fl _ => !fl)) = false) : blks.any (fun b => aliasL (alias 60) b.cells) = false := by
  induction h with
  | nil => rfl
  | @cons s b ss bs g1 g2 g3 g4 g5 g6 g7 _ ih =>
    simp only [List.any_cons, Bool.or_eq_false_iff] at hs ⊢
    refine ⟨?_, ih hs.2⟩
    cases hq : s.cells with
    | lit l =>
      rw [hq] at g7 hs
      exact aliasL_of (show RL ε l b.cells from g7) (fun s _ v r hs => salias_of hcur 50 59 s v (by omega) r hs) hs.1
    | rows e k d fl xs =>
      rw [hq] at g7 hs g1
      have hfl : fl = true := by simpa using hs.1
      subst hfl
      exact flat_alias g1 g7 59
theorem scallE_of {call : SCall} {C : Nat → CallF} (hC : SCallOK call C) (hH : RH ε H L) (hf : ∀ b, base ≤ b → ε b = none) {f : FuncId} {vs : List SV} {vs' : List V} (hvs : RL ε vs vs') {K : SEff → Prop} (h : scallE call H base f vs K) :
    ∃ se e ε', K se ∧ (∃ N, ∀ n, N ≤ n → callE (C n) L vbase f vs' = some e) ∧ ER ε ε' H L base vbase se e := by
  unfold scallE at h
  obtain ⟨ss, rs, ws, rs', h1, h2, h3, h4⟩ := sreifyL_of (fun s v K r hk => sreify_of hH 50 60 s v K (by omega) r hk) hvs h
  obtain ⟨rv, blks, srv, sblks, ⟨N, hN⟩, h5, h6, h7⟩ := hC f base ss _ h1 ws (h3 _) vbase
  generalize hsal : (salias 50 srv || sblks.any (fun b => match b.cells with | .lit l => saliasL (salias 50) l | .rows _ _ _ fl _ => !fl)) = sal at h5
  have hcur := newsE_cur (base := base) (vbase := vbase) (n := sblks.length)
  have hal : sal = false → callAl rs' rv blks = true → rs' = [] := by
    intro hs hc
    subst hs
    simp only [Bool.or_eq_false_iff] at hsal
    have a1 := salias_of hcur 50 59 srv rv (by omega) h7 hsal.1
    have a2 := newR_alias hcur h6 hsal.2
    unfold callAl at hc
    rw [a1, a2, Bool.or_false, Bool.or_false] at hc
    exact List.isEmpty_iff.1 hc
  -- what is written no more
  have hz' : ∀ b' ∈ (if callAl rs' rv blks then rs' else []), b' ∈ rs' := fun b' hb => by split at hb; exact hb; cases hb
  obtain ⟨wr', k1, k2, k3⟩ := freezeL_get (L := L) (rs := if callAl rs' rv blks then rs' else []) fun b hb => (h4.2 b (hz' b hb)).1
  split at h5
  · rename_i wr hwr
    refine ⟨_, ⟨rv, wr', blks⟩, _, h5, ⟨N, fun n hn => ?_⟩, call_er hH hf hwr k3 k2 (fun b' hb => ?_) (fun b hb => ?_) (fun hrs => ?_) h6 h7⟩
    · simp only [callE, h2, hN n hn, k1]
    · obtain ⟨g1, g2⟩ := h4.2 b' (hz' b' hb)
      refine ⟨g1, ?_⟩
      cases sal with
      | true => exact g2
      | false =>
        split at hb
        · rename_i hc
          rw [hal rfl hc] at hb
          cases hb
        · cases hb
    · cases sal with
      | true => exact h4.1 b hb
      | false => cases hb
    · have hz : (if callAl rs' rv blks then rs' else []) = [] := by
        apply List.eq_nil_iff_forall_not_mem.2
        intro b' hb
        cases sal with
        | true =>
          have hrs' : rs = [] := hrs
          obtain ⟨_, b, hb2, _⟩ := h4.2 b' (hz' b' hb)
          rw [hrs'] at hb2
          cases hb2
        | false =>
          split at hb
          · rename_i hc
            rw [hal rfl hc] at hb
            cases hb
          · cases hb
      rw [hz] at k1
      cases k1
      rfl
  · cases h5

theorem resolveS_of (ht : RL ε t tv) {c : Call} {f : FuncId} {vs : List SV} (h : resolveS P t c = some (f, vs)) : ∃ vs', resolveV P tv c = some (f, vs') ∧ RL ε vs vs' := by
  unfold resolveS at h
  split at h
  · rename_i ws hws
    obtain ⟨ws', h1, h2⟩ := evalSL_rel ht hws
    unfold resolveV
    rw [h1]
    simp only
    cases hc : c.callee with
    | value x =>
      rw [hc] at h
      simp only at h ⊢
      split at h
      · rename_i g fi ca hx
        split at h
        · rename_i hok
          cases h
          obtain ⟨v', h3, h4⟩ := evalS_rel ht hx
          cases h4 with
          | func _ q1 q2 =>
            rw [h3]
            simp only
            rw [if_pos hok]
            exact ⟨_, rfl, (q1.append h2).append q2⟩
        · cases h
      · cases h
    | invoke x name =>
      rw [hc] at h
      simp only at h ⊢
      split at h
      · rename_i ty v hx
        split at h
        · rename_i g hm
          split at h
          · rename_i hok
            cases h
            obtain ⟨v', h3, h4⟩ := evalS_rel ht hx
            cases h4 with
            | iface _ q =>
              rw [h3]
              simp only [hm]
              rw [if_pos hok]
              exact ⟨_, rfl, .cons q h2⟩
          · cases h
        · cases h
      · cases h
    | builtin b => rw [hc] at h; cases h
  · cases h
end
end
end Go.Proofs.Ytifgifhbefhkmaa.VM
