/- Values with labels: results, calls, and the machine. No conditions. -/
import Derived.Test.YtifgifhbefhkmaaSVw
namespace Go.Proofs.Ytifgifhbefhkmaa.VM
set_option linter.unusedSimpArgs false
set_option linter.unusedVariables false
open Go Go.RowKit
noncomputable section
section
variable {P : Program} {cf : Cfg} {sx : SX}

theorem sresults_of {ε : Nat → Option BE} {H : SHeap} {L : Heap} {t : List SV} {tv : List V} (hH : RH ε H L) (ht : RL ε t tv) : ∀ {rs : List ResultVar} {K : List SV → Prop}, sresults P t H rs K → ∃ vs vs', K vs ∧ mapO (resV P tv L) rs = some vs' ∧ RL ε vs vs'
  | [], K, h => ⟨[], [], h, rfl, .nil⟩
  | .tmp i :: r, K, h => by
    obtain ⟨vs, vs', h1, h2, h3⟩ := sresults_of hH ht (show sresults P t H r _ from h)
    exact ⟨_, nth tv i :: vs', h1, by simp [mapO, resV, h2], .cons (snth_rel ht i) h3⟩
  | .cell a ty :: r, K, h => by
    obtain ⟨s, w, g1, g2, g3⟩ := loadS_of hH (snth_rel ht a) (show loadS P H ty (snth t a) _ from h)
    obtain ⟨vs, vs', h1, h2, h3⟩ := sresults_of hH ht g1
    exact ⟨_, w :: vs', h1, by simp [mapO, resV, g2, h2], .cons g3 h3⟩
theorem sresult_rel {ε : Nat → Option BE} {vs : List SV} {vs' : List V} (h : RL ε vs vs') {fn : Func} {tv : List V} {L : Heap} (hm : mapO (resV P tv L) fn.results.toList = some vs') : ∃ v, resultsV P fn tv L = some v ∧ RV ε (sresult vs) v := by
  unfold resultsV
  rw [hm]
  cases h with
  | nil => exact ⟨_, rfl, .tup .nil⟩
  | cons r s => cases s with
    | nil => exact ⟨_, rfl, r⟩
    | cons r2 s2 => exact ⟨_, rfl, .tup (.cons r (.cons r2 s2))⟩
theorem sframe_rel {ε : Nat → Option BE} {fn : Func} {vs : List SV} {vs' : List V} (h : RL ε vs vs') : RL ε (sframe fn vs) (frame fn vs') := by
  unfold sframe frame
  rw [slen_eq, h.length]
  refine h.append ?_
  generalize fn.ntmps - vs'.length = m
  induction m with
  | zero => exact .nil
  | succ m ih => rw [List.replicate_succ, List.replicate_succ]; exact .cons undef_rv ih
theorem RH.empty : RH noE [] [] := ⟨fun b blk h => (by cases h), fun b1 b2 blk1 blk2 e1 e2 c v1 v2 h => (by cases h)⟩
theorem newsE_zero {base vbase : Nat} : newsE noE base vbase 0 = noE := by
  funext b
  unfold newsE
  rw [if_neg (by omega)]

theorem scallI_of {ih : SExec} (hsx : SXOK P cf sx) (hih : SExecOK P cf ih) : SCallOK (scallI sx P cf ih) (fun n => callI P cf (exec P cf n)) := by
  intro f base as K h as' has vbase
  unfold scallI at h
  split at h
  · rename_i C hct
    exact hsx.ct f C hct base as K h as' has vbase
  · split at h
    · cases h
    · rename_i hext
      split at h
      · rename_i fn c hb
        obtain ⟨ex, s', ⟨N, hN⟩, ε', ss', h1, h2, h3⟩ := hih c _ _ h noE ⟨frame fn as', [], 0⟩ ⟨sframe_rel has, RH.empty, fun _ _ => rfl, fun _ _ => rfl⟩
        have hne : ∀ i, ex ≠ .exit i := by
          intro i q
          subst q
          cases h3
        have h4 : sresults P ss'.t ss'.H fn.results.toList fun vs => bif cf.thaw f then sexportT ss'.H base (sresult vs) K else sreify ss'.H true 50 (sresult vs) fun v _ => K v [] := by
          cases ex with
          | exit i => exact absurd rfl (hne i)
          | normal => exact h3
          | ret => exact h3
        obtain ⟨vs, vs', k1, k2, k3⟩ := sresults_of h2.H h2.t h4
        obtain ⟨v, k4, k5⟩ := sresult_rel k3 k2
        have hcall : ∀ n, N ≤ n → callI P cf (exec P cf n) f vbase as' = if cf.thaw f then exportT s'.H vbase v else exportI s'.H v := by
          intro n hn
          unfold callI
          rw [hext]
          simp only [hb, hN n hn]
          cases ex with
          | exit i => exact absurd rfl (hne i)
          | normal => simp only [k4]
          | ret => simp only [k4]
        cases hth : cf.thaw f with
        | true =>
          rw [hth] at k1
          simp only [cond_true] at k1
          obtain ⟨w, blks, s, ss, g1, g2, g3, g4⟩ := sexportT_of (vbase := vbase) h2.H k5 k1
          refine ⟨w, blks, s, ss, ⟨N, fun n hn => ?_⟩, g2, g3, g4⟩
          show callI P cf (exec P cf n) f vbase as' = _
          rw [hcall n hn, hth]
          simp only [if_true, g1]
        | false =>
          rw [hth] at k1
          simp only [cond_false] at k1
          obtain ⟨s, rs, w, rs', g1, g2, g3, g4⟩ := sreify_of h2.H 50 60 _ _ _ (by omega) k5 k1
          refine ⟨w, [], s, [], ⟨N, fun n hn => ?_⟩, g1, .nil, g3 _⟩
          show callI P cf (exec P cf n) f vbase as' = _
          rw [hcall n hn, hth]
          simp only [Bool.false_eq_true, if_false, exportI, g2]
      · cases h
theorem scallS_of {ih : SExec} (hih : SExecOK P cf ih) : SShareOK P cf (scallS P ih) := by
  intro f vs H nx K h ε vs' L nxv hvs hH hfs hfv
  unfold scallS at h
  split at h
  · rename_i fn c hb
    obtain ⟨ex, s', ⟨N, hN⟩, ε', ss', h1, h2, h3⟩ := hih c _ _ h ε ⟨frame fn vs', L, nxv⟩ ⟨sframe_rel hvs, hH, hfs, hfv⟩
    have hne : ∀ i, ex ≠ .exit i := by
      intro i q
      subst q
      cases h3
    have h4 : sresults P ss'.t ss'.H fn.results.toList fun vs => K (sresult vs) ss'.H ss'.nx := by
      cases ex with
      | exit i => exact absurd rfl (hne i)
      | normal => exact h3
      | ret => exact h3
    obtain ⟨rs, rs', k1, k2, k3⟩ := sresults_of h2.H h2.t h4
    obtain ⟨v, k4, k5⟩ := sresult_rel k3 k2
    refine ⟨v, s'.H, s'.nx, ⟨N, fun n hn => ?_⟩, ε', sresult rs, ss'.H, ss'.nx, h1, k5, h2.H, h2.fs, h2.fv, k1⟩
    unfold callS
    rw [hb]
    simp only [hN n hn]
    cases ex with
    | exit i => exact absurd rfl (hne i)
    | normal => simp only [k4]
    | ret => simp only [k4]
  · cases h

theorem know_rel {ε : Nat → Option BE} {ss : SSt} {s : St} (hr : RSt ε ss s) {c : Operand} {b : Bool} (h : evalV s.t c = some (.bool b)) : RSt ε (ss.know c b) s := by
  unfold SSt.know
  split
  · rename_i i
    refine ⟨?_, hr.H, hr.fs, hr.fv⟩
    simp only [evalV, Option.some.injEq] at h
    show RL ε (ssetn ss.t i (.bool (.lit b))) s.t
    rw [ssetn_eq]
    by_cases hi : i < s.t.length
    · have h1 := hr.t.set i (.bool (.lit b) b (by simp [SB.holds]))
      have : s.t.set i (.bool b) = s.t := by
        rw [← h, nth_eq, List.getD_eq_getElem?_getD, List.getElem?_eq_getElem hi]
        simp
      rwa [this] at h1
    · have hl := hr.t.length
      rw [List.set_eq_of_length_le (show ss.t.length ≤ i by rw [hl]; exact Nat.not_lt.1 hi)]
      exact hr.t
  · exact hr
theorem runs_succ {c : Code} {s : St} {ex : Ex} {s' : St} (h : ∃ N, ∀ n, N ≤ n → execStep P cf n (exec P cf n) c s = some (ex, s')) : Runs P cf c s ex s' := by
  obtain ⟨N, hN⟩ := h
  refine ⟨N + 1, fun n hn => ?_⟩
  obtain ⟨m, rfl⟩ : ∃ m, n = m + 1 := ⟨n - 1, by omega⟩
  exact hN m (by omega)
theorem siter_of {f : SSt → SKont → Prop} {body : Code} (hf : ∀ ss K, f ss K → SWP P cf body ss K) : ∀ (n : Nat) (ss : SSt) (K : SKont), siter f n ss K → ∀ ε s, RSt ε ss s → ∃ m ex s', (∃ N, ∀ k, N ≤ k → ∀ j, m ≤ j → iterN (exec P cf k body) j s = some (ex, s')) ∧ ∃ ε' ss', EX ε ε' ∧ RSt ε' ss' s' ∧ K ex ss'
  | 0, _, _, h, _, _, _ => by cases h
  | n + 1, ss, K, h, ε, s, hr => by
    obtain ⟨ex, s1, ⟨N1, hN1⟩, ε1, ss1, h1, h2, h3⟩ := hf ss _ h ε s hr
    have stop : ex ≠ .normal → K ex ss1 → ∃ m ex s', (∃ N, ∀ k, N ≤ k → ∀ j, m ≤ j → iterN (exec P cf k body) j s = some (ex, s')) ∧ ∃ ε' ss', EX ε ε' ∧ RSt ε' ss' s' ∧ K ex ss' := by
      intro hne hK
      refine ⟨1, ex, s1, ⟨N1, fun k hk j hj => ?_⟩, ε1, ss1, h1, h2, hK⟩
      obtain ⟨i, rfl⟩ : ∃ i, j = i + 1 := ⟨j - 1, by omega⟩
      show onward (exec P cf k body s) (iterN (exec P cf k body) i) = _
      rw [hN1 k hk]
      cases ex <;> first | rfl | exact absurd rfl hne
    cases ex with
    | normal =>
      obtain ⟨m, ex, s', ⟨N2, hN2⟩, ε', ss', g1, g2, g3⟩ := siter_of hf n ss1 K h3 ε1 s1 h2
      refine ⟨m + 1, ex, s', ⟨max N1 N2, fun k hk j hj => ?_⟩, ε', ss', h1.trans g1, g2, g3⟩
      obtain ⟨i, rfl⟩ : ∃ i, j = i + 1 := ⟨j - 1, by omega⟩
      show onward (exec P cf k body s) (iterN (exec P cf k body) i) = _
      rw [hN1 k (by omega)]
      exact hN2 k (by omega) i (by omega)
    | exit i => exact stop (fun q => by cases q) h3
    | ret => exact stop (fun q => by cases q) h3

theorem forceN_eq (a : Nat) (K : Nat → Prop) : forceN a K = K a := by cases a <;> rfl
theorem forceB_eq (b : Bool) (K : Bool → Prop) : forceB b K = K b := by cases b <;> rfl
theorem forceI_eq (n : Int) (K : Int → Prop) : forceI n K = K n := by
  cases n with
  | ofNat a => exact forceN_eq a fun a => K (.ofNat a)
  | negSucc a => exact forceN_eq a fun a => K (.negSucc a)
theorem forceSN_eq (n : SN) (K : SN → Prop) : forceSN n K = K n := by
  cases n with
  | lit a => exact forceN_eq a fun a => K (.lit a)
  | sym a => rfl
theorem forceVL_eq {f : SV → (SV → Prop) → Prop} (hf : ∀ v K, f v K = K v) : ∀ (l : List SV) (K : List SV → Prop), forceVL f l K = K l
  | [], _ => rfl
  | v :: r, K => by rw [forceVL, hf, forceVL_eq hf r]
theorem forceC_eq {f : SV → (SV → Prop) → Prop} (hf : ∀ v K, f v K = K v) (c : SC) (K : SC → Prop) : forceC f c K = K c := by
  cases c with
  | lit l => exact forceVL_eq hf l _
  | rows => rfl
theorem forceV_eq : ∀ (n : Nat) (v : SV) (K : SV → Prop), forceV n v K = K v
  | 0, _, _ => rfl
  | n + 1, v, K => by
    have ih := forceV_eq n
    cases v <;> simp only [forceV]
    case int k i => cases i with
      | lit m => exact forceI_eq _ _
      | sym e => rfl
    case bool b => cases b with
      | lit m => exact forceB_eq _ _
      | sym e => rfl
    case agg cs => exact forceVL_eq ih _ _
    case tup cs => exact forceVL_eq ih _ _
    case iface t v => exact ih _ _
    case func fn a b => rw [forceVL_eq ih, forceVL_eq ih]
    case ptrI => rw [forceB_eq, forceB_eq, forceC_eq ih]
    case ptrB => rw [forceN_eq, forceSN_eq, forceN_eq, forceN_eq, forceN_eq]
    case slI => rw [forceB_eq, forceC_eq ih, forceSN_eq, forceB_eq]
    case slB => rw [forceN_eq, forceSN_eq, forceN_eq, forceN_eq, forceSN_eq]
theorem forceH_eq : ∀ (H : SHeap) (K : SHeap → Prop), forceH H K = K H
  | [], _ => rfl
  | (b, x) :: r, K => by rw [forceH, forceN_eq, forceC_eq (forceV_eq 12), forceN_eq, forceN_eq, forceB_eq, forceB_eq, forceH_eq r]
theorem force_eq (st : SSt) (K : SSt → Prop) : st.force K = K st := by rw [SSt.force, forceVL_eq (forceV_eq 12), forceH_eq, forceN_eq]
/-- What the machine with labels says is so. -/
theorem sexec_of (hsx : SXOK P cf sx) : ∀ n, SExecOK P cf (sexec sx P cf n)
  | 0 => fun c ss K h => by cases h
  | n + 1 => by
    have hih := sexec_of hsx n
    have hC := scallI_of hsx hih
    have hS := scallS_of hih
    intro c ss K h ε s hr
    have h' : sexecStep sx P cf n (sexec sx P cf n) c ss K := h
    clear h
    unfold sexecStep at h'
    cases c <;> simp only at h' <;> try (cases h'; done)
    case skip => exact ⟨.normal, s, runs_succ ⟨0, fun n _ => rfl⟩, ε, ss, EX.refl ε, hr, h'⟩
    case label l => exact ⟨.normal, s, runs_succ ⟨0, fun n _ => rfl⟩, ε, ss, EX.refl ε, hr, h'⟩
    case region id ops draw =>
      cases draw with
      | true =>
        obtain ⟨s', ⟨N, hN⟩, ε', ss', g1, g2, g3⟩ := sdraw_of hC hr h'
        rw [force_eq] at g3
        refine ⟨.normal, s', runs_succ ⟨N, fun n hn => ?_⟩, ε', ss', g1, g2, g3⟩
        simp only [execStep, execRegion, if_true, hN n hn]
      | false =>
        obtain ⟨s', ⟨N, hN⟩, ε', ss', g1, g2, g3⟩ := sseq_of hC hS hr h'
        rw [force_eq] at g3
        refine ⟨.normal, s', runs_succ ⟨N, fun n hn => ?_⟩, ε', ss', g1, g2, g3⟩
        simp only [execStep, execRegion, Bool.false_eq_true, if_false, hN n hn]
    case seq x y =>
      obtain ⟨ex, s1, ⟨N1, hN1⟩, ε1, ss1, g1, g2, g3⟩ := hih x ss _ h' ε s hr
      cases ex with
      | normal =>
        obtain ⟨ex, s2, ⟨N2, hN2⟩, ε2, ss2, k1, k2, k3⟩ := hih y ss1 K g3 ε1 s1 g2
        refine ⟨ex, s2, runs_succ ⟨max N1 N2, fun n hn => ?_⟩, ε2, ss2, g1.trans k1, k2, k3⟩
        simp only [execStep, hN1 n (by omega), onward]
        exact hN2 n (by omega)
      | exit i => exact ⟨_, s1, runs_succ ⟨N1, fun n hn => by simp only [execStep, hN1 n hn, onward]⟩, ε1, ss1, g1, g2, g3⟩
      | ret => exact ⟨_, s1, runs_succ ⟨N1, fun n hn => by simp only [execStep, hN1 n hn, onward]⟩, ε1, ss1, g1, g2, g3⟩
    case cond c x y =>
      have go : ∀ (b : Bool), evalV s.t c = some (.bool b) → SWP P cf (if b then x else y) (ss.know c b) K ∨ SWP P cf (if b then x else y) ss K → ∃ ex s', Runs P cf (.cond c x y) s ex s' ∧ ∃ ε' ss', EX ε ε' ∧ RSt ε' ss' s' ∧ K ex ss' := by
        intro b hb hh
        have : ∃ ex s', Runs P cf (if b then x else y) s ex s' ∧ ∃ ε' ss', EX ε ε' ∧ RSt ε' ss' s' ∧ K ex ss' := by
          rcases hh with hh | hh
          · exact hh ε s (know_rel hr hb)
          · exact hh ε s hr
        obtain ⟨ex, s', ⟨N, hN⟩, rest⟩ := this
        refine ⟨ex, s', runs_succ ⟨N, fun n hn => ?_⟩, rest⟩
        simp only [execStep, execCond, hb]
        exact hN n hn
      split at h'
      · rename_i b hb
        obtain ⟨v, e1, e2⟩ := evalS_rel hr.t hb
        cases e2 with
        | bool _ d hd =>
          have : d = b := by simp only [SB.holds] at hd; cases d <;> cases b <;> simp_all
          subst this
          refine go d e1 (.inr ?_)
          cases d with
          | true => exact hih x ss K h'
          | false => exact hih y ss K h'
      · rename_i p hb
        obtain ⟨v, e1, e2⟩ := evalS_rel hr.t hb
        cases e2 with
        | bool _ d hd =>
          refine go d e1 (.inl ?_)
          cases d with
          | true => exact hih x _ K (h'.1 (hd.1 rfl))
          | false => exact hih y _ K (h'.2 (fun q => by have := hd.2 q; cases this))
      · cases h'
    case block id body =>
      obtain ⟨ex, s1, ⟨N1, hN1⟩, ε1, ss1, g1, g2, g3⟩ := hih body ss _ h' ε s hr
      cases ex with
      | normal => exact ⟨_, s1, runs_succ ⟨N1, fun n hn => by simp only [execStep, execBlock, hN1 n hn]⟩, ε1, ss1, g1, g2, g3⟩
      | ret => exact ⟨_, s1, runs_succ ⟨N1, fun n hn => by simp only [execStep, execBlock, hN1 n hn]⟩, ε1, ss1, g1, g2, g3⟩
      | exit i =>
        simp only at g3
        cases hq : Nat.beq i id with
        | true =>
          rw [hq] at g3
          have := Nat.eq_of_beq_eq_true hq
          exact ⟨.normal, s1, runs_succ ⟨N1, fun n hn => by simp only [execStep, execBlock, hN1 n hn]; rw [if_pos this]⟩, ε1, ss1, g1, g2, g3⟩
        | false =>
          rw [hq] at g3
          have : i ≠ id := fun e => by subst e; simp at hq
          exact ⟨.exit i, s1, runs_succ ⟨N1, fun n hn => by simp only [execStep, execBlock, hN1 n hn]; rw [if_neg this]⟩, ε1, ss1, g1, g2, g3⟩
    case loop body =>
      split at h'
      · rename_i L hL
        obtain ⟨i, _, hi⟩ := Option.bind_eq_some_iff.1 hL
        have := hsx.loop i L hi ss K h'.2 ε s hr
        have hb : loopBody P L.f L.k = body := h'.1.eq
        rw [hb] at this
        exact this
      · obtain ⟨m, ex, s', ⟨N, hN⟩, rest⟩ := siter_of (fun ss K h => hih body ss K h) n ss K h' ε s hr
        refine ⟨ex, s', runs_succ ⟨max N m, fun k hk => ?_⟩, rest⟩
        simp only [execStep]
        exact hN k (by omega) k (by omega)
    case scope body =>
      obtain ⟨ex, s1, ⟨N1, hN1⟩, rest⟩ := hih body ss K h' ε s hr
      exact ⟨ex, s1, runs_succ ⟨N1, fun n hn => by simp only [execStep, hN1 n hn]⟩, rest⟩
    case exit id => exact ⟨.exit id, s, runs_succ ⟨0, fun n _ => rfl⟩, ε, ss, EX.refl ε, hr, h'⟩
    case ret => exact ⟨.ret, s, runs_succ ⟨0, fun n _ => rfl⟩, ε, ss, EX.refl ε, hr, h'⟩
end
end
end Go.Proofs.Ytifgifhbefhkmaa.VM
