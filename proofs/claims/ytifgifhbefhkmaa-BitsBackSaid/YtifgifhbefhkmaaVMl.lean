/- The machine of values: slicing, conversions. No conditions. -/
import Derived.Test.YtifgifhbefhkmaaVMk
namespace Go.Proofs.Ytifgifhbefhkmaa.VM
set_option linter.unusedSimpArgs false
set_option linter.unusedVariables false
open Go Go.RowKit
noncomputable section
section
variable {P : Program} {E : Env} {a : Act} {o : Oper} {base : Nat} {t : List V} {L : Heap}

theorem optV_rel (ht : RelL E t a.tmps.toList) {x : Option Operand} {r : Option Int} (h : optV t x = some r) : ∃ k, x.map a.eval = r.map (Value.int k) := by
  unfold optV at h
  split at h
  · cases h; exact ⟨.i64, rfl⟩
  · rename_i y
    split at h
    · rename_i v hv
      have rv := evalV_rel ht hv
      cases v <;> simp only [intV] at h <;> try cases h
      rename_i k n
      generalize hcx : a.eval y = cx at rv
      cases rv
      exact ⟨k, by simp [hcx]⟩
    · cases h

theorem slice_run {ty e : TypeId} {A : Option Addr} {n cap k l h m : Nat} {kl kh km : IntKind} {lo hi mx : Option Int} {w : World} (hu : P.underlying ty = some (.slice e)) (hsz : ∀ w, (sizeOf e).run P w = .ok k w)
    (hlo : lo.getD 0 = (l : Int)) (hhi : hi.getD n = (h : Int)) (hmx : mx.getD cap = (m : Int)) (h1 : l ≤ h) (h2 : h ≤ m) (h3 : m ≤ cap) (h4 : mx.isSome → hi.isSome) :
    (Instr.sliceAt ty (.slice A n cap) (lo.map (Value.int kl)) (hi.map (Value.int kh)) (mx.map (Value.int km))).run P w = .ok (.slice (if m = l then A else A.map (·.add (l * k))) (h - l) (m - l)) w := by
  have hlm : l ≤ m := by omega
  have hmc : (m : Int) ≤ (cap : Int) := by omega
  have hhm : (h : Int) ≤ (m : Int) := by omega
  have hlh : (l : Int) ≤ (h : Int) := by omega
  have hhc : (h : Int) ≤ (cap : Int) := by omega
  have go : ∀ (lo' hi' mx' : Option Value), (lo' = none ∧ l = 0 ∨ ∃ k, lo' = some (.int k l)) → (hi' = none ∧ h = n ∧ mx' = none ∨ ∃ k, hi' = some (.int k h)) → (mx' = none ∧ m = cap ∨ ∃ k, mx' = some (.int k m)) →
      (Instr.sliceAt ty (.slice A n cap) lo' hi' mx').run P w = .ok (.slice (if m = l then A else A.map (·.add (l * k))) (h - l) (m - l)) w := by
    rintro lo' hi' mx' (⟨rfl, hl0⟩ | ⟨k1, rfl⟩) (⟨rfl, hh0, hm0⟩ | ⟨k2, rfl⟩) (⟨rfl, hc0⟩ | ⟨k3, rfl⟩)
    all_goals (try (cases hm0))
    all_goals (try subst hc0)
    all_goals (try subst hh0)
    all_goals (try subst hl0)
    all_goals simp [Instr.sliceAt, Instr.slice, run_underlying hu, Instr.sliceBounds, Instr.sliceBound, asIntOf, hsz, h1, h2, h3, hlm, hhc, hlh]
    all_goals (intro hbad; omega)
  refine go _ _ _ ?_ ?_ ?_
  · cases lo with
    | none => exact .inl ⟨rfl, by simp at hlo; omega⟩
    | some v => simp at hlo; exact .inr ⟨kl, by rw [← hlo]; rfl⟩
  · cases hi with
    | none => exact .inl ⟨rfl, by simp at hhi; omega, by cases mx with | none => rfl | some v => simp at h4⟩
    | some v => simp at hhi; exact .inr ⟨kh, by rw [← hhi]; rfl⟩
  · cases mx with
    | none => exact .inl ⟨rfl, by simp at hmx; omega⟩
    | some v => simp at hmx; exact .inr ⟨km, by rw [← hmx]; rfl⟩

theorem cut_sound (hR : HRel E) (hL : Sub L E) (ht : RelL E t a.tmps.toList) {ty e : TypeId} {x : Operand} {lo hi mx : Option Operand} (ho : o.op = .slice ty x lo hi mx)
    (hu : P.underlying ty = some (.slice e)) {g : Bool} {k : Nat} (hz : tySz P e = some (g, k)) {s v : V} (hx : evalV t x = some s) {l h m : Option Int} (hl : optV t lo = some l) (hh : optV t hi = some h) (hm : optV t mx = some m)
    (hv : cutV L k s l h m = some v) : OpSound P E a o base (Eff.pure v) := by
  obtain ⟨_, hsz⟩ := tySz_run hz
  obtain ⟨kl, el⟩ := optV_rel ht hl
  obtain ⟨kh, eh⟩ := optV_rel ht hh
  obtain ⟨km, em⟩ := optV_rel ht hm
  have rs := evalV_rel ht hx
  have run : ∀ {A : Option Addr} {n cap l' h' m' : Nat}, a.eval x = .slice A n cap → l.getD 0 = (l' : Int) → h.getD n = (h' : Int) → m.getD cap = (m' : Int) → l' ≤ h' → h' ≤ m' → m' ≤ cap → (m.isSome → h.isSome) →
      (execOp a.eval o).run P E.w = .ok (.value (.slice (if m' = l' then A else A.map (·.add (l' * k))) (h' - l') (m' - l'))) E.w := by
    intro A n cap l' h' m' hxx h1 h2 h3 h4 h5 h6 h7
    have := slice_run (P := P) (A := A) (w := E.w) (kl := kl) (kh := kh) (km := km) hu hsz h1 h2 h3 h4 h5 h6 h7
    rw [execOp, ho]
    simp [hxx, el, eh, em, this]
  unfold cutV at hv
  simp only at hv
  split at hv
  · cases hv
  · rename_i hl0
    split at hv
    · -- nil
      split at hv
      · rename_i hc
        cases hv
        generalize hcx : a.eval x = cx at rs
        cases rs
        obtain ⟨c1, c2, c3, c4⟩ := hc
        have := run (l' := 0) (h' := 0) (m' := 0) hcx (by omega) (by simpa using c2) (by simpa using c3) (by omega) (by omega) (by omega) c4
        exact opSound_pure hR (by simpa using this) .nilSl
      · cases hv
    · -- not written any more
      rename_i fr cs n tight
      split at hv
      · rename_i hc
        obtain ⟨c1, c2, c3, c4, c5, c6⟩ := hc
        generalize hcx : a.eval x = cx at rs
        have hmm : ∀ {cap : Nat}, n ≤ cap → ∃ m' : Nat, m.getD (cap : Int) = (m' : Int) ∧ (h.getD n).toNat ≤ m' ∧ m' ≤ cap ∧ (∀ mv, m = some mv → m' = (m.getD n).toNat) ∧ (m = none → m' = cap) := by
          intro cap hcap
          cases m with
          | none => exact ⟨cap, rfl, (by simp at c4; omega), Nat.le_refl _, (fun _ h => nomatch h), fun _ => rfl⟩
          | some mv => simp at c2 c4 c5; exact ⟨mv.toNat, (by simp; omega), (by omega), (by omega), (fun _ _ => rfl), (fun h => nomatch h)⟩
        have hnc : ∀ {n' cap : Nat} {A : Option Addr}, Rel E (.slI fr cs n tight) (.slice A n' cap) → n' = n ∧ n ≤ cap ∧ (tight = true → cap = n) := by
          intro n' cap A r
          cases r with
          | slI0 q => exact ⟨rfl, Nat.zero_le _, q⟩
          | slI _ _ h1 h2 _ _ => exact ⟨rfl, h1, h2⟩
        obtain ⟨A, n', cap, rfl⟩ : ∃ A n' cap, cx = .slice A n' cap := by cases rs <;> exact ⟨_, _, _, rfl⟩
        obtain ⟨rfl, hcap, htt⟩ := hnc rs
        obtain ⟨m', m1, m2, m3, m4, m5⟩ := hmm hcap
        have hrun := run (l' := (l.getD 0).toNat) (h' := (h.getD n').toNat) (m' := m') hcx (by omega) (by omega) m1 c3 m2 m3 c6
        have htight : (match m with | some _ => decide ((m.getD (n' : Int)).toNat = (h.getD n').toNat) | none => tight && decide ((h.getD (n' : Int)).toNat = n')) = true → m' - (l.getD 0).toNat = (h.getD n').toNat - (l.getD 0).toNat := by
          cases m with
          | none =>
            intro q
            simp only [Bool.and_eq_true, decide_eq_true_eq] at q
            have := htt q.1
            have := m5 rfl
            omega
          | some mv =>
            intro q
            simp only [decide_eq_true_eq] at q
            have := m4 mv rfl
            omega
        split at hv
        · -- from the first on
          rename_i hl1
          cases hv
          rw [hl1] at hrun htight
          simp only [Nat.zero_mul, Nat.sub_zero] at hrun htight
          have hA : (if m' = 0 then A else A.map (·.add 0)) = A := by
            split
            · rfl
            · cases A <;> simp [Addr.add_zero']
          rw [hA] at hrun
          refine opSound_pure hR hrun ?_
          cases rs with
          | slI0 q =>
            have hh0 : (h.getD ((0 : Nat) : Int)).toNat = 0 := by omega
            generalize (h.getD ((0 : Nat) : Int)).toNat = hh at *
            subst hh0
            exact .slI0 htight
          | slI hs hf hn ht' hr hc => exact .slI hs hf m2 (fun q2 => htight q2) hr hc
        · rename_i hl1
          split at hv
          · rename_i hhl
            cases hv
            have : (h.getD (n' : Int)).toNat - (l.getD 0).toNat = 0 := by omega
            rw [this] at hrun htight
            exact opSound_pure hR hrun (.slI0 htight)
          · rename_i hhl
            cases hv
            have hml : ¬ (m' = (l.getD 0).toNat) := by omega
            rw [if_neg hml] at hrun
            cases rs with
            | slI0 q => omega
            | slI hs hf hn ht' hr hc =>
              rename_i cvs c o'
              simp only [Option.map_some, Addr.add_lit] at hrun
              refine opSound_pure hR hrun (.slI hs hf (by omega) htight (hr.drop _) fun i v hv => ?_)
              rw [List.getElem?_drop] at hv
              have := hc _ v hv
              rwa [← Nat.add_assoc] at this
      · cases hv
    · rename_i b off ver n
      split at hv
      · rename_i blk hb
        split at hv
        · rename_i hc
          obtain ⟨hver, hbk, c1, c2, c3, c4, c5, c6⟩ := hc
          obtain ⟨e0, A, cap, he, hl', hH, hcx, hq⟩ := slB_at hR hL hb hver rs
          have hek : e0.k = k := hl'.2.1.trans hbk
          have hcap : n ≤ cap := by rcases hq with ⟨_, _, _, _, q, _⟩ | ⟨_, q, _⟩ <;> omega
          have hmm : ∃ m' : Nat, m.getD (cap : Int) = (m' : Int) ∧ (h.getD n).toNat ≤ m' ∧ m' ≤ cap ∧ (∀ mv, m = some mv → m' = (m.getD n).toNat) ∧ (m = none → m' = cap) := by
            clear hq
            cases m with
            | none => exact ⟨cap, rfl, (by simp at c4; omega), Nat.le_refl _, (fun _ h => nomatch h), fun _ => rfl⟩
            | some mv => simp at c2 c4 c5; exact ⟨mv.toNat, (by simp; omega), (by omega), (by omega), (fun _ _ => rfl), (fun h => nomatch h)⟩
          obtain ⟨m', m1, m2, m3, m4, m5⟩ := hmm
          have hrun := run (l' := (l.getD 0).toNat) (h' := (h.getD n).toNat) (m' := m') hcx (by clear hq; omega) (by clear hq; omega) m1 c3 m2 m3 c6
          split at hv
          · rename_i hhl
            cases hv
            have : (h.getD (n : Int)).toNat - (l.getD 0).toNat = 0 := by clear hq; omega
            rw [this] at hrun
            refine opSound_pure hR hrun (.slI0 fun q => ?_)
            cases m with
            | none => simp at q
            | some mv => simp only [Option.isSome_some, Bool.true_and, decide_eq_true_eq] at q; have := m4 mv rfl; clear hq; omega
          · rename_i hhl
            cases hv
            refine opSound_pure hR hrun (.slB he (Nat.le_of_eq (hl'.1.trans hver).symm) fun _ => ⟨rfl, ?_⟩)
            rcases hq with ⟨c', o', hp, rfl, q1, q2⟩ | ⟨hp, rfl, rfl, rfl, hnil⟩
            · refine .inl ⟨c', o', hp, ?_, by omega, ?_⟩
              · split
                · rename_i hml
                  have h0 : (l.getD 0).toNat = 0 := by
                    by_cases q : (l.getD 0).toNat = 0
                    · exact q
                    · exact absurd ⟨by omega, .inl q⟩ hhl
                  rw [h0]
                  simp
                · simp [Addr.add_lit, Nat.add_assoc]
              · rw [hek] at q2 ⊢
                have h3 : (m' - (l.getD 0).toNat) * k + (l.getD 0).toNat * k ≤ cap * k := by
                  rw [← Nat.add_mul]
                  exact Nat.mul_le_mul_right _ (by omega)
                omega
            · have hl0' : (l.getD 0).toNat = 0 := by omega
              refine .inr ⟨hp, by omega, by rw [hl0']; simp, by omega⟩
        · cases hv
      · cases hv
    · cases hv
end
end
end Go.Proofs.Ytifgifhbefhkmaa.VM
