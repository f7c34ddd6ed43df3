/- Values with labels: cuts, builds, numbers. No conditions. -/
import Derived.Test.YtifgifhbefhkmaaSVg
namespace Go.Proofs.Ytifgifhbefhkmaa.VM
set_option linter.unusedSimpArgs false
set_option linter.unusedVariables false
open Go Go.RowKit
noncomputable section
section
variable {P : Program} {ε : Nat → Option BE} {H : SHeap} {L : Heap} {t : List SV} {tv : List V} {base vbase : Nat} {cx : SCfg}

theorem optS_rel (ht : RL ε t tv) {x : Option Operand} {r : Option SI} (h : optS t x = some r) : optV tv x = some (r.map SI.val) := by
  cases x with
  | none => cases h; rfl
  | some x =>
    simp only [optS] at h
    split at h
    · rename_i k n hx
      cases h
      obtain ⟨v, h1, h2⟩ := evalS_rel ht hx
      cases h2 with
      | int _ _ m hm => subst hm; simp [optV, h1, intV]
    · cases h
theorem toNat_le {a b : Int} (h : a ≤ b) : a.toNat ≤ b.toNat := Int.toNat_le_toNat h
theorem orS_val (x : Option SI) (d : SI) : (orS x d).val = (x.map SI.val).getD d.val := by cases x <;> rfl
theorem zeroI_val {x : SI} (h : zeroI x = true) : x.val = 0 := by
  cases x with
  | lit n => simpa [zeroI] using h
  | sym n => cases h
theorem tightS_of {n : SN} {tight tight' : Bool} {hi mx : Option SI} (h : tightS n tight hi mx = true) (ht : tight = true → tight' = true) :
    (match mx.map SI.val with | some _ => decide ((((mx.map SI.val).getD n.val).toNat) = ((hi.map SI.val).getD n.val).toNat) | none => tight' && decide (((hi.map SI.val).getD n.val).toNat = n.val)) = true := by
  unfold tightS at h
  split at h
  · simp only [decide_eq_true_eq] at h
    simp [h]
  · simp [ht h]
  · rename_i h' _
    cases n with
    | lit n =>
      simp only [Bool.and_eq_true, decide_eq_true_eq] at h
      simp [ht h.1, h.2]
    | sym n => cases h
  · cases h
theorem cutI_of {k : Nat} {fr fr' tt tt' : Bool} {cs : SC} {A : List V} (q1 : fr = true → fr' = true) (hr : RL ε cs.list A) (hc : COK cs) {l h : SI} {K : SV → Prop} (hk : cutI k fr cs tt l h K) (ht : tt = true → tt' = true) (h1 : 0 ≤ l.val) (h2 : l.val ≤ h.val) :
    ∃ s, K s ∧ (∀ w, w = (if l.val.toNat = 0 then V.slI fr' A h.val.toNat tt' else if h.val.toNat = l.val.toNat then .slI fr' [] 0 tt' else .slI fr' (A.drop (l.val.toNat * k)) (h.val.toNat - l.val.toNat) tt') → RV ε s w) := by
  have fin : ∀ (c : SC) (n : SN), COK c → RL ε c.list (A.drop (l.val.toNat * k)) → n.val = h.val.toNat - l.val.toNat → K (.slI fr c n tt) → ∃ s, K s ∧ (∀ w, w = (if l.val.toNat = 0 then V.slI fr' A h.val.toNat tt' else if h.val.toNat = l.val.toNat then .slI fr' [] 0 tt' else .slI fr' (A.drop (l.val.toNat * k)) (h.val.toNat - l.val.toNat) tt') → RV ε s w) := by
    intro c n hc hr hn hK
    refine ⟨_, hK, fun w hw => ?_⟩
    subst hw
    split
    · rename_i h0
      rw [h0] at hr hn
      simp only [Nat.zero_mul, List.drop_zero] at hr
      exact .slI q1 ht (by omega) hr hc
    · split
      · exact .slI0 q1 ht (by omega) hc
      · exact .slI q1 ht hn.symm hr hc
  unfold cutI at hk
  split at hk
  · obtain ⟨g1, g2⟩ := caseN_of hk
    obtain ⟨g3, g4⟩ := bif_of g2
    rw [SI.toN_val] at g4
    refine fin (.lit (sdrop _ (l.val.toNat * k))) _ trivial ?_ (by rw [SN.sub_val, SI.toN_val]; rfl) g4
    show RL ε (sdrop _ (l.val.toNat * k)) _
    rw [sdrop_eq]
    exact hr.drop _
  · rename_i α r k' d fl xs
    obtain ⟨g1, g2⟩ := bif_of hk
    have hkk := beqT g1
    subst hkk
    refine fin (.rows r k' d fl (rdrop l.toN xs)) (h.toN.sub l.toN) hc ?_ (by rw [SN.sub_val, SI.toN_val, SI.toN_val]) g2
    show RL ε ((rdrop l.toN xs).flatMap r) _
    rw [rdrop_eq, SI.toN_val]
    rw [← flat_drop hc.len]
    exact hr.drop _
theorem cutI0_of {k : Nat} {fr tt : Bool} {cs : SC} (hc : COK cs) {l h : SI} {K : SV → Prop} (hk : cutI k fr cs tt l h K) (he : h.val.toNat = l.val.toNat) :
    ∃ s, K s ∧ RV ε s .nilSl ∧ ∀ fr' tt' : Bool, (fr = true → fr' = true) → (tt = true → tt' = true) → RV ε s (.slI fr' [] 0 tt') := by
  have fin : ∀ (c : SC) (n : SN), COK c → n.val = 0 → K (.slI fr c n tt) → ∃ s, K s ∧ RV ε s .nilSl ∧ ∀ fr' tt' : Bool, (fr = true → fr' = true) → (tt = true → tt' = true) → RV ε s (.slI fr' [] 0 tt') :=
    fun c n hc hn hK => ⟨_, hK, .slIn hn hc, fun fr' tt' h1 h2 => .slI0 h1 h2 hn hc⟩
  unfold cutI at hk
  split at hk
  · obtain ⟨g1, g2⟩ := caseN_of hk
    obtain ⟨g3, g4⟩ := bif_of g2
    rw [SI.toN_val] at g4
    exact fin _ _ (by exact trivial) (by rw [SN.sub_val, SI.toN_val]; simp only [SN.val_lit]; omega) g4
  · rename_i α r k' d fl xs
    obtain ⟨g1, g2⟩ := bif_of hk
    exact fin (.rows r k' d fl (rdrop l.toN xs)) _ hc (by rw [SN.sub_val, SI.toN_val, SI.toN_val]; omega) g2
theorem cutS_of (hH : RH ε H L) {k : Nat} {x : SV} {xv : V} (r : RV ε x xv) {lo hi mx : Option SI} {K : SV → Prop} (h : cutS H k x lo hi mx K) :
    ∃ s w, K s ∧ cutV L k xv (lo.map SI.val) (hi.map SI.val) (mx.map SI.val) = some w ∧ RV ε s w := by
  unfold cutS at h
  cases hmx : mx.isSome && hi.isNone with
  | true => simp only [hmx, cond_true] at h; cases h
  | false =>
  simp only [hmx, cond_false] at h
  have hmi : (mx.map SI.val).isSome = true → (hi.map SI.val).isSome = true := by
    cases mx <;> cases hi <;> simp at hmx ⊢
  have hlv : (lo.map SI.val).getD 0 = (orS lo (.lit 0)).val := by rw [orS_val]; rfl
  split at h
  · obtain ⟨g0, g4⟩ := bif_of h
    obtain ⟨g0, g3⟩ := andT g0
    obtain ⟨g1, g2⟩ := andT g0
    have g1 := zeroI_val g1
    have g2 := zeroI_val g2
    have g3 := zeroI_val g3
    rw [orS_val] at g1 g2 g3
    simp only [SI.val_lit] at g1 g2 g3
    cases r
    refine ⟨_, .nilSl, g4, ?_, .nilSl⟩
    simp only [cutV, g1, g2, g3]
    rw [if_neg (by omega), if_pos ⟨by simp, trivial, trivial, hmi⟩]
  · rename_i fr cs n tight
    obtain ⟨h1, h⟩ := req_of h
    obtain ⟨h2, h⟩ := req_of h
    obtain ⟨h3, h⟩ := req_of h
    obtain ⟨h4, h⟩ := req_of h
    rw [SI.le_holds] at h1 h2 h3 h4
    rw [SN.toI_val] at h4
    simp only [SI.val_lit] at h1
    have hhv : (hi.map SI.val).getD n.val = (orS hi n.toI).val := by rw [orS_val, SN.toI_val]
    have hmv : (mx.map SI.val).getD n.val = (orS mx n.toI).val := by rw [orS_val, SN.toI_val]
    have hn0 : (n.val : Int) ≥ 0 := Int.natCast_nonneg _
    cases r with
    | slI q1 q2 q3 q4 q5 =>
      rename_i fr' tight' cs' m
      subst q3
      obtain ⟨s, k1, k2⟩ := cutI_of q1 q4 q5 h (fun ht => tightS_of ht q2) h1 h2
      refine ⟨s, _, k1, ?_, k2 _ rfl⟩
      simp only [cutV, hlv, hhv, hmv]
      rw [if_neg (by omega), if_pos ⟨by omega, by omega, toNat_le h2, toNat_le h3, by omega, hmi⟩]
      cases mx <;> (simp only [Option.map_none, Option.map_some]; split <;> (try split) <;> rfl)
    | slIn q1 q2 =>
      obtain ⟨s, k1, k2, k3⟩ := cutI0_of (ε := ε) q2 h (by omega)
      refine ⟨s, _, k1, ?_, k2⟩
      have g1 : ((hi.map SI.val).getD 0) = 0 := by rw [← hhv] at h2 h3; rw [q1] at hhv; rw [← hmv] at h3 h4; cases hi with | none => rfl | some x => simp at hhv h2 h3 ⊢; omega
      have g2 : ((mx.map SI.val).getD 0) = 0 := by cases mx with | none => rfl | some x => simp at hmv; rw [← hmv] at h3 h4; simp; omega
      simp only [cutV, hlv, g1, g2]
      rw [if_neg (by omega), if_pos ⟨by omega, trivial, trivial, hmi⟩]
    | slI0 q1 q2 q3 q4 =>
      rename_i fr' tight'
      obtain ⟨s, k1, k2, k3⟩ := cutI0_of (ε := ε) q4 h (by omega)
      rw [q3] at hhv hmv
      refine ⟨s, .slI fr' [] 0 (match mx.map SI.val with | some _ => decide ((orS mx n.toI).val.toNat = 0) | none => tight' && decide ((0 : Nat) = 0)), k1, ?_, k3 _ _ q1 (fun ht => by
        have := tightS_of ht q2
        rw [q3, hhv, hmv] at this
        have e2 : (orS hi n.toI).val.toNat = 0 := by omega
        rw [e2] at this
        exact this)⟩
      have e1 : (orS lo (.lit 0)).val.toNat = 0 := by omega
      have e2 : (orS hi n.toI).val.toNat = 0 := by omega
      simp only [cutV, hlv]
      rw [if_neg (by omega)]
      have hhv' : (hi.map SI.val).getD ((0 : Nat) : Int) = (orS hi n.toI).val := hhv
      have hmv' : (mx.map SI.val).getD ((0 : Nat) : Int) = (orS mx n.toI).val := hmv
      simp only [hhv', hmv']
      rw [if_pos ⟨by omega, by omega, toNat_le h2, toNat_le h3, by omega, hmi⟩, if_pos e1, e2]
      cases mx <;> rfl
  · rename_i b e k' ver n
    split at h
    · rename_i blk hb
      obtain ⟨h0, h⟩ := bif_of h
      obtain ⟨h0, hlz⟩ := andT h0
      obtain ⟨h0, hk2⟩ := andT h0
      obtain ⟨hver, hk1⟩ := andT h0
      have hk1 := beqT hk1
      have hk2 := beqT hk2
      subst hk1
      obtain ⟨h1, h⟩ := req_of h
      obtain ⟨h2, h⟩ := req_of h
      obtain ⟨h3, h⟩ := req_of h
      obtain ⟨h4, h⟩ := req_of h
      rw [SI.le_holds] at h1 h2 h3 h4
      rw [SN.toI_val] at h4
      simp only [SI.val_lit] at h1
      have hhv : (hi.map SI.val).getD n.val = (orS hi n.toI).val := by rw [orS_val, SN.toI_val]
      have hmv : (mx.map SI.val).getD n.val = (orS mx n.toI).val := by rw [orS_val, SN.toI_val]
      have hn0 : (n.val : Int) ≥ 0 := Int.natCast_nonneg _
      obtain ⟨e0, g1, g3, gc, hq⟩ := slB_at' hH hb hver r
      rcases hq with ⟨b', v0, ablk, q2, rfl, q5, q6, q7, q8, q9⟩ | ⟨q1, q2, rfl, q4, q5, q6⟩
      · have key : ∀ w, w = (if (orS hi n.toI).val.toNat = (orS lo (.lit 0)).val.toNat ∧ ((orS lo (.lit 0)).val.toNat ≠ 0 ∨ (mx.map SI.val).isSome = true) then V.slI true [] 0 ((mx.map SI.val).isSome && decide ((orS mx n.toI).val.toNat = (orS hi n.toI).val.toNat))
            else .slB b' (e.val * k' + (orS lo (.lit 0)).val.toNat * k') v0 ((orS hi n.toI).val.toNat - (orS lo (.lit 0)).val.toNat)) → cutV L k' (.slB b' (e.val * k') v0 n.val) (lo.map SI.val) (hi.map SI.val) (mx.map SI.val) = some w := by
          intro w hw
          subst hw
          simp only [cutV, hlv, hhv, hmv]
          rw [if_neg (by omega)]
          simp only [q5]
          rw [if_pos ⟨q6, q7.trans hk2, by omega, by omega, toNat_le h2, toNat_le h3, by omega, hmi⟩]
          split <;> rfl
        have slB' : ∀ (o m : SN), o.val * k' = e.val * k' + (orS lo (.lit 0)).val.toNat * k' → m.val = (orS hi n.toI).val.toNat - (orS lo (.lit 0)).val.toNat → RV ε (.slB b o k' ver m) (.slB b' (e.val * k' + (orS lo (.lit 0)).val.toNat * k') v0 ((orS hi n.toI).val.toNat - (orS lo (.lit 0)).val.toNat)) := by
          intro o m ho hm
          exact .slB g1 (by rw [g3, beqT hver]; exact Nat.le_refl _) (fun _ => .inl ⟨b', v0, q2, by rw [ho, hm]⟩) rfl
        rcases bra_of h with ⟨k1, k2⟩ | ⟨k1, k2⟩
        · have hmx0 : mx = none ∧ (orS lo (.lit 0)).val = 0 := by
            cases mx with
            | none => exact ⟨rfl, by simpa [SI.eq_holds] using k1⟩
            | some m => simp [SB.holds] at k1
          obtain ⟨hm0, hl0⟩ := hmx0
          refine ⟨_, _, k2, key _ rfl, ?_⟩
          rw [if_neg (by rw [hl0, hm0]; simp)]
          exact slB' _ _ (by rw [hl0]; simp) (by rw [SI.toN_val, hl0]; simp)
        · rcases bra_of k2 with ⟨k3, k4⟩ | ⟨k3, k4⟩
          · rw [SI.eq_holds] at k3
            refine ⟨_, _, k4, key _ rfl, ?_⟩
            rw [if_pos ⟨by rw [k3], by
              cases mx with
              | none =>
                left
                rw [SI.eq_holds] at k1
                simp only [SI.val_lit] at k1
                omega
              | some m => exact .inr rfl⟩]
            exact .slI (fun _ => rfl) (fun q => by cases q) rfl .nil trivial
          · rw [SI.eq_holds] at k3
            refine ⟨_, _, k4, key _ rfl, ?_⟩
            rw [if_neg (fun q => k3 (by have := q.1; omega))]
            exact slB' _ _ (by rw [SN.add_val, SI.toN_val, Nat.add_mul]) (by rw [SN.sub_val, SI.toN_val, SI.toN_val])
      · rw [q1] at hlz; cases hlz
    · cases h
  · cases h
end
end
end Go.Proofs.Ytifgifhbefhkmaa.VM
