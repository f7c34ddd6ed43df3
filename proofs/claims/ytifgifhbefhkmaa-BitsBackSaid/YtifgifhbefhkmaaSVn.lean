/- Values with labels: every operation tells what is carried out. No conditions. -/
import Derived.Test.YtifgifhbefhkmaaSVu
namespace Go.Proofs.Ytifgifhbefhkmaa.VM
set_option linter.unusedSimpArgs false
set_option linter.unusedVariables false
open Go Go.RowKit
noncomputable section
section
variable {P : Program} {ε : Nat → Option BE} {H : SHeap} {L : Heap} {t : List SV} {tv : List V} {base vbase : Nat} {cx : SCfg}

theorem not_run {a : Bool} {t : List V} {o : Oper} {ty : TypeId} {x : Operand} (ho : o.op = .unOp .not ty x) (hx : evalV t x = some (.bool a)) : pureOp P t o = some (Eff.pure (.bool !a)) := by
  have h1 : o.op.operands.toList.all (fun x => ((evalV t x).bind toVal).isSome) = true := by
    rw [ho]
    simp [Op.operands, hx, toVal, toAg, toSc]
  have rx : ρOf t x = .bool a := by simp [ρOf, hx, toVal, toAg, toSc]
  unfold pureOp
  rw [if_pos h1]
  simp only [ho]
  unfold execOp
  simp only [ho, rx]
  rfl
theorem compl_run {k : IntKind} {n : Int} {t : List V} {o : Oper} {ty : TypeId} {x : Operand} (ho : o.op = .unOp .xor ty x) (hx : evalV t x = some (.int k n)) : pureOp P t o = some (Eff.pure (.int k (complI k n))) := by
  have h1 : o.op.operands.toList.all (fun x => ((evalV t x).bind toVal).isSome) = true := by
    rw [ho]
    simp [Op.operands, hx, toVal, toAg, toSc]
  have rx : ρOf t x = .int k n := by simp [ρOf, hx, toVal, toAg, toSc]
  unfold pureOp
  rw [if_pos h1]
  simp only [ho]
  unfold execOp
  simp only [ho, rx]
  rfl
theorem boolTy_of {ty : TypeId} (h : boolTy P ty = true) : P.underlying ty = some .bool := by
  unfold boolTy at h
  split at h
  · assumption
  · cases h
theorem nilCmp_none {op : BinOp} {ty : TypeId} {x y : Operand} {v : V} (hy : evalV tv y = some v) (hn : v ≠ .nilSl) : nilCmp P L tv op ty x y = none := by
  unfold nilCmp
  rw [hy]
  split
  · rename_i h; cases h; exact absurd rfl hn
  · rfl
/-- The statement of an operation. -/
def OpR (P : Program) (C : Nat → CallF) (ε : Nat → Option BE) (H : SHeap) (L : Heap) (tv : List V) (base vbase : Nat) (o : Oper) (K : SEff → Prop) : Prop :=
  ∃ se e ε', K se ∧ (∃ N, ∀ n, N ≤ n → opS P (C n) L vbase tv o = some e) ∧ ER ε ε' H L base vbase se e
theorem OpR.val {C : Nat → CallF} {o : Oper} {K : SEff → Prop} {s : SV} {v : V} (hK : K (SEff.pure s)) (h : ∀ call, opS P call L vbase tv o = some (Eff.pure v)) (r : RV ε s v) : OpR P C ε H L tv base vbase o K :=
  ⟨_, _, _, hK, ⟨0, fun n _ => h _⟩, ER.pure r⟩

theorem pureOpR {C : Nat → CallF} {o : Oper} {K : SEff → Prop} (ht : RL ε t tv) (h : pureS P t o K) (hp : ∀ call e, pureOp P tv o = some e → opS P call L vbase tv o = some e) : OpR P C ε H L tv base vbase o K := by
  obtain ⟨s, v, h1, h2, h3⟩ := pureS_of (call := C 0) ht h
  exact OpR.val h1 (fun call => hp call _ h2) h3
theorem binOpS_of {C : Nat → CallF} {o : Oper} {op : BinOp} {ty tz : TypeId} {x y : Operand} {K : SEff → Prop} (ht : RL ε t tv) (ho : o.op = .binOp op ty x y tz) {a b : SV} (ha : evalS t x = some a) (hb : evalS t y = some b) (h : binOpS P t o op ty a b K) : OpR P C ε H L tv base vbase o K := by
  obtain ⟨va, ea, ra⟩ := evalS_rel ht ha
  obtain ⟨vb, eb, rb⟩ := evalS_rel ht hb
  have hop : ∀ (call : CallF) (v : V), pureOp P tv o = some (Eff.pure v) → vb ≠ .nilSl → opS P call L vbase tv o = some (Eff.pure v) := by
    intro call v hv hn
    simp only [opS, ho]
    rw [nilCmp_none eb hn]
    exact hv
  have pure' : pureS P t o K → OpR P C ε H L tv base vbase o K := by
    intro hp
    obtain ⟨s, v, h1, h2, h3⟩ := pureS_of (call := C 0) ht hp
    refine OpR.val h1 (fun call => ?_) h3
    simp only [opS, ho]
    have hn : nilCmp P L tv op ty x y = none := by
      -- what is written out is no row of its own
      unfold nilCmp
      split
      · rename_i v hu hv1 hv2
        have hl : v = .nilSl ∨ nilV L v = none := by
          have hall : o.op.operands.toList.all (fun x => ((evalS t x).bind (toV 9)).isSome) = true := by
            unfold pureS at hp
            exact (bif_of hp).1
          have := List.all_eq_true.1 hall x (by rw [ho]; simp [Op.operands])
          rw [ha] at this
          simp only [Option.bind_some] at this
          obtain ⟨w, hw⟩ := Option.isSome_iff_exists.1 this
          have e1 := toV_eq 9 hw ra
          rw [ea] at hv1
          cases hv1
          subst e1
          have hshape : ∀ (n : Nat) (s : SV) (w : V), toV n s = some w → w = .nilSl ∨ nilV L w = none := by
            intro n s w hq
            cases n with
            | zero => cases hq
            | succ n =>
              cases s <;> simp only [toV] at hq <;> try (cases hq; done)
              case int k i => cases i <;> cases hq; exact .inr rfl
              case bool b => cases b <;> cases hq; exact .inr rfl
              case str => cases hq; exact .inr rfl
              case agg cs => obtain ⟨r, _, rfl⟩ := map_some hq; exact .inr rfl
              case iface t v => obtain ⟨r, _, rfl⟩ := map_some hq; exact .inr rfl
              all_goals (cases hq; first | exact .inl rfl | exact .inr rfl)
          exact hshape _ _ _ hw
        rcases hl with rfl | hl
        · simp [nilV]
        · rw [hl]
      · rfl
    rw [hn]
    exact h2
  cases a <;> cases b <;> simp only [binOpS] at h <;> try exact pure' h
  case int.int k a l b =>
    cases ra with
    | int _ _ m hm =>
      cases rb with
      | int _ _ m' hm' =>
        subst hm hm'
        obtain ⟨s, v, h1, h2, h3⟩ := binS_of (P := P) (ε := ε) h ho ea eb
        exact OpR.val h1 (fun call => hop call _ h2 (fun q => by cases q)) h3
  case bool.bool p q =>
    cases ra with
    | bool _ c hc =>
      cases rb with
      | bool _ d hd =>
        have main : ∀ (r : Prop) (e : Bool), K (SEff.pure (.bool (.sym r))) → pureOp P tv o = some (Eff.pure (.bool e)) → (e = true ↔ r) → OpR P C ε H L tv base vbase o K :=
          fun r e hK he hr => OpR.val hK (fun call => hop call _ he (fun q => by cases q)) (.bool _ _ hr)
        have hbe : ((c == d) = true) ↔ (p.holds ↔ q.holds) := by rw [← hc, ← hd]; cases c <;> cases d <;> simp
        have hbn : ((c != d) = true) ↔ ¬ (p.holds ↔ q.holds) := by rw [← hc, ← hd]; cases c <;> cases d <;> simp
        have both : ∀ (r : Prop), (r ↔ (p.holds ↔ q.holds)) → boolTy P ty = true → ((op = .eql ∧ K (SEff.pure (.bool (.sym r)))) ∨ (op = .neq ∧ K (SEff.pure (.bool (.sym (¬ r)))))) → OpR P C ε H L tv base vbase o K := by
          intro r hr hbt hh
          rcases hh with ⟨rfl, hK⟩ | ⟨rfl, hK⟩
          · exact main _ _ hK (boolEq_run (.inl ⟨rfl, rfl⟩) ho (boolTy_of hbt) ea eb) (hbe.trans hr.symm)
          · exact main _ _ hK (boolEq_run (.inr ⟨rfl, rfl⟩) ho (boolTy_of hbt) ea eb) (hbn.trans (not_congr hr.symm))
        cases p with
        | sym p =>
          obtain ⟨hbt, h⟩ := bif_of h
          refine both (p ↔ q.holds) Iff.rfl hbt ?_
          cases op <;> simp only [] at h <;> first | exact .inl ⟨rfl, h⟩ | exact .inr ⟨rfl, h⟩ | cases h
        | lit p =>
          cases q with
          | lit q => exact pure' h
          | sym q =>
            obtain ⟨hbt, h⟩ := bif_of h
            refine both (p = true ↔ q) Iff.rfl hbt ?_
            cases op <;> simp only [] at h <;> first | exact .inl ⟨rfl, h⟩ | exact .inr ⟨rfl, h⟩ | cases h
  case agg.agg xs ys =>
    cases hg : P.eqGuardType P.depth ty || !(allSc xs && allSc ys) with
    | true => rw [hg] at h; cases h
    | false =>
      rw [hg] at h
      simp only [cond_false] at h
      simp only [Bool.or_eq_false_iff, Bool.not_eq_false', Bool.and_eq_true] at hg
      split at h
      · rename_i s hs
        cases ra with
        | agg qa => cases rb with
          | agg qb =>
            obtain ⟨c, hc, hr⟩ := aggEq_run (P := P) hg.1 hs qa qb hg.2.1 hg.2.2 ho ea eb
            cases op <;> simp only [] at h <;> try (cases h; done)
            · exact OpR.val h (fun call => hop call _ (hr.1 rfl) (fun q => by cases q)) (.bool _ _ hc)
            · refine OpR.val h (fun call => hop call _ (hr.2 rfl) (fun q => by cases q)) (.bool _ _ ?_)
              rw [SB.not_holds, ← hc]
              cases c <;> simp
      · cases h
  case slI.nilSl fr cs n tight =>
    obtain ⟨hty, h⟩ := bif_of h
    have hsl : ∃ el, P.underlying ty = some (.slice el) := by
      unfold sliceTy at hty
      split at hty
      · rename_i el he; exact ⟨el, he⟩
      · cases hty
    obtain ⟨el, hel⟩ := hsl
    have key : ∀ {Q : Prop}, nonE cs n Q → Q ∧ nilV L va = some false := by
      intro Q hq
      have ne : Q ∧ 0 < n.val ∧ (∀ vs, RL ε cs.list vs → COK cs → vs ≠ []) := by
        unfold nonE at hq
        split at hq
        · refine ⟨hq, Nat.succ_pos _, fun vs hr _ e => ?_⟩
          subst e; cases hr
        · rename_i e k d fl xs n
          obtain ⟨hk, h1, h2, h3⟩ := bif_of hq
          refine ⟨h3, h1, fun vs hr hc e => ?_⟩
          subst e
          have hl := hr.length
          cases xs with
          | nil => cases h2
          | cons x xs =>
            have := (hc x).1
            simp only [SC.list, List.flatMap_cons, List.length_append, this, List.length_nil] at hl
            simp only [Nat.blt_eq] at hk
            omega
        · cases hq
      obtain ⟨h1, h2, h3⟩ := ne
      refine ⟨h1, ?_⟩
      cases ra with
      | slI q1 q2 q3 q4 q5 =>
        rename_i fr' tight' cs' m
        cases cs' with
        | nil => exact absurd rfl (h3 _ q4 q5)
        | cons w ws => simp only [nilV]; rw [if_neg (by omega)]
      | slIn q1 q2 => omega
      | slI0 q1 q2 q3 q4 => omega
    cases rb
    cases op <;> simp only [] at h <;> try (cases h; done)
    · obtain ⟨hK, hn⟩ := key h
      refine OpR.val hK (fun call => ?_) (.bool _ false (by simp [SB.holds]))
      simp only [opS, ho, nilCmp, hel, ea, eb, hn]
    · obtain ⟨hK, hn⟩ := key h
      refine OpR.val hK (fun call => ?_) (.bool _ true (by simp [SB.holds]))
      simp only [opS, ho, nilCmp, hel, ea, eb, hn]
  all_goals (
    have texts : ∀ {a b : SV}, RV ε a va → RV ε b vb → ((op = .eql ∧ textEqS a b fun p => K (SEff.pure (.bool (.sym p)))) ∨ (op = .neq ∧ textEqS a b fun p => K (SEff.pure (.bool (.sym (¬ p)))))) → OpR P C ε H L tv base vbase o K := by
      intro a b ra rb hh
      rcases hh with ⟨rfl, hK⟩ | ⟨rfl, hK⟩
      · obtain ⟨p, x', y', h1, rfl, rfl, h2⟩ := textEqS_of ra rb hK
        exact OpR.val h1 (fun call => hop call _ (strEq_run (.inl ⟨rfl, rfl⟩) ho ea eb) (fun q => by cases q)) (.bool _ _ h2)
      · obtain ⟨p, x', y', h1, rfl, rfl, h2⟩ := textEqS_of ra rb hK
        refine OpR.val h1 (fun call => hop call _ (strEq_run (.inr ⟨rfl, rfl⟩) ho ea eb) (fun q => by cases q)) (.bool _ _ ?_)
        simp only [Bool.not_eq_true', SB.holds, ← h2]
        exact (Bool.not_eq_true _).symm ▸ Iff.rfl
    refine texts ra rb ?_
    cases op <;> simp only [] at h <;> first | exact .inl ⟨rfl, h⟩ | exact .inr ⟨rfl, h⟩ | cases h)
end
end
end Go.Proofs.Ytifgifhbefhkmaa.VM
