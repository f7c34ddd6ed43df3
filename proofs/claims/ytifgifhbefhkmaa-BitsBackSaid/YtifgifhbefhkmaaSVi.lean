/- Values with labels: builds, numbers, texts. No conditions. -/
import Derived.Test.YtifgifhbefhkmaaSVh
namespace Go.Proofs.Ytifgifhbefhkmaa.VM
set_option linter.unusedSimpArgs false
set_option linter.unusedVariables false
open Go Go.RowKit
noncomputable section
section
variable {P : Program} {ε : Nat → Option BE} {H : SHeap} {L : Heap} {t : List SV} {tv : List V} {base vbase : Nat} {cx : SCfg}

theorem fillS_of {place : Nat → Option (Nat × Nat)} : ∀ {vs : List (Nat × SV)} {vs' : List (Nat × V)} {cells out : List SV} {cells' : List V}, fillS place cells vs = some out → SPRel ε vs vs' → RL ε cells cells' → ∃ out', fillV place cells' vs' = some out' ∧ RL ε out out'
  | [], _, cells, out, cells', h, .nil, hr => by cases h; exact ⟨_, rfl, hr⟩
  | (i, v) :: vs, _, cells, out, cells', h, .cons (c := c) (cs := cs) r s, hr => by
    simp only [fillS] at h
    cases hp : place i with
    | none => rw [hp] at h; cases h
    | some q =>
      obtain ⟨off, size⟩ := q
      rw [hp] at h
      simp only at h
      cases hc : Nat.beq (slen v.cells) size && Nat.ble (off + size) (slen cells) && sones v.cells with
      | false => rw [hc] at h; cases h
      | true =>
        rw [hc] at h
        simp only [cond_true] at h
        obtain ⟨hc1, hone⟩ := andT hc
        obtain ⟨hc1, hc2⟩ := andT hc1
        have hc1 := beqT hc1
        have hc2 := bleT hc2
        rw [slen_eq] at hc1 hc2
        have rc := cellsV_rel r hone
        obtain ⟨out', g1, g2⟩ := fillS_of h s (ssetCells_rel off rc hr)
        refine ⟨out', ?_, g2⟩
        simp only [fillV, hp]
        rw [if_pos ⟨by rw [← rc.length]; exact hc1, by rw [← hr.length]; exact hc2, sones_rel rc hone⟩]
        exact g1
theorem buildS_of (ht : RL ε t tv) {ty : TypeId} {parts : Array (Nat × Operand)} {s : SV} (h : buildS P t ty parts = some s) : ∃ v, buildV P tv ty parts = some v ∧ RV ε s v := by
  unfold buildS at h
  split at h
  · rename_i z vs fields hz hvs hu
    obtain ⟨zv, h1, h2⟩ := zeroS_of (ε := ε) hz
    obtain ⟨vs', h3, h4⟩ := evalSP_rel ht hvs
    split at h
    · rename_i places hp
      obtain ⟨cs, h5, rfl⟩ := mapU_some h
      obtain ⟨out', h6, h7⟩ := fillS_of h5 h4 h2
      exact ⟨.agg out', by simp only [buildV, h1, h3, hu, hp]; rw [h6]; rfl, .agg h7⟩
    · cases h
  · rename_i z vs n e hz hvs hu
    obtain ⟨zv, h1, h2⟩ := zeroS_of (ε := ε) hz
    obtain ⟨vs', h3, h4⟩ := evalSP_rel ht hvs
    split at h
    · rename_i i hi
      obtain ⟨cs, h5, rfl⟩ := mapU_some h
      obtain ⟨out', h6, h7⟩ := fillS_of h5 h4 h2
      exact ⟨.agg out', by simp [buildV, h1, h3, hu, hi, h6], .agg h7⟩
    · cases h
  · cases h
theorem buildSliceS_of (ht : RL ε t tv) {ty : TypeId} {len : Nat} {parts : Array (Nat × Operand)} {s : SV} (h : buildSliceS P t ty len parts = some s) : ∃ v, buildSliceV P tv ty len parts = some (Eff.pure v) ∧ RV ε s v := by
  unfold buildSliceS at h
  split at h
  · rename_i e hu
    split at h
    · rename_i z vs hz hvs
      obtain ⟨zv, h1, h2⟩ := zeroS_of (ε := ε) hz
      obtain ⟨vs', h3, h4⟩ := evalSP_rel ht hvs
      have hzl : slen z = zv.length := by rw [slen_eq]; exact h2.length
      rw [hzl] at h
      cases hb : Nat.ble (len * zv.length) 16777216 with
      | false => rw [hb] at h; cases h
      | true =>
        rw [hb] at h
        simp only [cond_true] at h
        split at h
        · rename_i cells hc
          cases h
          obtain ⟨out', h6, h7⟩ := fillS_of hc h4 (szeros_rel h2 len)
          refine ⟨.slI true out' len true, ?_, .slI id id rfl h7 trivial⟩
          simp only [buildSliceV, hu, h1, h3]
          rw [if_pos (bleT hb), h6]
        · cases h
    · cases h
  · cases h
theorem partS_of {ty : TypeId} {cs : List SV} {cv : List V} (hr : RL ε cs cv) {off : Nat} {K : SV → Prop} (h : partS P ty cs off K) : ∃ s v, K s ∧ partV P ty cv off = some v ∧ RV ε s v := by
  unfold partS at h
  split at h
  · rename_i n hz
    obtain ⟨h1, h2⟩ := bif_of h
    rw [stake_eq, sdrop_eq] at h2
    exact ⟨_, _, h2, by simp only [partV, hz], .agg ((hr.drop off).take n)⟩
  · rename_i n hz
    rw [sdrop_eq] at h
    have hd := hr.drop off
    split at h
    · rename_i v r hq
      rw [hq] at hd
      cases hq2 : cv.drop off with
      | nil => rw [hq2] at hd; cases hd
      | cons c cs' =>
        rw [hq2] at hd
        cases hd with
        | cons q s =>
          refine ⟨_, c, h, ?_, q⟩
          simp only [partV, hz]
          have := congrArg (·[0]?) hq2
          simpa using this
    · cases h
  · cases h
theorem pureS_of {call : CallF} (ht : RL ε t tv) {o : Oper} {K : SEff → Prop} (h : pureS P t o K) : ∃ s v, K (SEff.pure s) ∧ pureOp P tv o = some (Eff.pure v) ∧ RV ε s v := by
  unfold pureS at h
  obtain ⟨h1, h2⟩ := bif_of h
  have hx : ∀ x ∈ o.op.operands, evalV (t.map fun s => (toV 9 s).getD (.tup [])) x = evalV tv x := by
    intro x hx
    have := List.all_eq_true.1 h1 x (by simpa using hx)
    cases hq : evalS t x with
    | none => rw [hq] at this; simp at this
    | some s =>
      rw [hq] at this
      simp only [Option.bind_some] at this
      obtain ⟨v, hv⟩ := Option.isSome_iff_exists.1 this
      obtain ⟨v', h3, h4⟩ := evalS_rel ht hq
      have hvv := toV_eq 9 hv h4
      subst hvv
      rw [h3]
      cases x with
      | tmp i =>
        cases hq
        simp only [evalV, Option.some.injEq]
        have hsnth : ∀ (t : List SV) (i : Nat) (w : V), toV 9 (snth t i) = some w → nth (t.map fun s => (toV 9 s).getD (.tup [])) i = w := by
          intro t
          induction t with
          | nil => intro i w hw; cases hw
          | cons a t ih =>
            intro i w hw
            cases i with
            | zero => 
              have hw' : toV 9 a = some w := hw
              show (toV 9 a).getD (.tup []) = w
              rw [hw']; rfl
            | succ i => exact ih i w hw
        exact hsnth t i _ hv
      | const c => exact h3
      | func f => exact h3
      | global g => cases hq
  rw [pureOp_congr hx] at h2
  split at h2
  · rename_i e he
    obtain ⟨v, rfl⟩ : ∃ v, e = Eff.pure v := by
      unfold pureOp at he
      split at he
      · split at he
        · cases he
        · split at he
          · obtain ⟨a, _, rfl⟩ := map_some he
            exact ⟨a, rfl⟩
          · cases he
      · cases he
    exact ⟨_, v, h2, he, toS_rel 9 v⟩
  · cases h2

theorem extBin_run {op : BinOp} {k : IntKind} {a b r : Int} (h : (op = .quo ∧ b ≠ 0 ∧ r = k.wrap (a.tdiv b)) ∨ (op = .rem ∧ b ≠ 0 ∧ r = a.tmod b) ∨ (op = .andNot ∧ r = k.wrap ((BitVec.ofInt k.bits a &&& ~~~ BitVec.ofInt k.bits b).toNat : Int)))
    {t : List V} {o : Oper} {ty : TypeId} {x y : Operand} {z : TypeId} (ho : o.op = .binOp op ty x y z)
    (hx : evalV t x = some (.int k a)) (hy : evalV t y = some (.int k b)) : pureOp P t o = some (Eff.pure (.int k r)) := by
  have h1 : o.op.operands.toList.all (fun x => ((evalV t x).bind toVal).isSome) = true := by
    rw [ho]
    simp [Op.operands, hx, hy, toVal, toAg, toSc]
  have rx : ρOf t x = .int k a := by simp [ρOf, hx, toVal, toAg, toSc]
  have ry : ρOf t y = .int k b := by simp [ρOf, hy, toVal, toAg, toSc]
  unfold pureOp
  rw [if_pos h1]
  simp only [ho]
  unfold execOp
  simp only [ho, rx, ry]
  rcases h with ⟨rfl, hb, rfl⟩ | ⟨rfl, hb, rfl⟩ | ⟨rfl, rfl⟩
  · simp [eqGuard, binOp, Op.intDiv, hb]; rfl
  · simp [eqGuard, binOp, Op.intDiv, hb]; rfl
  · simp [eqGuard, binOp, Op.intBits]; rfl

theorem binS_of {op : BinOp} {k l : IntKind} {a b : SI} {K : SV → Prop} (h : binS op k l a b K) {o : Oper} {ty : TypeId} {x y : Operand} {z : TypeId} (ho : o.op = .binOp op ty x y z)
    (hx : evalV tv x = some (.int k a.val)) (hy : evalV tv y = some (.int l b.val)) : ∃ s v, K s ∧ pureOp P tv o = some (Eff.pure v) ∧ RV ε s v := by
  have fast : ∀ {s : SV} {v : V}, K s → fastBin op k l a.val b.val = some v → RV ε s v → ∃ s v, K s ∧ pureOp P tv o = some (Eff.pure v) ∧ RV ε s v :=
    fun hK hv hr => ⟨_, _, hK, fastBin_run hv ho hx hy, hr⟩
  have ar : ∀ {f : Int → Int → Int} {r : Int}, K (.int k (SI.map2 f a b)) → r = f a.val b.val → pureOp P tv o = some (Eff.pure (.int k r)) → ∃ s v, K s ∧ pureOp P tv o = some (Eff.pure v) ∧ RV ε s v := by
    intro f r hK hr hp
    refine ⟨_, _, hK, hp, .int _ _ _ ?_⟩
    rw [hr]
    cases a <;> cases b <;> rfl
  have cm : ∀ {s : SB} {c : Bool}, K (.bool s) → (c = true ↔ s.holds) → pureOp P tv o = some (Eff.pure (.bool c)) → ∃ s v, K s ∧ pureOp P tv o = some (Eff.pure v) ∧ RV ε s v :=
    fun hK hc hp => ⟨_, _, hK, hp, .bool _ _ hc⟩
  cases op <;> simp only [binS] at h
  case shr =>
    cases b with
    | lit b =>
      simp only [] at h
      cases hd : decide (b < 0) with
      | true => rw [hd] at h; cases h
      | false =>
        rw [hd] at h
        refine fast h (if_neg (show ¬ b < 0 by simpa using hd)) (.int _ _ _ ?_)
        cases a <;> rfl
    | sym b => exact fast h.2 (if_neg (show ¬ b < 0 from Int.not_lt.2 h.1)) (.int _ _ _ rfl)
  case shl =>
    cases b with
    | lit b =>
      simp only [] at h
      cases hd : decide (b < 0) with
      | true => rw [hd] at h; cases h
      | false =>
        rw [hd] at h
        refine fast h (if_neg (show ¬ b < 0 by simpa using hd)) (.int _ _ _ ?_)
        cases a <;> rfl
    | sym b => exact fast h.2 (if_neg (show ¬ b < 0 from Int.not_lt.2 h.1)) (.int _ _ _ rfl)
  all_goals (obtain ⟨hk, h'⟩ := if_of h; clear h; subst hk; have h := h'; clear h')
  case add => exact ar (f := fun a b => k.wrap (a + b)) h rfl (fastBin_run (by simp [fastBin]) ho hx hy)
  case sub => exact ar (f := fun a b => k.wrap (a - b)) h rfl (fastBin_run (by simp [fastBin]) ho hx hy)
  case mul => exact ar (f := fun a b => k.wrap (a * b)) h rfl (fastBin_run (by simp [fastBin]) ho hx hy)
  case and => exact ar (f := fun a b => bitsOf (· &&& ·) k a b) h rfl (fastBin_run (by simp [fastBin, bitsOf]) ho hx hy)
  case or => exact ar (f := fun a b => bitsOf (· ||| ·) k a b) h rfl (fastBin_run (by simp [fastBin, bitsOf]) ho hx hy)
  case xor => exact ar (f := fun a b => bitsOf (· ^^^ ·) k a b) h rfl (fastBin_run (by simp [fastBin, bitsOf]) ho hx hy)
  case andNot => exact ar (f := fun a b => k.wrap ((BitVec.ofInt k.bits a &&& ~~~ BitVec.ofInt k.bits b).toNat : Int)) h rfl (extBin_run (.inr (.inr ⟨rfl, rfl⟩)) ho hx hy)
  case quo =>
    obtain ⟨h1, h2⟩ := req_of h
    rw [SB.not_holds, SI.eq_holds] at h1
    exact ar (f := fun a b => k.wrap (a.tdiv b)) h2 rfl (extBin_run (.inl ⟨rfl, h1, rfl⟩) ho hx hy)
  case rem =>
    obtain ⟨h1, h2⟩ := req_of h
    rw [SB.not_holds, SI.eq_holds] at h1
    exact ar (f := fun a b => a.tmod b) h2 rfl (extBin_run (.inr (.inl ⟨rfl, h1, rfl⟩)) ho hx hy)
  case eql => exact cm h (by rw [SI.eq_holds]; exact beq_iff_eq) (fastBin_run (by simp [fastBin]) ho hx hy)
  case neq => exact cm h (by rw [SB.not_holds, SI.eq_holds]; exact bne_iff_ne) (fastBin_run (by simp [fastBin]) ho hx hy)
  case lss => exact cm h (by rw [SI.lt_holds]; exact decide_eq_true_iff) (fastBin_run (by simp [fastBin]) ho hx hy)
  case leq => exact cm h (by rw [SI.le_holds]; exact decide_eq_true_iff) (fastBin_run (by simp [fastBin]) ho hx hy)
  case gtr => exact cm h (by rw [SI.lt_holds]; exact decide_eq_true_iff) (fastBin_run (by simp [fastBin]) ho hx hy)
  case geq => exact cm h (by rw [SI.le_holds]; exact decide_eq_true_iff) (fastBin_run (by simp [fastBin]) ho hx hy)
end
end
end Go.Proofs.Ytifgifhbefhkmaa.VM
