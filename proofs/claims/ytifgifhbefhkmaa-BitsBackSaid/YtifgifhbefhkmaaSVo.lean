/- Values with labels: every operation. No conditions. -/
import Derived.Test.YtifgifhbefhkmaaSVn
namespace Go.Proofs.Ytifgifhbefhkmaa.VM
set_option linter.unusedSimpArgs false
set_option linter.unusedVariables false
open Go Go.RowKit
noncomputable section
section
variable {P : Program} {ε : Nat → Option BE} {H : SHeap} {L : Heap} {t : List SV} {tv : List V} {base vbase : Nat} {cx : SCfg}

theorem OpR.eff {C : Nat → CallF} {o : Oper} {K : SEff → Prop} {se : SEff} {e : Eff} {ε' : Nat → Option BE} (hK : K se) (h : ∀ call, opS P call L vbase tv o = some e) (r : ER ε ε' H L base vbase se e) : OpR P C ε H L tv base vbase o K :=
  ⟨_, _, _, hK, ⟨0, fun n _ => h _⟩, r⟩
theorem new_rv {k : Nat} {m : SN} (hf : ε base = none) : RV (updF ε base ⟨0, some (vbase, 0)⟩) (.slB base (.lit 0) k 0 m) (.slB vbase 0 0 m.val) :=
  .slB (e := ⟨0, some (vbase, 0)⟩) (by simp [updF]) (Nat.le_refl _) (fun _ => .inl ⟨vbase, 0, rfl, by simp⟩) rfl
theorem new_pv (hf : ε base = none) : RV (updF ε base ⟨0, some (vbase, 0)⟩) (.ptrB base (.lit 0) 0 0 0) (.ptrB vbase 0 0) :=
  .ptrB (e := ⟨0, some (vbase, 0)⟩) (by simp [updF]) (Nat.le_refl _) (fun _ => ⟨vbase, 0, rfl, by simp⟩) rfl

theorem isU8_of {e : TypeId} (h : isU8 P e = true) : P.underlying e = some (.int .u8) := by
  unfold isU8 at h
  split at h
  · assumption
  · cases h
theorem textS_of {c : SC} {A : List V} (hr : RL ε c.list A) {K : SV → Prop} (h : textS c K) : ∃ ns s, bytesN A = some ns ∧ K s ∧ RV ε s (.str (strOfNums ns)) := by
  unfold textS at h
  split at h
  · rename_i l
    split at h
    · rename_i ns b hns
      have := sints_of (show RL ε l A from hr) hns
      refine ⟨ns, _, this, h, ?_⟩
      cases b with
      | true => exact .str _
      | false => exact .strS _
    · cases h
  · obtain ⟨ns, e1, e2⟩ := h
    rw [e1] at hr
    exact ⟨ns, _, bytesC_of hr, e2, .strS _⟩
theorem convS_of {C : Nat → CallF} {o : Oper} {K : SEff → Prop} {src dst : TypeId} {x : Operand} {ds dd : TypeDesc} {s : SV} (ht : RL ε t tv) (hH : RH ε H L) (hf0 : ε base = none) (ho : o.op = .convert src dst x)
    (hs : P.underlying src = some ds) (hd : P.underlying dst = some dd) (hx : evalS t x = some s) (h : convS P H base src dst ds dd s K) : OpR P C ε H L tv base vbase o K := by
  obtain ⟨v, h1, h2⟩ := evalS_rel ht hx
  unfold convS at h
  split at h
  · rename_i k
    split at h
    · rename_i kk n
      cases h2 with
      | int _ _ m hm =>
        subst hm
        refine OpR.val (v := .int k (k.wrap n.val)) h (fun call => fastE_eq ?_) (.int _ _ _ ?_)
        · simp only [fastE, ho, h1, hs, hd]
        · cases n <;> rfl
    · cases h
  · split at h
    · rename_i e
      split at h
      · cases h
      · rename_i hns
        obtain ⟨hu, h⟩ := bif_of h
        have hu8 := isU8_of hu
        obtain ⟨c, n, A, g1, g2, g3, g4, g5, g6⟩ := rowS_of hH h2 h
        obtain ⟨ns, s', k1, k2, k3⟩ := textS_of g4 g1
        refine OpR.val k2 (fun call => ?_) k3
        have hv : ∀ x, v ≠ .str x := by
          rcases g6 with ⟨y, rfl⟩ | g6
          · exact absurd rfl (hns y)
          · exact g6
        cases v with
        | str x => exact absurd rfl (hv x)
        | _ => simp only [opS, ho, hs, hd, h1, hu8, g2, k1]; rfl
    · cases h
  · rename_i e'
    split at h
    · split at h
      · rename_i s
        obtain ⟨hu, h⟩ := bif_of h
        have hu8 := isU8_of hu
        cases h2
        refine OpR.eff h (fun call => ?_) (ER.new1 hf0 trivial (strCells_rel s) (by have := new_rv (vbase := vbase) (k := 1) (m := .lit s.size) hf0; exact this))
        simp only [opS, ho, hs, hd, h1, hu8, SN.val_lit]
      · cases h
    · rename_i e
      split at h
      · rename_i v0 cs n tight
        obtain ⟨hu, h⟩ := bif_of h
        obtain ⟨hu, hsd⟩ := andT hu
        have hu8 := isU8_of hu
        have hsd := beqT hsd
        have hw : ∃ c cs' m tt, v = .slI true (c :: cs') m tt := by
          cases h2 with
          | slI q1 q2 q3 q4 q5 =>
            have := q1 rfl
            subst this
            cases q4 with
            | cons r s => exact ⟨_, _, _, _, rfl⟩
          | slIn q1 q2 => cases q1
          | slI0 q1 q2 q3 q4 => cases q3
        obtain ⟨c, cs', m, tt, rfl⟩ := hw
        refine OpR.val h (fun call => ?_) h2
        simp only [opS, ho, hs, hd, h1, hu8]
        rw [if_pos hsd]
      · cases h
    · cases h
  · cases h
theorem SC.over_of {cs : SC} {k : Nat} {e cnt : SN} {new : SC} {K : SC → Prop} (h : cs.over k e cnt new K) {A B : List V} (hc : COK cs) (hr : RL ε cs.list A) (hn : RL ε new.list B) (hnl : new.list.length ≥ cnt.val * k) :
    ∃ c, K c ∧ COK c ∧ e.val * k + cnt.val * k ≤ A.length ∧ RL ε c.list (setCells A (e.val * k) (B.take (cnt.val * k))) := by
  have hl := hr.length
  have hnb := hn.length
  unfold SC.over at h
  split at h
  · rename_i l
    split at h
    · rename_i e c m
      obtain ⟨h0, h⟩ := bif_of h
      obtain ⟨h1, h2⟩ := andT h0
      have h1 := bleT h1
      rw [slen_eq] at h1
      refine ⟨_, h, trivial, by rw [← Nat.add_mul]; exact Nat.le_trans h1 (Nat.le_of_eq hl), ?_⟩
      show RL ε (ssetCells l (e * k) (stake m (c * k))) _
      rw [stake_eq]
      exact ssetCells_rel _ (hn.take _) hr
    · cases h
  · rename_i α r k' d fl xs
    obtain ⟨h0, h'⟩ := bif_of h
    clear h
    have hk := beqT h0
    subst hk
    obtain ⟨h1, ys, h2, h3, h4⟩ := req_of h'
    rw [SN.le_holds, SN.add_val] at h1
    simp only [SN.val_sym] at h1
    have hys : RL ε (ys.flatMap r) B := by
      split at h2
      · exact sles_rel h2 hn
      · rw [h2] at hn; exact hn
    have hlA : A.length = xs.length * k' := by rw [← hl]; exact flat_len hc.len
    have hlB : B.length = ys.length * k' := by rw [← hys.length]; exact flat_len hc.len
    have hb1 : e.val * k' + cnt.val * k' ≤ A.length := by rw [← Nat.add_mul, hlA]; exact Nat.mul_le_mul_right _ h1
    have hb2 : cnt.val * k' ≤ B.length := by rw [hlB]; exact Nat.mul_le_mul_right _ h3
    refine ⟨_, h4, hc, hb1, ?_⟩
    show RL ε ((xs.take e.val ++ ys.take cnt.val ++ xs.drop (e.val + cnt.val)).flatMap r) _
    rw [List.flatMap_append, List.flatMap_append, setCells_eq _ _ _ (by rw [List.length_take]; omega), ← flat_take hc.len, ← flat_take hc.len, ← flat_drop hc.len, List.length_take, Nat.min_eq_left hb2, ← Nat.add_mul]
    exact ((RL.take hr _).append (hys.take _)).append (RL.drop hr _)
/-- A block of the call's own is written over. -/
theorem wr_block (hH : RH ε H L) {b : Nat} {blk : SBlk} {e0 : BE} {b' v0 : Nat} {ablk : Blk} (hb : sget H b = some blk) (g1 : ε b = some e0) (g2 : e0.act = some (b', v0)) (g3 : e0.sv = blk.ver) (g5 : hget L b' = some ablk) (g6 : ablk.ver = v0) (g7 : ablk.k = blk.k) (g8 : blk.fz = false → ablk.fz = false)
    {c : SC} {cells : List V} (hc : COK c) (hr : RL ε c.list cells) {s : SV} {v : V} (hv : RV ε s v) : ER ε (updF ε b ⟨blk.ver, some (b', ablk.ver)⟩) H L base vbase ⟨s, [(b, blk.with c)], []⟩ ⟨v, [(b', { ablk with cells := cells })], []⟩ := by
  have hself : updF ε b ⟨blk.ver, some (b', ablk.ver)⟩ = ε := by
    apply updF_self'
    rw [g1]
    cases e0 with
    | mk sv act => simp only at g2 g3; rw [g2, g3, g6]
  exact ER.wr1 (blk := blk) (e0 := e0) (v0 := v0) (nblk := blk.with c) (nab := { ablk with cells := cells }) hb g1 g2 g5 (.inl ⟨g3.symm, g6⟩) g7 g8 hc hr (by show RV (updF ε b ⟨blk.ver, some (b', ablk.ver)⟩) s v; rw [hself]; exact hv)
theorem copyS_of (hH : RH ε H L) {e : TypeId} {d x : SV} {dv xv : V} (rd : RV ε d dv) (rx : RV ε x xv) {K : SEff → Prop} (h : copyS P H e d x K) : ∃ se ef ε', K se ∧ copyV P L e dv xv = some ef ∧ ER ε ε' H L base vbase se ef := by
  unfold copyS at h
  split at h
  · rename_i g k b o k' ver n hz
    split at h
    · rename_i blk hb
      obtain ⟨h0, h⟩ := bif_of h
      obtain ⟨h0, hlz⟩ := andT h0
      obtain ⟨h0, hk⟩ := andT h0
      obtain ⟨hver, hfz⟩ := andT h0
      have hfz : blk.fz = false := by simpa using hfz
      have hlz : blk.lz = false := by simpa using hlz
      have hk := beqT hk
      subst hk
      obtain ⟨c, m, A, g1, g2, g3, g4, g5, _⟩ := rowS_of hH rx h
      obtain ⟨hone, g1⟩ := bif_of g1
      obtain ⟨e0, k1, k3, gc, hq⟩ := slB_at' hH hb hver rd
      rcases hq with ⟨b', v0, ablk, q2, rfl, q5, q6, q7, q8, q9⟩ | ⟨q1, _⟩
      · have hmin : (SN.min m n).val = min m.val n.val := by cases m <;> cases n <;> rfl
        obtain ⟨c2, j1, j2, j3, j4⟩ := SC.over_of g1 gc q9 g4 (by rw [g5, hmin]; exact Nat.mul_le_mul_right _ (Nat.min_le_left _ _))
        rw [hmin] at j3 j4
        refine ⟨_, _, _, j1, ?_, wr_block (cells := setCells ablk.cells (o.val * k') (A.take (min m.val n.val * k'))) hH hb k1 q2 k3 q5 q6 q7 q8 j2 j4 (.int .i64 _ ((min m.val n.val : Nat) : Int) (by rw [SN.toI_val, hmin]))⟩
        simp only [copyV, hz, g2, lenV, q5]
        rw [if_pos ⟨q6, q8 hfz, j3, ones_rel hone g3 g4⟩]
      · rw [q1] at hlz; cases hlz
    · cases h
  · cases h
theorem clearS_of (hH : RH ε H L) {e : TypeId} {d : SV} {dv : V} (rd : RV ε d dv) {K : SEff → Prop} (h : clearS P H e d K) : ∃ se ef ε', K se ∧ clearV P L e dv = some ef ∧ ER ε ε' H L base vbase se ef := by
  unfold clearS at h
  split at h
  · rename_i g k z b o k' ver n hz hzs
    split at h
    · rename_i blk hb
      obtain ⟨h0, h⟩ := bif_of h
      obtain ⟨h0, hzo⟩ := andT h0
      obtain ⟨h0, hzk⟩ := andT h0
      obtain ⟨h0, hlz⟩ := andT h0
      obtain ⟨h0, hk⟩ := andT h0
      obtain ⟨hver, hfz⟩ := andT h0
      have hfz : blk.fz = false := by simpa using hfz
      have hlz : blk.lz = false := by simpa using hlz
      have hk := beqT hk
      have hzk := beqT hzk
      rw [slen_eq] at hzk
      subst hk
      obtain ⟨zv, hzv, rz⟩ := zeroS_of (ε := ε) hzs
      have hzl : zv.length = k' := by rw [← rz.length]; exact hzk
      obtain ⟨e0, k1, k3, gc, hq⟩ := slB_at' hH hb hver rd
      rcases hq with ⟨b', v0, ablk, q2, rfl, q5, q6, q7, q8, q9⟩ | ⟨q1, _⟩
      · have fin : ∀ (c2 : SC), K ⟨.tup [], [(b, blk.with c2)], []⟩ → COK c2 → o.val * k' + n.val * k' ≤ ablk.cells.length → RL ε c2.list (setCells ablk.cells (o.val * k') (zerosV zv n.val)) →
            ∃ se ef ε', K se ∧ clearV P L e (.slB b' (o.val * k') v0 n.val) = some ef ∧ ER ε ε' H L base vbase se ef := by
          intro c2 j1 j2 j3 j4
          refine ⟨_, _, _, j1, ?_, wr_block (cells := setCells ablk.cells (o.val * k') (zerosV zv n.val)) hH hb k1 q2 k3 q5 q6 q7 q8 j2 j4 undef_rv⟩
          simp only [clearV, hz, hzv, lenV, q5]
          rw [if_pos ⟨q6, q8 hfz, j3, hzl, sones_rel rz hzo⟩]
        have htk : (zerosV zv n.val).take (n.val * k') = zerosV zv n.val := List.take_of_length_le (by rw [zerosV_len, hzl]; exact Nat.le_refl _)
        split at h
        · rename_i l hl
          rw [hl] at gc q9
          cases n with
          | lit n =>
            obtain ⟨c2, j1, j2, j3, j4⟩ := SC.over_of h gc q9 (szeros_rel rz n) (by
              have := (szeros_rel rz n).length
              rw [zerosV_len, hzl] at this
              exact Nat.le_of_eq this.symm)
            simp only [SN.val_lit] at j4 htk
            rw [htk] at j4
            exact fin c2 j1 j2 j3 j4
          | sym n => cases h
        · rename_i α r k'' d fl xs hl
          rw [hl] at gc q9
          obtain ⟨y, h1, h2⟩ := h
          have hrep : RL ε (SC.rows r k'' d fl (List.replicate n.val y)).list (zerosV zv n.val) := by
            show RL ε ((List.replicate n.val y).flatMap r) _
            have hy := sles_rel h1 rz
            clear h2 fin htk
            induction n.val with
            | zero => exact .nil
            | succ m ih => rw [List.replicate_succ, List.flatMap_cons]; exact hy.append ih
          obtain ⟨c2, j1, j2, j3, j4⟩ := SC.over_of h2 gc q9 hrep (by
              have := hrep.length
              rw [zerosV_len, hzl] at this
              exact Nat.le_of_eq this.symm)
          rw [htk] at j4
          exact fin c2 j1 j2 j3 j4
      · rw [q1] at hlz; cases hlz
    · cases h
  · cases h
theorem minmax_run {mx : Bool} {t : List V} {o : Oper} {c : Call} {x y : Operand} {k l : IntKind} {a b : Int} (ho : o.op = .call c) (hb : c.callee = .builtin (if mx then .max else .min)) (hargs : c.args.toList = [x, y]) (hx : evalV t x = some (.int k a)) (hy : evalV t y = some (.int l b)) :
    pureOp P t o = some (Eff.pure (.int k (if mx then (if b > a then b else a) else if b < a then b else a))) := by
  obtain ⟨cal, args, ats⟩ := c
  simp only at hb hargs
  subst hb
  have ha : args = #[x, y] := by
    have := congrArg List.toArray hargs
    simpa using this
  subst ha
  have h1 : o.op.operands.toList.all (fun x => ((evalV t x).bind toVal).isSome) = true := by
    rw [ho]
    cases mx <;> simp [Op.operands, Call.operands, hx, hy, toVal, toAg, toSc]
  have rx : ρOf t x = .int k a := by simp [ρOf, hx, toVal, toAg, toSc]
  have ry : ρOf t y = .int l b := by simp [ρOf, hy, toVal, toAg, toSc]
  unfold pureOp
  rw [if_pos h1]
  simp only [ho]
  unfold execOp
  simp only [ho]
  cases mx
  · simp [resolve, invoke, builtin, rx, ry, Builtin.min_, Builtin.min2]; rfl
  · simp [resolve, invoke, builtin, rx, ry, Builtin.max_, Builtin.max2]; rfl
theorem builtinS_of {C : Nat → CallF} {o : Oper} {K : SEff → Prop} {c : Call} {b : Builtin} (ht : RL ε t tv) (hH : RH ε H L) (hf0 : ε base = none) (ho : o.op = .call c) (hb : c.callee = .builtin b)
    (h : builtinS cx P H base t o b c.args.toList c.argTypes K) : OpR P C ε H L tv base vbase o K := by
  have hop : ∀ call, opS P call L vbase tv o = builtinE P L vbase tv o b c.args.toList c.argTypes := fun call => by simp only [opS, ho, hb]
  unfold builtinS at h
  split at h
  · rename_i x y ty tyx hargs hats
    split at h
    · rename_i e d s v hu hux hx hy
      obtain ⟨sv, g1, g2⟩ := evalS_rel ht hx
      obtain ⟨xv, g3, g4⟩ := evalS_rel ht hy
      obtain ⟨se, ef, ε', k1, k2, k3⟩ := appendS_of (vbase := vbase) hH g2 g4 hf0 h
      exact OpR.eff k1 (fun call => by rw [hop]; simp only [builtinE, hargs, hats, hu, hux, g1, g3, k2]) k3
    · cases h
  · rename_i x y ty rest hargs hats
    split at h
    · rename_i e d v hu hx hy
      obtain ⟨sv, g1, g2⟩ := evalS_rel ht hx
      obtain ⟨xv, g3, g4⟩ := evalS_rel ht hy
      obtain ⟨se, ef, ε', k1, k2, k3⟩ := copyS_of (base := base) (vbase := vbase) hH g2 g4 h
      exact OpR.eff k1 (fun call => by rw [hop]; simp only [builtinE, hargs, hats, hu, g1, g3, k2]) k3
    · cases h
  · rename_i x ty rest hargs hats
    split at h
    · rename_i e d hu hx
      obtain ⟨sv, g1, g2⟩ := evalS_rel ht hx
      obtain ⟨se, ef, ε', k1, k2, k3⟩ := clearS_of (base := base) (vbase := vbase) hH g2 h
      exact OpR.eff k1 (fun call => by rw [hop]; simp only [builtinE, hargs, hats, hu, g1, k2]) k3
    · cases h
  · rename_i x ty hargs hats
    split at h
    · rename_i e s hu hx
      obtain ⟨v, g1, g2⟩ := evalS_rel ht hx
      split at h
      · rename_i n hn
        obtain ⟨g3, g4⟩ := lenS_of hH g2 hn
        refine OpR.val (v := .int .i64 (n.val : Int)) h (fun call => ?_) (.int _ _ _ (SN.toI_val n).symm)
        rw [hop]
        simp only [builtinE, hargs, hats, hu, g1]
        cases v with
        | str x => exact absurd rfl (g4 x)
        | _ => simp only [g3, Option.map_some]
      · cases h
    · rename_i s hu hx
      obtain ⟨s', v, h1, h2, h3⟩ := pureS_of (call := C 0) ht h
      refine OpR.val h1 (fun call => ?_) h3
      rw [hop]
      simp only [builtinE, hargs, hats, hu]
      exact h2
    · cases h
  · rename_i x y _ hargs
    split at h
    · rename_i k a l b hx hy
      obtain ⟨vx, g1, g2⟩ := evalS_rel ht hx
      obtain ⟨vy, g3, g4⟩ := evalS_rel ht hy
      cases g2 with
      | int _ _ m hm => cases g4 with
        | int _ _ m' hm' =>
          subst hm hm'
          refine OpR.val (v := .int k (if b.val < a.val then b.val else a.val)) h (fun call => ?_) (.int _ _ _ (by cases a <;> cases b <;> rfl))
          rw [hop]
          simp only [builtinE, hargs]
          exact minmax_run (mx := false) ho hb hargs g1 g3
    · cases h
  · rename_i x y _ hargs
    split at h
    · rename_i k a l b hx hy
      obtain ⟨vx, g1, g2⟩ := evalS_rel ht hx
      obtain ⟨vy, g3, g4⟩ := evalS_rel ht hy
      cases g2 with
      | int _ _ m hm => cases g4 with
        | int _ _ m' hm' =>
          subst hm hm'
          refine OpR.val (v := .int k (if b.val > a.val then b.val else a.val)) h (fun call => ?_) (.int _ _ _ (by cases a <;> cases b <;> rfl))
          rw [hop]
          simp only [builtinE, hargs]
          exact minmax_run (mx := true) ho hb hargs g1 g3
    · cases h
  · cases h

theorem sop_of {call : SCall} {C : Nat → CallF} (hC : SCallOK call C) (hH : RH ε H L) (ht : RL ε t tv) (hf : ∀ b, base ≤ b → ε b = none) {o : Oper} {K : SEff → Prop} (h : sop cx P call H base t o K) :
    OpR P C ε H L tv base vbase o K := by
  have hf0 := hf base (Nat.le_refl _)
  have pure' : pureS P t o K → (∀ call e, pureOp P tv o = some e → opS P call L vbase tv o = some e) → OpR P C ε H L tv base vbase o K := fun h1 h2 => pureOpR ht h1 h2
  unfold sop at h
  cases ho : o.op <;> simp only [ho] at h
  case move x =>
    split at h
    · rename_i s hs
      obtain ⟨v, h1, h2⟩ := evalS_rel ht hs
      exact OpR.val h (fun call => by simp only [opS, ho, h1]; rfl) h2
    · cases h
  case assign x =>
    split at h
    · rename_i s hs
      obtain ⟨v, h1, h2⟩ := evalS_rel ht hs
      exact OpR.val h (fun call => by simp only [opS, ho, h1]; rfl) h2
    · cases h
  case pick c x y =>
    split at h
    · rename_i b s1 s2 hc hx hy
      obtain ⟨vc, g1, g2⟩ := evalS_rel ht hc
      obtain ⟨v1, g3, g4⟩ := evalS_rel ht hx
      obtain ⟨v2, g5, g6⟩ := evalS_rel ht hy
      cases g2 with
      | bool _ cb hb =>
        rcases bra_of h with ⟨q1, q2⟩ | ⟨q1, q2⟩
        · have := hb.2 q1
          subst this
          exact OpR.val q2 (fun call => by simp only [opS, ho, g1, g3, g5]; rfl) g4
        · have hc0 : cb = false := by cases cb with | false => rfl | true => exact absurd (hb.1 rfl) q1
          subst hc0
          exact OpR.val q2 (fun call => by simp only [opS, ho, g1, g3, g5]; rfl) g6
    · cases h
  case alloc ty =>
    split at h
    · rename_i z hz
      obtain ⟨zv, h1, h2⟩ := zeroS_of (ε := ε) hz
      exact OpR.eff h (fun call => by simp only [opS, ho, h1]) (ER.new1 hf0 trivial h2 (new_pv hf0))
    · cases h
  case box ty x =>
    split at h
    · rename_i s hs
      obtain ⟨hone, h⟩ := bif_of h
      obtain ⟨v, h1, h2⟩ := evalS_rel ht hs
      have rc := cellsV_rel h2 hone
      exact OpR.eff h (fun call => by simp only [opS, ho, h1]; rw [if_pos (sones_rel rc hone)]) (ER.new1 hf0 trivial rc (new_pv hf0))
    · cases h
  case build ty parts =>
    split at h
    · rename_i s hs
      obtain ⟨v, h1, h2⟩ := buildS_of ht hs
      exact OpR.val h (fun call => by simp only [opS, ho, h1]; rfl) h2
    · cases h
  case buildSlice ty len parts =>
    split at h
    · rename_i s hs
      obtain ⟨v, h1, h2⟩ := buildSliceS_of ht hs
      exact OpR.val h (fun call => by simp only [opS, ho, h1]) h2
    · cases h
  case load ty x =>
    split at h
    · rename_i p hp
      obtain ⟨v, h1, h2⟩ := evalS_rel ht hp
      obtain ⟨s, w, g1, g2, g3⟩ := loadS_of hH h2 h
      exact OpR.val g1 (fun call => by simp only [opS, ho, h1, g2]; rfl) g3
    · cases h
  case store ty x y =>
    split at h
    · rename_i p s hp hs
      obtain ⟨vp, h1, h2⟩ := evalS_rel ht hp
      obtain ⟨vs, h3, h4⟩ := evalS_rel ht hs
      obtain ⟨se, e, ε', g1, g2, g3, g4⟩ := storeS_of (base := base) (vbase := vbase) hH h2 h4 h
      exact OpR.eff g1 (fun call => by simp only [opS, ho, h1, h3, g2]) g3
    · cases h
  case nilCheck x =>
    split at h
    · rename_i p hp
      obtain ⟨v, h1, h2⟩ := evalS_rel ht hp
      obtain ⟨s, w, g1, g2, g3⟩ := ptrAddS_of hH h2 h
      exact OpR.val g1 (fun call => by simp only [opS, ho, h1, g2]; rfl) h2
    · cases h
  case binOp op ty x y tz =>
    split at h
    · rename_i a b ha hb
      exact binOpS_of ht ho ha hb h
    · cases h
  case unOp op ty x =>
    have fb : ∀ call e, pureOp P tv o = some e → opS P call L vbase tv o = some e := fun call e he => by simp only [opS, ho]; exact he
    split at h
    · rename_i p hx
      obtain ⟨v, h1, h2⟩ := evalS_rel ht hx
      cases h2 with
      | bool _ c hc =>
        refine OpR.val h (fun call => fb call _ (not_run ho h1)) (.bool _ _ ?_)
        simp only [SB.holds] at hc ⊢
        rw [← hc]
        cases c <;> simp
    · rename_i k n hx
      obtain ⟨v, h1, h2⟩ := evalS_rel ht hx
      cases h2 with
      | int _ _ m hm =>
        have hm : m = n := hm
        subst hm
        exact OpR.val h (fun call => fb call _ (compl_run ho h1)) (.int _ _ _ rfl)
    · exact pure' h fb
  case makeInterface ty x =>
    split at h
    · cases h
    · rename_i d s hne hd hx
      obtain ⟨v, h1, h2⟩ := evalS_rel ht hx
      refine OpR.val h (fun call => ?_) (.iface ty h2)
      simp only [opS, ho, h1, hd]
    · cases h
  case makeFunc fn first captured =>
    split at h
    · rename_i f c h1 h2
      obtain ⟨f', g1, g2⟩ := evalSL_rel ht h1
      obtain ⟨c', g3, g4⟩ := evalSL_rel ht h2
      exact OpR.val h (fun call => by simp only [opS, ho, g1, g3]) (.func fn g2 g4)
    · cases h
  case makeSlice ty x y =>
    split at h
    · rename_i e k1 l k2 c hu hx hy
      split at h
      · rename_i z i hz hi
        obtain ⟨hb, h⟩ := bif_of h
        obtain ⟨h1, h⟩ := req_of h
        obtain ⟨h2, h⟩ := req_of h
        obtain ⟨h3, h⟩ := req_of h
        rw [SI.le_holds] at h1 h2 h3
        simp only [SI.val_lit] at h1 h3
        obtain ⟨zv, g1, g2⟩ := zeroS_of (ε := ε) hz
        obtain ⟨cs, g3, g4, g5⟩ := makeS_of g2 h
        obtain ⟨vx, g6, g7⟩ := evalS_rel ht hx
        obtain ⟨vy, g8, g9⟩ := evalS_rel ht hy
        cases g7 with
        | int _ _ m hm => cases g9 with
          | int _ _ m' hm' =>
            subst hm hm'
            have hzl : slen z = zv.length := by rw [slen_eq]; exact g2.length
            rw [hzl] at g3
            rw [SI.toN_val] at g5
            refine OpR.eff g3 (fun call => ?_) (ER.new1 hf0 g4 g5 (by have := new_rv (vbase := vbase) (k := zv.length) (m := l.toN) hf0; rwa [SI.toN_val] at this))
            simp only [opS, ho, hu, g6, g8, g1, hi]
            rw [if_pos ⟨h1, h2, h3, bleT hb⟩]
      · cases h
    · cases h
  case slice ty x lo hi mx =>
    split at h
    · rename_i e s l hh m hu hx hl hhi hm
      split at h
      · rename_i g k hz
        obtain ⟨v, h1, h2⟩ := evalS_rel ht hx
        obtain ⟨s', w, g1, g2, g3⟩ := cutS_of hH h2 h
        exact OpR.val g1 (fun call => by simp only [opS, ho, hu, h1, optS_rel ht hl, optS_rel ht hhi, optS_rel ht hm, hz, g2]; rfl) g3
      · cases h
    · cases h
  case fieldAddr s x f =>
    split at h
    · rename_i p off ft hp hof
      obtain ⟨v, h1, h2⟩ := evalS_rel ht hp
      obtain ⟨s', w, g1, g2, g3⟩ := ptrAddS_of hH h2 h
      exact OpR.val g1 (fun call => by simp only [opS, ho, h1, hof, g2]; rfl) g3
    · cases h
  case field s x f =>
    split at h
    · rename_i fs cs hu hx
      split at h
      · rename_i fl hfl
        obtain ⟨v, h1, h2⟩ := evalS_rel ht hx
        cases h2 with
        | agg q =>
          obtain ⟨s', w, g1, g2, g3⟩ := partS_of q h
          exact OpR.val g1 (fun call => by simp only [opS, ho, hu, h1, hfl, g2]; rfl) g3
      · cases h
    · cases h
  case indexAddr s x y =>
    split at h
    · rename_i p k i hp hi
      obtain ⟨v, h1, h2⟩ := evalS_rel ht hp
      obtain ⟨vi, h3, h4⟩ := evalS_rel ht hi
      cases h4 with
      | int _ _ m hm =>
        subst hm
        obtain ⟨s', w, g1, g2, g3⟩ := idxAddrS_of hH h2 h
        exact OpR.val g1 (fun call => by simp only [opS, ho, h1, h3, g2]; rfl) g3
    · cases h
  case index s x y =>
    split at h
    · rename_i n e cs k i hu hx hy
      split at h
      · rename_i g k hz
        obtain ⟨h1, h⟩ := req_of h
        obtain ⟨h2, h⟩ := req_of h
        rw [SI.le_holds] at h1
        rw [SI.lt_holds] at h2
        simp only [SI.val_lit] at h1 h2
        obtain ⟨h3, h4⟩ := caseN_of h
        rw [SI.toN_val] at h4
        obtain ⟨v, g1, g2⟩ := evalS_rel ht hx
        obtain ⟨vi, g3, g4⟩ := evalS_rel ht hy
        cases g2 with
        | agg q => cases g4 with
          | int _ _ m hm =>
            subst hm
            obtain ⟨s', w, k1, k2, k3⟩ := partS_of q h4
            refine OpR.val k1 (fun call => ?_) k3
            simp only [opS, ho, hu, g1, g3, hz]
            rw [if_pos ⟨h1, h2⟩, k2]
            rfl
      · cases h
    · cases h
  case extract x i =>
    split at h
    · rename_i vs hx
      split at h
      · rename_i s hs
        obtain ⟨v, h1, h2⟩ := evalS_rel ht hx
        cases h2 with
        | tup q =>
          obtain ⟨w, g1, g2⟩ := q.get i s hs
          exact OpR.val h (fun call => by simp only [opS, ho, h1, g1]; rfl) g2
      · cases h
    · cases h
  case call c =>
    cases hcal : c.callee with
    | builtin b =>
      simp only [hcal] at h
      exact builtinS_of ht hH hf0 ho hcal h
    | value x =>
      simp only [hcal] at h
      split at h
      · rename_i f vs hr
        obtain ⟨vs', g1, g2⟩ := resolveS_of ht hr
        obtain ⟨se, e, ε', k1, ⟨N, k2⟩, k3⟩ := scallE_of (vbase := vbase) hC hH hf g2 h
        exact ⟨se, e, ε', k1, ⟨N, fun n hn => by simp only [opS, ho, hcal, g1]; exact k2 n hn⟩, k3⟩
      · cases h
    | invoke x name =>
      simp only [hcal] at h
      split at h
      · rename_i f vs hr
        obtain ⟨vs', g1, g2⟩ := resolveS_of ht hr
        obtain ⟨se, e, ε', k1, ⟨N, k2⟩, k3⟩ := scallE_of (vbase := vbase) hC hH hf g2 h
        exact ⟨se, e, ε', k1, ⟨N, fun n hn => by simp only [opS, ho, hcal, g1]; exact k2 n hn⟩, k3⟩
      · cases h
  case convert src dst x =>
    split at h
    · rename_i ds dd s hs hd hx
      exact convS_of ht hH hf0 ho hs hd hx h
    · cases h
  all_goals exact pure' h (fun call e he => by simp only [opS, ho]; exact he)
end
end
end Go.Proofs.Ytifgifhbefhkmaa.VM
