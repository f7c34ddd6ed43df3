/- Values with labels: appends, cuts, builds. No conditions. -/
import Derived.Test.YtifgifhbefhkmaaSVf
namespace Go.Proofs.Ytifgifhbefhkmaa.VM
set_option linter.unusedSimpArgs false
set_option linter.unusedVariables false
open Go Go.RowKit
noncomputable section
section
variable {P : Program} {ε : Nat → Option BE} {H : SHeap} {L : Heap} {t : List SV} {tv : List V} {base vbase : Nat} {cx : SCfg}

theorem zeroS_of {e : TypeId} {z : List SV} (h : zeroS P e = some z) : ∃ zv, zeroV P e = some zv ∧ RL ε z zv := by
  obtain ⟨zv, h1, rfl⟩ := mapU_some h
  exact ⟨zv, h1, toSL_rel 9 zv⟩
theorem szeros_rel {z : List SV} {zv : List V} (h : RL ε z zv) : ∀ n, RL ε (szeros z n) (zerosV zv n)
  | 0 => .nil
  | n + 1 => h.append (szeros_rel h n)
theorem zerosV_len (z : List V) : ∀ n, (zerosV z n).length = n * z.length := zerosV_length z
theorem makeS_of {e : TypeId} {l : SN} {z : List SV} {zv : List V} (hz : RL ε z zv) {K : SC → Prop} (h : makeS cx P e l z K) : ∃ c, K c ∧ COK c ∧ RL ε c.list (zerosV zv l.val) := by
  unfold makeS at h
  split at h
  · exact ⟨_, h, trivial, szeros_rel hz _⟩
  · rename_i l
    split at h
    · rename_i w hw
      obtain ⟨h1, h2⟩ := h
      obtain ⟨h3, h4, h5⟩ := bif_of h2
      refine ⟨_, h5, h1, ?_⟩
      have hr := sles_rel h4 hz
      show RL ε ((List.replicate l w.zero).flatMap w.r) (zerosV zv l)
      clear h5 h2
      induction l with
      | zero => exact .nil
      | succ l ih => rw [List.replicate_succ, List.flatMap_cons]; exact hr.append ih
    · cases h
theorem SC.app_of {a b : SC} {K : SC → Prop} (h : a.app b K) {A B : List V} (ca : COK a) (cb : COK b) (ra : RL ε a.list A) (rb : RL ε b.list B) : ∃ c, K c ∧ COK c ∧ RL ε c.list (A ++ B) := by
  cases a with
  | lit l => cases b with
    | lit m => exact ⟨_, h, trivial, ra.append rb⟩
    | rows r k d fl xs => cases l with
      | nil =>
        cases ra
        exact ⟨_, h, cb, rb⟩
      | cons x l =>
        obtain ⟨ys, h1, h2⟩ := h
        refine ⟨_, h2, cb, ?_⟩
        show RL ε ((ys ++ xs).flatMap r) _
        rw [List.flatMap_append]
        exact RL.append (sles_rel h1 ra) rb
  | rows r k d fl xs => cases b with
    | lit m => cases m with
      | nil =>
        cases rb
        rw [List.append_nil]
        exact ⟨_, h, ca, ra⟩
      | cons x m =>
        have h' : bif Nat.beq (slen (x :: m)) k then ∃ y, sles (x :: m) (r y) ∧ K (.rows r k d fl (xs ++ [y])) else ∃ ys, sles (x :: m) (ys.flatMap r) ∧ K (.rows r k d fl (xs ++ ys)) := h
        cases hq : Nat.beq (slen (x :: m)) k with
        | true =>
          rw [hq] at h'
          obtain ⟨y, h1, h2⟩ := h'
          refine ⟨_, h2, ca, ?_⟩
          show RL ε ((xs ++ [y]).flatMap r) _
          rw [List.flatMap_append]
          exact RL.append ra (by rw [List.flatMap_cons, List.flatMap_nil, List.append_nil]; exact sles_rel h1 rb)
        | false =>
          rw [hq] at h'
          obtain ⟨ys, h1, h2⟩ := h'
          refine ⟨_, h2, ca, ?_⟩
          show RL ε ((xs ++ ys).flatMap r) _
          rw [List.flatMap_append]
          exact RL.append ra (sles_rel h1 rb)
    | rows r' k' d' fl' xs' =>
      obtain ⟨ys, h1, h2⟩ := h
      rw [h1] at rb
      refine ⟨_, h2, ca, ?_⟩
      show RL ε ((xs ++ ys).flatMap r) _
      rw [List.flatMap_append]
      exact RL.append ra rb

theorem room {n b : Nat} (h : n ≤ 2 ^ 40 / b) (hb : b ≠ 0) : n * b ≤ 2 ^ 40 ∧ n ≤ 2 ^ 40 := by
  have h1 : n * b ≤ 2 ^ 40 := (Nat.le_div_iff_mul_le (Nat.pos_of_ne_zero hb)).1 h
  refine ⟨h1, Nat.le_trans ?_ h1⟩
  exact Nat.le_mul_of_pos_right _ (Nat.pos_of_ne_zero hb)

theorem SC.from_of {cs : SC} {k : Nat} {o n : SN} {K : SC → Prop} (h : cs.from k o n K) {A : List V} (hc : COK cs) (hr : RL ε cs.list A) :
    ∃ c, K c ∧ COK c ∧ RL ε c.list (A.drop (o.val * k)) ∧ o.val * k + n.val * k = A.length := by
  have hl := hr.length
  unfold SC.from at h
  split at h
  · rename_i l
    split at h
    · obtain ⟨h1, h2⟩ := bif_of h
      have h3 := beqT h1
      rw [slen_eq] at h3
      refine ⟨_, h2, trivial, ?_, by rw [← Nat.add_mul]; exact h3.trans hl⟩
      rw [sdrop_eq]
      exact hr.drop _
    · cases h
  · rename_i α r k' d fl xs
    obtain ⟨h1, h2, h3⟩ := bif_of h
    have hk := beqT h1
    subst hk
    rw [SN.add_val] at h2
    rw [rdrop_eq] at h3
    refine ⟨_, h3, hc, ?_, ?_⟩
    · show RL ε ((xs.drop o.val).flatMap r) _
      rw [← flat_drop hc.len]
      exact hr.drop _
    · rw [← Nat.add_mul, h2, ← hl]
      exact (flat_len hc.len).symm

theorem appTo_of (hH : RH ε H L) {e : TypeId} {zeros : Bool} {s : SV} {sv xv : V} (rs : RV ε s sv) (hf : ε base = none) {zv : List V} {i : TypeInfo} (hzv : zeroV P e = some zv) (hi : P.info? e = some i)
    (hb1 : i.bytes ≤ 2 ^ 20) (hb2 : i.bytes ≠ 0) {new : SC} {m : SN} {B : List V} (hnew : newRowV L zv zeros xv = some (B, m.val)) (cn : COK new) (rn : RL ε new.list B) (hone : B.all V.one = true)
    {K : SEff → Prop} (h : appTo H base zv.length i.bytes s new m K) :
    ∃ se ef ε', K se ∧ appendV P L vbase e zeros sv xv = some ef ∧ ER ε ε' H L base vbase se ef := by
  have erNew : ∀ {c : SC} {A : List V} {n : SN}, COK c → RL ε c.list A →
      ER ε (updF ε base ⟨0, some (vbase, 0)⟩) H L base vbase ⟨.slB base (.lit 0) zv.length 0 n, [], [⟨c, zv.length, 0, false, false⟩]⟩ ⟨.slB vbase 0 0 n.val, [], [⟨A, zv.length, 0, false⟩]⟩ := by
    intro c A n hc hr
    exact ER.new1 hf hc hr (.slB (e := ⟨0, some (vbase, 0)⟩) (by simp [updF]) (Nat.le_refl _) (fun _ => .inl ⟨vbase, 0, rfl, by simp⟩) rfl)
  have mkNil : sv = .nilSl → m.val ≤ 2 ^ 40 / i.bytes → appendV P L vbase e zeros sv xv = some ⟨.slB vbase 0 0 m.val, [], [⟨B, zv.length, 0, false⟩]⟩ := by
    intro hs hm
    subst hs
    obtain ⟨g1, g2⟩ := room hm hb2
    simp only [appendV, hzv, hi, hnew]
    rw [if_pos ⟨hb1, hb2, g2, g1⟩]
  unfold appTo at h
  split at h
  · obtain ⟨h1, h2⟩ := req_of h
    rw [SN.le_holds] at h1
    cases rs
    exact ⟨_, _, _, h2, mkNil rfl h1, erNew cn rn⟩
  · rename_i fr cs n
    obtain ⟨h1, h2⟩ := req_of h
    rw [SN.le_holds, SN.add_val] at h1
    obtain ⟨g1, g2⟩ := room h1 hb2
    have hm2 : m.val ≤ 2 ^ 40 := by omega
    have hm3 : m.val * i.bytes ≤ 2 ^ 40 := Nat.le_trans (Nat.mul_le_mul_right _ (by omega)) g1
    cases rs with
    | slIn q1 q2 =>
      rcases bra_of h2 with ⟨h3, h4⟩ | ⟨h3, h4⟩
      · exact ⟨_, _, _, h4, mkNil rfl (by simp only [SN.val_lit] at h1; omega), erNew cn rn⟩
      · rw [SN.eq_holds] at h3
        exact absurd q1 h3
    | slI0 q1 q2 q3 q4 =>
      have ht := q2 rfl
      subst ht
      rcases bra_of h2 with ⟨h3, h4⟩ | ⟨h3, h4⟩
      · refine ⟨_, _, _, h4, ?_, erNew cn rn⟩
        simp only [appendV, hzv, hi, hnew]
        rw [if_pos ⟨hb1, hb2, hm2, hm3⟩]
        rw [if_pos ⟨by simpa using hm3, by simp, by omega⟩, if_neg (by simp)]
        simp
      · rw [SN.eq_holds] at h3
        exact absurd q3 h3
    | slI q1 q2 q3 q4 q5 =>
      rename_i fr' tt' cs' m'
      subst q3
      have ht := q2 rfl
      subst ht
      rcases bra_of h2 with ⟨h3, h4⟩ | ⟨h3, h4⟩
      · rw [SN.eq_holds] at h3
        simp only [SN.val_lit] at h3
        refine ⟨_, _, _, h4, ?_, erNew cn rn⟩
        simp only [appendV, hzv, hi, hnew]
        rw [if_pos ⟨hb1, hb2, hm2, hm3⟩]
        rw [if_pos ⟨g1, by rw [h3]; simp, g2⟩, if_neg (by simp [h3])]
        simp [h3]
      · rw [SN.eq_holds] at h3
        simp only [SN.val_lit] at h3
        obtain ⟨c, k1, k2, k3, k4, k5⟩ := SC.cut_of h4 q5 q4
        simp only [SN.val_lit, Nat.zero_add, Nat.zero_mul, List.drop_zero] at k3 k4
        rcases bra_of k1 with ⟨h5, h6⟩ | ⟨h5, h6⟩
        · rw [SN.eq_holds] at h5
          simp only [SN.val_lit] at h5
          refine ⟨_, _, _, h6, ?_, ER.pure (.slI q1 (fun _ => rfl) rfl q4 q5)⟩
          simp only [appendV, hzv, hi, hnew]
          rw [if_pos ⟨hb1, hb2, hm2, hm3⟩]
          rw [if_pos ⟨g1, k3, g2⟩, if_pos ⟨h5, h3⟩]
        · obtain ⟨c2, k6, k7, k8⟩ := SC.app_of h6 k2 cn k4 rn
          have e1 := erNew (n := n.add m) k7 k8
          rw [SN.add_val] at e1
          refine ⟨_, _, _, k6, ?_, e1⟩
          simp only [appendV, hzv, hi, hnew]
          rw [if_pos ⟨hb1, hb2, hm2, hm3⟩]
          rw [if_pos ⟨g1, k3, g2⟩, if_neg (by rw [SN.eq_holds] at h5; simp only [SN.val_lit] at h5; exact fun q => h5 q.1)]
  · rename_i b o k ver n
    split at h
    · rename_i blk hbk
      obtain ⟨hc, h0⟩ := bif_of h
      clear h
      obtain ⟨hc, hk2⟩ := andT hc
      obtain ⟨hc, hk1⟩ := andT hc
      obtain ⟨hver, hfz⟩ := andT hc
      have hfz : blk.fz = false := by simpa using hfz
      have hk1 := beqT hk1
      have hk2 := beqT hk2
      subst hk2
      obtain ⟨h1, h2⟩ := req_of h0
      rw [SN.le_holds, SN.add_val] at h1
      obtain ⟨g1, g2⟩ := room h1 hb2
      have hm2 : m.val ≤ 2 ^ 40 := by omega
      have hm3 : m.val * i.bytes ≤ 2 ^ 40 := Nat.le_trans (Nat.mul_le_mul_right _ (by omega)) g1
      obtain ⟨e0, g3, g4, gc, hq⟩ := slB_at' hH hbk hver rs
      have hv := beqT hver
      rcases hq with ⟨b', v0, ablk, q2, rfl, q5, q6, q7, q8, q9⟩ | ⟨q1, q2, rfl, q4, q5, q6⟩
      · obtain ⟨c, k1, k2, k3, k4⟩ := SC.from_of h2 gc q9
        obtain ⟨c2, k6, k7, k8⟩ := SC.app_of k1 k2 cn k3 rn
        refine ⟨_, ⟨.slB b' 0 (v0 + 1) (n.val + m.val), [(b', ⟨ablk.cells.drop (o.val * zv.length) ++ B, zv.length, v0 + 1, false⟩)], []⟩, _, k6, ?_,
          ER.wr1 (blk := blk) (e0 := e0) (v0 := v0) (nblk := ⟨c2, zv.length, ver + 1, false, false⟩) (nab := ⟨ablk.cells.drop (o.val * zv.length) ++ B, zv.length, v0 + 1, false⟩) hbk g3 q2 q5 (.inr (by rw [g4, hv]; exact Nat.lt_succ_self _)) rfl (fun _ => rfl) k7 k8 ?_⟩
        · simp only [appendV, hzv, hi, hnew]
          rw [if_pos ⟨hb1, hb2, hm2, hm3⟩]
          simp only [q5]
          rw [if_pos ⟨q6, q8 hfz, q7.trans hk1, k4, g1, g2, hone⟩]
        · refine .slB (e := ⟨ver + 1, some (b', v0 + 1)⟩) (by simp [updF]) (Nat.le_refl _) (fun _ => .inl ⟨b', v0 + 1, rfl, ?_⟩) rfl
          rw [SN.add_val]
          simp
      · obtain ⟨c, k1, k2, k3, k4⟩ := SC.from_of (ε := ε) (A := []) h2 gc (by rw [q6]; exact .nil)
        obtain ⟨c2, k6, k7, k8⟩ := SC.app_of k1 k2 cn k3 rn
        refine ⟨_, _, _, k6, mkNil rfl (by simp only [SN.val_lit] at h1; omega), ER.lz1 (blk := blk) (e0 := e0) (nblk := ⟨c2, zv.length, ver + 1, false, false⟩) (nab := ⟨B, zv.length, 0, false⟩) hbk g3 (by assumption) (by rw [g4, hv]; exact Nat.lt_succ_self _) rfl (fun _ => rfl) k7 (by simpa using k8) ?_⟩
        refine .slB (e := ⟨ver + 1, some (vbase, 0)⟩) (by simp [updF]) (Nat.le_refl _) (fun _ => .inl ⟨vbase, 0, rfl, ?_⟩) rfl
        rw [SN.add_val, q4]
        simp
    · cases h
  · cases h
theorem ones_rel {c : SC} {A : List V} (h : c.ones = true) (hc : COK c) (hr : RL ε c.list A) : A.all V.one = true := by
  cases c with
  | lit l => exact sones_rel hr h
  | rows e k d fl xs =>
    have hall : ∀ v ∈ (SC.rows e k d fl xs).list, v.one = true := by
      intro v hv
      obtain ⟨x, _, hx⟩ := List.mem_flatMap.1 hv
      exact ((hc x).2.1 v hx).2
    revert hall hr
    generalize (SC.rows e k d fl xs).list = l
    intro hr hall
    clear h hc
    induction l generalizing A with
    | nil => cases hr; rfl
    | cons v l ih =>
      cases hr with
      | cons r s =>
        simp only [List.all_cons, Bool.and_eq_true]
        exact ⟨(one_rel r (hall v (List.mem_cons_self ..))).1, ih s fun w hw => hall w (List.mem_cons_of_mem _ hw)⟩
theorem appendS_of (hH : RH ε H L) {e : TypeId} {zeros : Bool} {s x : SV} {sv xv : V} (rs : RV ε s sv) (rx : RV ε x xv) (hf : ε base = none) {K : SEff → Prop} (h : appendS cx P H base e zeros s x K) :
    ∃ se ef ε', K se ∧ appendV P L vbase e zeros sv xv = some ef ∧ ER ε ε' H L base vbase se ef := by
  unfold appendS at h
  split at h
  · rename_i z i hz hi
    obtain ⟨zv, hzv, rz⟩ := zeroS_of (ε := ε) hz
    have hzl : slen z = zv.length := by rw [slen_eq]; exact rz.length
    rw [hzl] at h
    obtain ⟨hb, h0⟩ := bif_of h
    clear h
    obtain ⟨hb1, hb2⟩ := andT hb
    have hb1 := bleT hb1
    have hb2 : i.bytes ≠ 0 := fun q => by rw [q] at hb2; cases hb2
    cases zeros with
    | true =>
      simp only [cond_true] at h0
      cases x <;> try cases h0
      case int kd l =>
        obtain ⟨h1, h⟩ := req_of h0
        obtain ⟨h2, h⟩ := req_of h
        rw [SI.le_holds] at h1 h2
        simp only [SI.val_lit] at h1 h2
        obtain ⟨c, h3, h4, h5⟩ := makeS_of rz h
        obtain ⟨h6, h7⟩ := bif_of h3
        cases rx with
        | int _ _ n hn =>
          subst hn
          refine appTo_of hH rs hf hzv hi hb1 hb2 (B := zerosV zv l.toN.val) ?_ h4 h5 (ones_rel h6 h4 h5) h7
          simp only [newRowV, if_true]
          rw [if_pos ⟨h1, h2⟩, SI.toN_val]
    | false =>
      simp only [cond_false] at h0
      obtain ⟨c, m, A, h1, h2, h3, h4, h5, _⟩ := rowS_of hH rx h0
      obtain ⟨h6, h7⟩ := bif_of h1
      exact appTo_of hH rs hf hzv hi hb1 hb2 (by simp only [newRowV, Bool.false_eq_true, if_false]; exact h2) h3 h4 (ones_rel h6 h3 h4) h7
  · cases h
end
end
end Go.Proofs.Ytifgifhbefhkmaa.VM
