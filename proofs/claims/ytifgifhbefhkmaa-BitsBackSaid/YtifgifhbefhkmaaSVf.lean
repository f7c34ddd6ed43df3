/- Values with labels: stores, addresses, rows. No conditions. -/
import Derived.Test.YtifgifhbefhkmaaSVe
namespace Go.Proofs.Ytifgifhbefhkmaa.VM
set_option linter.unusedSimpArgs false
set_option linter.unusedVariables false
open Go Go.RowKit
noncomputable section
section
variable {P : Program} {ε : Nat → Option BE} {H : SHeap} {L : Heap} {t : List SV} {tv : List V} {base vbase : Nat}

theorem setCells_left : ∀ (vs A l : List V) (i : Nat), setCells (A ++ l) (A.length + i) vs = A ++ setCells l i vs
  | [], A, l, i => rfl
  | v :: r, A, l, i => by
    rw [setCells, setCells, List.set_append_right _ _ (by omega), Nat.add_sub_cancel_left, Nat.add_assoc, setCells_left r]
theorem setCells_right : ∀ (vs l B : List V) (i : Nat), i + vs.length ≤ l.length → setCells (l ++ B) i vs = setCells l i vs ++ B
  | [], l, B, i, _ => rfl
  | v :: r, l, B, i, h => by
    simp only [List.length_cons] at h
    rw [setCells, setCells, List.set_append_left _ _ (by omega), setCells_right r _ _ _ (by simp; omega)]
theorem undef_rv : RV ε (.tup []) (.tup []) := .tup .nil
/-- Rows, one of whose things is another. -/
theorem rows_set {α : Type} {r : α → List SV} {k d : Nat} {fl : Bool} {xs : List α} (hc : COK (.rows r k d fl xs)) {A : List V} (hr : RL ε (xs.flatMap r) A) {i : Nat} {x y : α} (hx : xs[i]? = some x) :
    ∃ as, RL ε (r x) as ∧ as.length = k ∧ ∀ (f : Nat) (vs : List V), f + vs.length ≤ k → RL ε (r y) (setCells as f vs) → RL ε ((xs.set i y).flatMap r) (setCells A (i * k + f) vs) ∧ i * k + f + vs.length ≤ A.length := by
  have hi : i < xs.length := by
    rcases Nat.lt_or_ge i xs.length with q | q
    · exact q
    · rw [List.getElem?_eq_none q] at hx; cases hx
  have hxi : xs[i] = x := by rw [List.getElem?_eq_getElem hi] at hx; exact Option.some.inj hx
  have h0 : xs = xs.take i ++ x :: xs.drop (i + 1) := by
    rw [← hxi, ← List.drop_eq_getElem_cons hi, List.take_append_drop]
  rw [h0, List.flatMap_append, List.flatMap_cons] at hr
  obtain ⟨A1, A2, rfl, r1, r2⟩ := hr.split
  obtain ⟨as, B, rfl, r3, r4⟩ := r2.split
  have hl1 : A1.length = i * k := by
    rw [← r1.length, flat_len hc.len, List.length_take, Nat.min_eq_left (Nat.le_of_lt hi)]
  have hl2 : as.length = k := by rw [← r3.length]; exact hc.len x
  refine ⟨as, r3, hl2, fun f vs hf hy => ⟨?_, by simp; omega⟩⟩
  rw [List.set_eq_take_append_cons_drop, if_pos hi, List.flatMap_append, List.flatMap_cons, ← hl1, setCells_left, setCells_right _ _ _ _ (by omega)]
  exact r1.append (hy.append r4)

theorem storeS_of (hH : RH ε H L) {ty : TypeId} {p s : SV} {vp v : V} (rp : RV ε p vp) (rv : RV ε s v) {K : SEff → Prop} (h : storeS P H ty p s K) :
    ∃ se e ε', K se ∧ storeV P L ty vp v = some e ∧ ER ε ε' H L base vbase se e ∧ e.new.length = 0 := by
  unfold storeS at h
  split at h
  · rename_i g n b e k f ver hz
    split at h
    · rename_i blk hb
      obtain ⟨h1, h2⟩ := bif_of h
      obtain ⟨h1, hone⟩ := andT h1
      obtain ⟨h1, hn⟩ := andT h1
      obtain ⟨hver, hfz⟩ := andT h1
      have hfz : blk.fz = false := by simpa using hfz
      have hn := beqT hn
      rw [slen_eq] at hn
      obtain ⟨e0, b', v0, ablk, g1, g2, g3, rfl, g5, g6, g7, g8, g9, g10⟩ := ptrB_at hH hb hver rp
      have rc := cellsV_rel rv hone
      have hlc := rc.length
      have hself : updF ε b ⟨blk.ver, some (b', ablk.ver)⟩ = ε := by
        apply updF_self'
        rw [g1]
        cases e0 with
        | mk sv act => simp only at g2 g3; rw [g2, g3, g6]
      have fin : ∀ (c : SC) (off : Nat), COK c → RL ε c.list (setCells ablk.cells off v.cells) → off + v.cells.length ≤ ablk.cells.length → off = e.val * k + f → K ⟨.tup [], [(b, blk.with c)], []⟩ →
          ∃ se e1 ε', K se ∧ storeV P L ty (.ptrB b' (e.val * k + f) v0) v = some e1 ∧ ER ε ε' H L base vbase se e1 ∧ e1.new.length = 0 := by
        intro c off hc hr hle hoff hK
        subst hoff
        refine ⟨_, ⟨.tup [], [(b', { ablk with cells := setCells ablk.cells (e.val * k + f) v.cells })], []⟩, _, hK, ?_, ER.wr1 (blk := blk) (e0 := e0) (v0 := v0) (nblk := blk.with c) (nab := { ablk with cells := setCells ablk.cells (e.val * k + f) v.cells }) hb g1 g2 g5 (.inl ⟨g3.symm, g6⟩) g7 g8 hc hr undef_rv, rfl⟩
        simp only [storeV, hz, g5]
        rw [if_pos ⟨g6, g8 hfz, by omega, by omega, sones_rel rc hone⟩]
      split at h2
      · rename_i cs hcs
        obtain ⟨h3, h4⟩ := caseN_of h2
        obtain ⟨h5, h6⟩ := bif_of h4
        have h7 := bleT h5
        rw [slen_eq] at h7
        rw [hcs] at g9
        have hl : cs.length = ablk.cells.length := g9.length
        exact fin (.lit _) _ trivial (ssetCells_rel _ rc g9) (by omega) rfl h6
      · rename_i α r k' d fl xs hcs
        obtain ⟨h3, h4, h5⟩ := bif_of h2
        have hkk := beqT h3
        subst hkk
        rw [hcs] at g9 g10
        have hx : xs[e.val]? = some xs[e.val] := List.getElem?_eq_getElem h4
        cases hq : Nat.beq f 0 && Nat.beq n k' with
        | true =>
          rw [hq] at h5
          obtain ⟨hq1, hq2⟩ := andT hq
          have hf0 := beqT hq1
          have hnk := beqT hq2
          obtain ⟨y, hy, hK⟩ := h5
          obtain ⟨as, r1, r2, r3⟩ := rows_set (y := y) g10 g9 hx
          have r4 := r3 f v.cells (by omega) (by
            rw [setCells_eq _ _ _ (by omega), hf0, List.drop_of_length_le (by omega)]
            simpa using sles_rel hy rc)
          exact fin (.rows r k' d fl (xs.set e.val y)) _ g10 r4.1 r4.2 rfl hK
        | false =>
          rw [hq] at h5
          obtain ⟨h6, h7⟩ := bif_of (h5 _ hx)
          have h8 := bleT h6
          rw [slen_eq, g10.len] at h8
          obtain ⟨y, hy, hK⟩ := h7
          obtain ⟨as, r1, r2, r3⟩ := rows_set (y := y) g10 g9 hx
          have r4 := r3 f v.cells (by omega) (sles_rel hy (ssetCells_rel _ rc r1))
          exact fin (.rows r k' d fl (xs.set e.val y)) _ g10 r4.1 r4.2 rfl hK
    · cases h
  · cases h

theorem ptrAddS_of (hH : RH ε H L) {p : SV} {v : V} (r : RV ε p v) {c : Nat} {K : SV → Prop} (h : ptrAddS H p c K) : ∃ s w, K s ∧ ptrAdd L v c = some w ∧ RV ε s w := by
  unfold ptrAddS at h
  split at h
  · rename_i fr ex cs
    cases r with
    | ptrI q1 q2 q3 q4 =>
      rename_i fr' cs' rest
      refine ⟨_, _, h, rfl, ?_⟩
      rw [sdrop_eq]
      have hl : cs.length = cs'.length := q2.length
      rw [List.drop_append]
      refine .ptrI q1 (by exact RL.drop q2 c) trivial (fun q => by rw [q4 q]; simp)
  · rename_i b e k f ver
    split at h
    · rename_i blk hb
      obtain ⟨h1, h2⟩ := bif_of h
      obtain ⟨hver, hlz⟩ := andT h1
      obtain ⟨e0, b', v0, ablk, g1, g2, g3, rfl, g5, g6, g7, g8, g9, g10⟩ := ptrB_at hH hb hver r
      refine ⟨_, .ptrB b' (e.val * k + f + c) v0, h2, by simp [ptrAdd, g5, g6], ?_⟩
      exact .ptrB g1 (by rw [g3, beqT hver]; exact Nat.le_refl _) (fun _ => ⟨b', v0, g2, by rw [Nat.add_assoc]⟩) rfl
    · cases h
  · cases h

theorem idxAddrS_of (hH : RH ε H L) {ty : TypeId} {x : SV} {v : V} (r : RV ε x v) {i : SI} {K : SV → Prop} (h : idxAddrS P H ty x i K) : ∃ s w, K s ∧ idxAddr P L ty v i.val = some w ∧ RV ε s w := by
  unfold idxAddrS at h
  unfold idxAddr
  split at h
  · rename_i el hu
    simp only [hu]
    split at h
    · rename_i g k fr cs n tt hz
      obtain ⟨h1, h⟩ := req_of h
      obtain ⟨h2, h⟩ := req_of h
      rw [SI.le_holds] at h1
      rw [SI.lt_holds, SN.toI_val] at h2
      simp only [SI.val_lit] at h1
      simp only [hz]
      cases r with
      | slIn q1 q2 => omega
      | slI0 q1 q2 q3 q4 => omega
      | slI q1 q2 q3 q4 q5 =>
        rename_i fr' tt' cs' m
        subst q3
        simp only
        rw [if_pos ⟨h1, h2⟩]
        cases cs with
        | lit l =>
          obtain ⟨h3, h4⟩ := caseN_of h
          rw [SI.toN_val] at h3 h4
          refine ⟨_, _, h4, rfl, ?_⟩
          rw [sdrop_eq]
          have := RV.ptrI (ε := ε) (ex := true) (cs := .lit (l.drop (i.val.toNat * k))) (rest := []) q1 (RL.drop q4 _) trivial (fun _ => rfl)
          rwa [List.append_nil] at this
        | rows rr k' d fl xs =>
          obtain ⟨h3, h4, h5⟩ := bif_of h
          have hkk := beqT h3
          subst hkk
          have hx : xs[i.val.toNat]? = some xs[i.val.toNat] := List.getElem?_eq_getElem h4
          obtain ⟨as, bs, e1, e2, e3⟩ := rows_at q5 q4 hx
          refine ⟨_, _, h5 _ hx, rfl, ?_⟩
          rw [e1]
          exact .ptrI q1 e2 trivial (fun q => by cases q)
    · rename_i g k b e k' ver n hz
      split at h
      · rename_i blk hb
        obtain ⟨h0, h⟩ := bif_of h
        obtain ⟨hver, hk⟩ := andT h0
        have hk := beqT hk
        subst hk
        obtain ⟨h1, h⟩ := req_of h
        obtain ⟨h2, h⟩ := req_of h
        rw [SI.le_holds] at h1
        rw [SI.lt_holds, SN.toI_val] at h2
        simp only [SI.val_lit] at h1
        obtain ⟨e0, g1, g3, gc, hq⟩ := slB_at' hH hb hver r
        rcases hq with ⟨b', v0, ablk, g2, rfl, g5, g6, g7, g8, g9⟩ | ⟨q1, q2, q3, q4, q5, q6⟩
        · refine ⟨_, .ptrB b' (e.val * k' + i.val.toNat * k') v0, h, ?_, ?_⟩
          · simp only [hz, g5]
            rw [if_pos ⟨g6, h1, h2⟩]
          · refine .ptrB g1 (by rw [g3, beqT hver]; exact Nat.le_refl _) (fun _ => ⟨b', v0, g2, ?_⟩) rfl
            rw [SN.add_val, SI.toN_val, Nat.add_mul]
            rfl
        · omega
      · cases h
    · cases h
  · rename_i n el hu
    simp only [hu]
    split at h
    · rename_i g k hz
      obtain ⟨h1, h⟩ := req_of h
      obtain ⟨h2, h⟩ := req_of h
      rw [SI.le_holds] at h1
      rw [SI.lt_holds] at h2
      simp only [SI.val_lit] at h1 h2
      obtain ⟨h3, h4⟩ := caseN_of h
      rw [SI.toN_val] at h4
      simp only [hz]
      rw [if_pos ⟨h1, h2⟩]
      exact ptrAddS_of hH r h4
    · cases h
  · cases h

theorem SC.cut_of {cs : SC} {k : Nat} {e n : SN} {K : SC → Prop} (h : cs.cut k e n K) {A : List V} (hc : COK cs) (hr : RL ε cs.list A) :
    ∃ c, K c ∧ COK c ∧ (e.val + n.val) * k ≤ A.length ∧ RL ε c.list ((A.drop (e.val * k)).take (n.val * k)) ∧ c.list.length = n.val * k := by
  have hl := hr.length
  unfold SC.cut at h
  split at h
  · rename_i l
    split at h
    · rename_i e n
      obtain ⟨h1, h2⟩ := bif_of h
      have h3 := bleT h1
      rw [slen_eq] at h3
      have hl' : l.length = A.length := hl
      refine ⟨_, h2, trivial, by simp only [SN.val]; omega, ?_, ?_⟩
      · rw [stake_eq, sdrop_eq]
        exact (hr.drop _).take _
      · show (stake (sdrop l (e * k)) (n * k)).length = _
        rw [stake_eq, sdrop_eq]
        rw [Nat.add_mul] at h3
        simp only [SN.val, List.length_take, List.length_drop]
        omega
    · cases h
  · rename_i α r k' d fl xs
    obtain ⟨h1, h2⟩ := bif_of h
    have hk := beqT h1
    subst hk
    obtain ⟨h3, h4⟩ := req_of h2
    rw [SN.le_holds, SN.add_val] at h3
    simp only [SN.val_sym] at h3
    rw [rdrop_eq] at h4
    have hl' : xs.length * k' = A.length := by rw [← hl]; exact (flat_len hc.len).symm
    refine ⟨_, h4, hc, by rw [← hl']; exact Nat.mul_le_mul_right _ h3, ?_, ?_⟩
    · show RL ε (((xs.drop e.val).take n.val).flatMap r) _
      rw [← flat_take hc.len, ← flat_drop hc.len]
      exact (hr.drop _).take _
    · show (((xs.drop e.val).take n.val).flatMap r).length = _
      rw [flat_len hc.len]
      simp only [List.length_take, List.length_drop]
      congr 1
      omega
theorem strCells_rel (s : ByteArray) : RL ε (s.data.toList.map fun b => SV.int .u8 (.lit b.toNat)) (s.data.toList.map fun b => V.int .u8 b.toNat) := by
  induction s.data.toList with
  | nil => exact .nil
  | cons b l ih => exact .cons (.int _ _ _ rfl) ih
theorem rowS_of (hH : RH ε H L) {k : Nat} {s : SV} {v : V} (r : RV ε s v) {K : SC → SN → Prop} (h : rowS H k s K) :
    ∃ c n A, K c n ∧ rowOf L k v = some (A, n.val) ∧ COK c ∧ RL ε c.list A ∧ c.list.length = n.val * k ∧ ((∃ y, s = .str y) ∨ ∀ x, v ≠ .str x) := by
  unfold rowS at h
  split at h
  · cases r
    exact ⟨_, _, [], h, rfl, trivial, .nil, by simp [SC.list, SN.val], .inr fun x q => by cases q⟩
  · rename_i fr cs n tt
    cases r with
    | slI q1 q2 q3 q4 q5 =>
      rename_i fr' tt' cs' m
      subst q3
      obtain ⟨c, h1, h2, h3, h4, h5⟩ := SC.cut_of h q5 q4
      simp only [SN.val_lit, Nat.zero_add, Nat.zero_mul, List.drop_zero] at h3 h4
      exact ⟨c, n, _, h1, by simp only [rowOf]; rw [if_pos h3], h2, h4, h5, .inr fun x q => by cases q⟩
    | slIn q1 q2 =>
      unfold SC.cut at h
      split at h
      · split at h
        · rename_i l _ _ e n' he
          obtain ⟨h1, h2⟩ := bif_of h
          cases he
          simp only [SN.val] at q1
          subst q1
          exact ⟨_, _, [], h2, rfl, trivial, by simp only [Nat.zero_mul]; exact .nil, by simp [SC.list, SN.val, stake_eq], .inr fun x q => by cases q⟩
        · cases h
      · rename_i α rr k' d fl xs
        obtain ⟨h1, h2⟩ := bif_of h
        obtain ⟨h3, h4⟩ := req_of h2
        refine ⟨_, _, [], h4, by simp [rowOf, q1], q2, ?_, ?_, .inr fun x q => by cases q⟩
        · simp only [q1, List.take_zero]; exact .nil
        · simp [SC.list, q1]
    | slI0 q1 q2 q3 q4 =>
      unfold SC.cut at h
      split at h
      · split at h
        · rename_i l _ _ e n' he
          obtain ⟨h1, h2⟩ := bif_of h
          cases he
          simp only [SN.val] at q3
          subst q3
          exact ⟨_, _, [], h2, by simp [rowOf, SN.val], trivial, by simp only [Nat.zero_mul]; exact .nil, by simp [SC.list, SN.val, stake_eq], .inr fun x q => by cases q⟩
        · cases h
      · rename_i α rr k' d fl xs
        obtain ⟨h1, h2⟩ := bif_of h
        obtain ⟨h3, h4⟩ := req_of h2
        refine ⟨_, _, [], h4, by simp [rowOf, q3], q4, ?_, ?_, .inr fun x q => by cases q⟩
        · simp only [q3, List.take_zero]; exact .nil
        · simp [SC.list, q3]
  · rename_i b e k' ver n
    split at h
    · rename_i blk hb
      obtain ⟨h1, h2⟩ := bif_of h
      obtain ⟨hver, hk⟩ := andT h1
      have hk := beqT hk
      subst hk
      obtain ⟨e0, g1, g3, gc, hq⟩ := slB_at' hH hb hver r
      rcases hq with ⟨b', v0, ablk, g2, rfl, g5, g6, g7, g8, g9⟩ | ⟨q1, q2, rfl, q4, q5, q6⟩
      · obtain ⟨c, h3, h4, h5, h6, h7⟩ := SC.cut_of h2 gc g9
        refine ⟨c, n, _, h3, ?_, h4, h6, h7, .inr fun x q => by cases q⟩
        simp only [rowOf, g5]
        rw [if_pos ⟨g6, by rw [← Nat.add_mul]; exact h5⟩]
      · obtain ⟨c, h3, h4, h5, h6, h7⟩ := SC.cut_of (A := []) (ε := ε) h2 gc (by rw [q6]; exact .nil)
        refine ⟨c, n, [], h3, by simp [rowOf, q4], h4, ?_, h7, .inr fun x q => by cases q⟩
        simpa using h6
    · cases h
  · rename_i s
    obtain ⟨h1, h2⟩ := bif_of h
    have hk := beqT h1
    subst hk
    cases r
    refine ⟨_, _, _, h2, ?_, trivial, strCells_rel s, ?_, .inl ⟨_, rfl⟩⟩
    · simp [rowOf, SN.val]
    · simp [SC.list, SN.val]
  · cases h
theorem lenS_of (hH : RH ε H L) {s : SV} {v : V} (r : RV ε s v) {n : SN} (h : lenS H s = some n) : lenV L v = some n.val ∧ ∀ x, v ≠ .str x := by
  unfold lenS at h
  split at h
  · cases h; cases r; exact ⟨rfl, fun x q => by cases q⟩
  · cases h
    cases r with
    | slI q1 q2 q3 q4 q5 => subst q3; exact ⟨rfl, fun x q => by cases q⟩
    | slIn q1 q2 => exact ⟨by rw [q1]; rfl, fun x q => by cases q⟩
    | slI0 q1 q2 q3 q4 => exact ⟨by rw [q3]; rfl, fun x q => by cases q⟩
  · rename_i b e k ver m
    split at h
    · rename_i blk h1
      cases h2 : Nat.beq blk.ver ver with
      | false => rw [h2] at h; cases h
      | true =>
        rw [h2] at h
        cases h
        obtain ⟨e0, g1, g3, gc, hq⟩ := slB_at' hH h1 h2 r
        rcases hq with ⟨b', v0, ablk, g2, rfl, _⟩ | ⟨q1, q2, rfl, q4, q5, q6⟩
        · exact ⟨rfl, fun x q => by cases q⟩
        · exact ⟨by rw [q4]; rfl, fun x q => by cases q⟩
    · cases h
  · cases h
end
end
end Go.Proofs.Ytifgifhbefhkmaa.VM
