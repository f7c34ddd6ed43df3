/- ring.List: the texts of a queue, in order, in new memory. -/
import Derived.Maps.AppendAt
import Derived.Test.YtnnfcebnmogdmaaRingWalk
import Derived.Test.YtnnfcebnmogdmaaWApart
namespace Go.Proofs.Ytnnfcebnmogdmaa.RingWalk
open Go Go.RowKit Go.Shelf Go.Sort Go.Proofs.YtnnfcebnmogdmaaW.PrintWords
attribute [local go_sem] Oper.semAt_some
abbrev dB : Kd (List Int) := Kd.slice 5 (Kd.int .u8)
theorem infoB : (Try.prog.info? 35).map (fun i => (i.zero, i.size, i.bytes)) = some (some (.slice none 0 0), 1, 24) := by kernel_rfl
/-- A row with one text more: what the append leaves, behind the store into the variable's box. -/
theorem app_step {W Wd w1 : World} {v v0 : Value} {xs : List (List Int)} {x : List Int} {base B : Nat} (hS : dB.S 35 W base (fun k => k ≠ B) v xs) (hBx : Boxed W B 22 v) (hbase : base ≤ W.heap.size)
    (hd : Below W.heap.size W Wd) (hb : Below Wd.heap.size Wd w1) (hR : (Kd.int .u8).R 5 w1 Wd.heap.size (fun _ => True) v0 x) (hn : xs.length ≤ 1000) :
    ∃ v' w2 g' cap', (Builtin.append_ #[22, 22] 22 #[v, .slice (some ⟨w1.heap.size, 0, none⟩) 1 1]).run Try.prog (w1.alloc (.cells #[v0] 35)) = .ok v' w2 ∧ v' = .slice (some ⟨g', 0, none⟩) (xs.length + 1) cap' ∧
      Boxed w2 B 22 v ∧ dB.S 35 (w2.setCell ⟨B, 0, none⟩ v') base (fun k => k ≠ B) v' (xs ++ [x]) ∧ Boxed (w2.setCell ⟨B, 0, none⟩ v') B 22 v' ∧ KeepsOthers W (w2.setCell ⟨B, 0, none⟩ v') ∧ (∀ k, k < base → k ≠ B → (w2.setCell ⟨B, 0, none⟩ v').heap[k]? = W.heap[k]?) ∧ W.heap.size ≤ (w2.setCell ⟨B, 0, none⟩ v').heap.size ∧ (∀ n, n ≤ base → n ≤ B → Below n W (w2.setCell ⟨B, 0, none⟩ v')) := by
  obtain ⟨i0, hi, hz0, hz1, hz2⟩ := info_parts infoB
  have hb2 : Below W.heap.size W w1 := below_then hd hd.size hb
  have hbase1 : base ≤ w1.heap.size := Nat.le_trans hbase hb2.size
  have hS1 := Kd.S_old hS hb2
  obtain ⟨f, hf, hT⟩ := Kd.S_tag hS1 xs.length (fun k => Wd.heap.size ≤ k) (fun k hk h2 => by have := hd.size; omega)
  obtain ⟨h0, inner, hown, hr⟩ := hT
  have hBlt := hBx.lt
  obtain ⟨v', w2, hrun, hown2, hg2, hnil, hat⟩ := run_append_own_at (P := Try.prog) (w := w1.alloc (.cells #[v0] 35)) base 22 22 35 i0 (.slice none 0 0) 1 24 Try.underlying22 hi hz0 hz1 hz2 rfl (by decide) v xs.zipIdx.length inner (hown.alloc _) ⟨w1.heap.size, 0, none⟩ 1 1 [v0] rfl (by simpa using World.news_of_block (cs := #[v0]) (t := 35) (fr := (0, 0)) (heap_alloc_new w1 _)) (by simp; obtain ⟨A, c, rfl⟩ := Kd.R_slice hR; rfl) (by simp [maxLen]; omega) (by simp; omega) (by simp; omega)
  have hgw : w1.grownBy w2 v.ownBlock := World.grownBy.trans (World.grownBy_alloc w1 _ _) hg2
  have hR2 := Kd.R_appended (ok := fun k => k ≠ B) (okp := fun k => Wd.heap.size ≤ k) (p := (x, xs.length)) (cs := [v0]) (fun k hk => (h0 k hk).1) (hr.imp_ (fun p c hp => (Kd.tag f dB).M_mono (fun k hk => ⟨hk.1.1, hk.2⟩) hp)) (show dB.M w1 base (fun k => Wd.heap.size ≤ k ∧ f k = xs.length) x [v0] from ⟨v0, rfl, Kd.R_lower (Kd.R_mono (Kd.R_bound hR) (fun k hk => ⟨hk.2.1, hf k hk.2.1⟩)) (Nat.le_trans hbase hd.size)⟩)
    (fun k hk => ⟨by have := hd.size; omega, fun e => by have := (h0 k e.symm).2; have := hd.size; omega⟩) (fun k hk => by have := hb2.size; omega) hown2 hgw (hat.imp id (fun h => ⟨_, h, by simp⟩))
  rw [← Kd.zip_snoc] at hR2
  have hS2 : dB.S 35 w2 base (fun k => k ≠ B) v' (xs ++ [x]) := ⟨f, hR2⟩
  have hBw1 : Boxed w1 B 22 v := (hb2.block B hBlt).trans hBx
  have hBw2 : Boxed w2 B 22 v := (hBw1.alloc _).kept hg2 ((hBw1).not_row (by decide) hown)
  obtain ⟨A', cap', hv', _⟩ := Kd.S_reads hS2
  have hg' : ∃ g', A' = some ⟨g', 0, none⟩ := by
    rcases hown2.2 with ⟨hv, hx0⟩ | ⟨g', cap, cur, hv, _⟩
    · simp at hx0
    · rw [hv'] at hv
      injection hv with e1 e2 e3
      exact ⟨g', e1⟩
  obtain ⟨g', rfl⟩ := hg'
  have hbl : ∀ k, v.ownBlock = some k → base ≤ k := own_base hown
  refine ⟨v', w2, g', cap', hrun, by rw [hv']; simp, hBw2, Kd.S_far hS2 (p := ⟨B, 0, none⟩) (fun k hk => hk) _, hBw2.set _, ?_, fun k hk hkB => ?_, ?_, fun n h1 h2 => ?_⟩
  · refine KeepsOthers.trans (KeepsOthers.trans (⟨hb2.size, fun k o hk ho => (hb2.block k (blk_lt hk)).trans hk⟩ : KeepsOthers W w1) ?_) (KeepsOthers.setCell _ _ _)
    refine KeepsOthers.of_grownBy hgw (fun j o e hj => ?_)
    obtain ⟨cells, hc⟩ := own_typed hown j e
    rw [hc] at hj
    cases hj
    rfl
  · rw [Below.heap_setCell _ _ _ _ hkB, hgw.block k (by omega) (fun e => by have := hbl k e.symm; omega), hb2.block k (by omega)]
  · simp
    exact Nat.le_trans hb2.size hgw.size
  · exact ((hb2.mono (by omega)).grown hgw (by omega) (fun k e => by have := hbl k e; omega)).setCell (p := ⟨B, 0, none⟩) h2 _
/-- ring.of -/
theorem of_any (A : Option Addr) (L C : Nat) (a b : Int) (w : World) : Calls Try.prog 28 #[.agg #[.slice A L C, .int .i64 a, .int .i64 b]] w fun e w' => e = .returned (.agg #[.slice A L C, .int .i64 a, .int .i64 b]) ∧ Below w.heap.size w w' := by
  go_enter Try.func28, Try.ntmps28
  go_wp2
  exact bodyPost_ret (v := .agg #[.slice A L C, .int .i64 a, .int .i64 b]) (by simp [results, Try.results28, go_sem]) rfl ⟨rfl, below_alloc (below_alloc (Below.refl _ _) _) _⟩
/-- round.used -/
theorem made_any (A : Option Addr) (L C : Nat) (a b : Int) (w : World) : Calls Try.prog 31 #[.agg #[.slice A L C, .int .i64 a, .int .i64 b]] w fun e w' => e = .returned (.func (.func 32) #[] #[.pointer (some ⟨w.heap.size, 0, none⟩)]) ∧ w' = w.alloc (.cells #[.slice A L C, .int .i64 a, .int .i64 b] 57) := by
  go_enter Try.func31, Try.ntmps31
  go_wp2
  go_ret
  exact ⟨rfl, rfl⟩
/-- What comes: a text that is read at the call's begin. -/
def Item (w : World) : Type := { p : Option Addr × Nat × List Int // (Kd.int .u8).C w p.1 p.2.2.length p.2.2 ∧ p.2.2.length ≤ p.2.1 ∧ p.2.2.length < 140737488355328 }
def Item.en {w : World} (p : Item w) : Value := .slice p.1.1 p.1.2.2.length p.1.2.1
def Item.tx {w : World} (p : Item w) : List Int := p.1.2.2
def Item.z (w : World) : Item w := ⟨(none, 0, []), ⟨rfl, by simp, fun h => by simp at h⟩, Nat.le_refl _, by simp⟩
theorem items_of {w : World} {ad : Addr} {l : List (List Int)} (h : dB.C w (some ad) l.length l) (hl : ∀ x ∈ l, x.length < 140737488355328) :
    ∃ vs : List (Item w), vs.length = l.length ∧ vs.map Item.tx = l ∧ ∀ j v, vs[j]? = some v → w.cell? (ad.add j) = some v.en := by
  have key : ∀ j, j < l.length → ∃ v : Item w, some v.tx = l[j]? ∧ w.cell? (ad.add j) = some v.en := by
    intro j hj
    obtain ⟨ad', hA, hc⟩ := h.2.2 (by omega)
    cases hA
    obtain ⟨c, hc1, hK, hcell⟩ := hc j _ (List.getElem?_eq_getElem hj)
    obtain ⟨A, n, rfl, hn, hC⟩ := hK
    have h0 := hcell 0 _ rfl
    refine ⟨⟨(A, n, l[j]), hC, hn, hl _ (List.getElem_mem hj)⟩, (List.getElem?_eq_getElem hj).symm, ?_⟩
    have : j * dB.sz + 0 = j := by show j * 1 + 0 = j; omega
    rw [this] at h0
    exact h0
  refine ⟨(List.range l.length).map (fun j => open Classical in if hj : j < l.length then (key j hj).choose else Item.z w), by simp, ?_, fun j v hv => ?_⟩
  · apply List.ext_getElem?
    intro j
    rw [List.getElem?_map, List.getElem?_map]
    by_cases hj : j < l.length
    · rw [List.getElem?_range hj]
      simp only [Option.map_some, dif_pos hj]
      exact (key j hj).choose_spec.1
    · rw [List.getElem?_eq_none (by simp; omega), List.getElem?_eq_none (by omega)]
      rfl
  · rw [List.getElem?_map] at hv
    obtain ⟨i, hi, rfl⟩ := Option.map_eq_some_iff.1 hv
    have hj : j < l.length := by
      have := (List.getElem?_eq_some_iff.1 hi).1
      simpa using this
    rw [List.getElem?_range hj] at hi
    cases hi
    simp only [dif_pos hj]
    exact (key j hj).choose_spec.2
def Then1 (K : Act → World → Prop) (Q : Exit → Act → World → Prop) : Exit → Act → World → Prop
  | .normal, a, w => K a w
  | e, a, w => Q e a w
section
variable {F : Fence} {n : Nat} {P : Program} {md : Region.Mode} {ops : Array Oper} {Q : Exit → Act → World → Prop} {fuel : Nat} {listed : Array Bool} {a : Act} {w : World}
theorem op_one {i : Nat} {o : Oper} {K : Act → World → Prop} (ho : ops[i]? = some o) (h : wpListIn F n P ops (Then1 K Q) [o] a w) : wpOpIn F n P ops Q i K a w := by
  unfold wpOpIn
  simp only [ho]
  unfold wpListIn at h
  split at h
  · rename_i hw
    rw [if_pos hw]
    refine ⟨h.1, ?_⟩
    have h2 := h.2
    revert h2
    generalize ((o.semAt F.round a.eval).run P w) = r
    intro h2
    cases r with
    | ok x w' =>
      cases x <;> simp only [Oper.uponIn] at h2 ⊢
      case value u => exact h2
      case skip => exact h2
      case defer d => exact h2
      case enter f args =>
        refine ⟨h2.1, h2.2.mono fun e w'' h3 => ?_⟩
        cases e <;> exact h3
      case row r args =>
        refine ⟨h2.1, h2.2⟩
      case round l f tmps assign body =>
        refine ⟨h2.1, h2.2.mono fun e w'' h3 => ?_⟩
        cases e <;> exact h3
    | halt x w' =>
      cases x <;> simp only [Oper.uponIn] at h2 ⊢
      exact h2
  · rename_i hw
    rw [if_neg hw]
    exact h
theorem any_one {i : Nat} {o : Oper} (hr : Region.ready md ops listed = [i]) (ho : ops[i]? = some o) (h : wpListIn F n P ops (Then1 (wpAnyIn F n P md ops Q fuel (listed.setIfInBounds i true)) Q) [o] a w) : wpAnyIn F n P md ops Q (fuel + 1) listed a w := by
  refine ⟨fun h0 => (by rw [hr] at h0; cases h0), fun j hj => ?_⟩
  rw [hr] at hj
  obtain rfl : j = i := by simpa using hj
  exact op_one ho h
theorem any_two {i j : Nat} {o p : Oper} (hr : Region.ready md ops listed = [i, j]) (ho : ops[i]? = some o) (hp : ops[j]? = some p) (h : wpListIn F n P ops (Then1 (wpAnyIn F n P md ops Q fuel (listed.setIfInBounds i true)) Q) [o] a w)
    (h2 : wpListIn F n P ops (Then1 (wpAnyIn F n P md ops Q fuel (listed.setIfInBounds j true)) Q) [p] a w) : wpAnyIn F n P md ops Q (fuel + 1) listed a w := by
  refine ⟨fun h0 => (by rw [hr] at h0; cases h0), fun k hk => ?_⟩
  rw [hr] at hk
  have : k = i ∨ k = j := by simpa using hk
  rcases this with rfl | rfl
  · exact op_one ho h
  · exact op_one hp h2
theorem list_ran {o : Oper} {rest : List Oper} (hg : o.guard = none) (s x : Operand) (t : TypeId) (hop : o.op = Op.call { callee := Callee.builtin Builtin.append, args := #[s, x], argTypes := #[t, t] }) {u xv v' : Value} {w' : World} (hs : a.eval s = u) (hx : a.eval x = xv)
    (hrun : (Builtin.append_ #[t, t] o.type #[u, xv]).run P w = .ok v' w') (h : wpListIn F n P ops Q rest (a.put o.dst v') w') : wpListIn F n P ops Q (o :: rest) a w := by
  refine wpListIn_plain hg fun K hK' => ?_
  unfold Oper.wpIn
  refine ⟨?_, ?_⟩
  · simp [Oper.about, hop, resolve, Target.leads, Sem.run_pure]
  · rw [Oper.semAt_plain F _ _ (by rw [hop]; intro c hc'; cases hc')]
    simp [execOp, hop, resolve, invoke, builtin, hs, hx, hrun, Result.andThen]
    exact hK' _ _ h
theorem any_done (hr : Region.ready md ops listed = []) (h : Q .normal a w) : wpAnyIn F n P md ops Q fuel listed a w := wpAnyIn_done hr h fuel
end
section
variable {w w1 : World} {x0 x1 x2 v : Value} {t t2 : TypeId}
theorem q_cells (hb : Below ((w.alloc (.cells #[x0, x1, x2] t)).alloc (.cells #[v] t2)).heap.size ((w.alloc (.cells #[x0, x1, x2] t)).alloc (.cells #[v] t2)) w1) : w1.cell? ⟨w.heap.size, 0, none⟩ = some x0 ∧ w1.cell? ⟨w.heap.size, 1, none⟩ = some x1 ∧ w1.cell? ⟨w.heap.size, 2, none⟩ = some x2 :=
  ⟨pw_cell_below hb ((cell_of_row _ _ 0 _ _ _ (heap_alloc2_old w _ _)).trans rfl), pw_cell_below hb ((cell_of_row _ _ 1 _ _ _ (heap_alloc2_old w _ _)).trans rfl), pw_cell_below hb ((cell_of_row _ _ 2 _ _ _ (heap_alloc2_old w _ _)).trans rfl)⟩
theorem q_box (hb : Below ((w.alloc (.cells #[x0, x1, x2] t)).alloc (.cells #[v] t2)).heap.size ((w.alloc (.cells #[x0, x1, x2] t)).alloc (.cells #[v] t2)) w1) : Boxed w1 (w.heap.size + 1) t2 v := blk_below (heap_alloc2_new w _ _) hb
theorem q_lt (hb : Below ((w.alloc (.cells #[x0, x1, x2] t)).alloc (.cells #[v] t2)).heap.size ((w.alloc (.cells #[x0, x1, x2] t)).alloc (.cells #[v] t2)) w1) : w.heap.size + 1 < w1.heap.size := (q_box hb).lt
end
/-- Between two rounds. -/
def LInv (w : World) (g N : Nat) (pre : List (Item w)) (W : World) : Prop := (∃ v, Boxed W g 22 v ∧ dB.S 35 W N (fun k => k ≠ g) v (pre.map Item.tx)) ∧ Below w.heap.size w W ∧ N ≤ W.heap.size
theorem linv_own {w : World} {g N B : Nat} (hN : w.heap.size ≤ N) (hB : N ≤ B) : OwnFrom B (LInv w g N) := by
  rintro pre A B' row ⟨⟨v, hv, hS⟩, hb, hs⟩ hg hr
  have hc : ∀ r, row = some r → ∀ cs t fr, A.heap[r]? ≠ some (.cells cs t fr) := by
    intro r e cs t fr h
    obtain ⟨_, o, ho, hoc⟩ := hr r e
    rw [h] at ho
    cases ho
    cases hoc
  refine ⟨⟨v, hv.kept hg (fun e => hc g e.symm _ _ _ hv), ?_⟩, hb.grown hg hb.size (fun k e => by have := (hr k e).1; omega), Nat.le_trans hs hg.size⟩
  refine Kd.S_mono (Kd.S_grown (Kd.S_bound hS) hg (fun k hk e => ?_)) (fun _ h => h.1)
  obtain ⟨_, _, _, q, _, cells, hq⟩ := hk
  exact hc k e.symm _ _ _ hq
theorem below_trans2 {w W w' : World} (h : Below w.heap.size w W) (h' : Below W.heap.size W w') : Below w.heap.size w w' := h.trans (h'.mono h.size)
set_option maxRecDepth 100000 in
set_option maxHeartbeats 2000000 in
theorem list_ok (hT : ∀ (A : Option Addr) (c : Nat) (x : List Int) (W : World), (Kd.int .u8).C W A x.length x → x.length ≤ c → x.length < 140737488355328 → Calls Try.prog 25 #[.slice A x.length c] W fun e w' => ∃ v0, e = .returned v0 ∧ (Kd.int .u8).R 5 w' W.heap.size (fun _ => True) v0 x ∧ Below W.heap.size W w')
    (ad : Addr) (C : Nat) (l : List (List Int)) (a b : Nat) (w : World) (hC : dB.C w (some ad) l.length l) (hx : ∀ x ∈ l, x.length < 140737488355328) (hL : 1 ≤ l.length) (hL2 : l.length ≤ 64) (h1 : a < l.length) (h2 : b ≤ l.length)
    (hCk : ∀ W, Below w.heap.size w W → Calls Try.prog 21 #[.agg #[.slice (some ad) l.length C, .int .i64 a, .int .i64 b]] W fun e w' => e = .returned (.int .i64 0) ∧ Below W.heap.size W w') :
    Calls Try.prog 18 #[.agg #[.slice (some ad) l.length C, .int .i64 a, .int .i64 b]] w fun e w' => ∃ v0, e = .returned (.tuple #[v0, .int .i64 0]) ∧ dB.S 35 w' w.heap.size (fun _ => True) v0 ((List.range b).map (fun j => l.getD ((a + j) % l.length) [])) ∧ Below w.heap.size w w' := by
  obtain ⟨vs, hvl, hvm, hvc⟩ := items_of hC hx
  have HCk := Aside0.mk hCk
  have HT := Aside0.mk hT
  clear hCk hT hx hC
  refine (callsIn_wide (n := 6)).1 ?_
  refine callsIn_of_wp_marks Try.func18 rfl trivial ?_ rfl
  simp only [Try.ntmps18, List.size_toArray, List.length_cons, List.length_nil, Nat.reduceAdd, Nat.reduceSub, Array.replicate_succ, Array.replicate_zero, List.push_toArray, List.append_toArray, List.nil_append, List.cons_append]
  gi_wp2_with (first
    | (refine ⟨trivial, ?_⟩; gi_at_call 21; refine (callsIn_wide.2 (HCk.out _ (below_alloc (below_alloc (Below.refl _ _) _) _))).mono ?_; rintro e w1 ⟨rfl, hb⟩; obtain ⟨k0, k1, k2⟩ := q_cells hb; have bx := q_box hb; have bxl := q_lt hb; have hBl1 := below_trans2 (below_alloc (below_alloc (Below.refl _ _) _) _) hb; have HB1 := Aside0.mk hBl1; have BX := Aside0.mk bx; clear hb hBl1 bx)
    | (refine ⟨trivial, ?_⟩; gi_at_call 28; refine (callsIn_wide.2 (of_any (some ad) l.length C a b _)).mono ?_; rintro e w2 ⟨rfl, hb⟩; have bxl2 := Nat.lt_of_lt_of_le bxl hb.size; have HB2 := Aside0.mk (below_trans2 HB1.out hb); have BX2 := Aside0.mk (show Boxed w2 _ _ _ from blk_below BX.out hb); clear hb)
    | (refine ⟨trivial, ?_⟩; gi_at_call 31; refine (callsIn_wide.2 (made_any (some ad) l.length C a b _)).mono ?_; rintro e w3 ⟨rfl, rfl⟩))
  have hw2s : w.heap.size ≤ w2.heap.size := HB2.out.size
  have BX3 := Aside0.mk (BX2.out.alloc (.cells #[.slice (some ad) l.length C, .int .i64 a, .int .i64 b] 57))
  have HB3 := Aside0.mk (below_alloc HB2.out (.cells #[.slice (some ad) l.length C, .int .i64 a, .int .i64 b] 57))
  have had : ad.block < w.heap.size := by
    obtain ⟨v, hv⟩ : ∃ v, vs[0]? = some v := ⟨vs[0]'(by omega), List.getElem?_eq_getElem _⟩
    have := World.block_lt_of_cell? w _ (hvc 0 v hv)
    rwa [add_block] at this
  refine wpIn_rangeFunc_ownG (F := Fence.wide) rfl (by decide) (gf := 32) (lb := #[.pointer (some ⟨w2.heap.size, 0, none⟩)]) rfl trivial (enters_of Try.func32 (by kernel_rfl) rfl)
    (encs := fun x : Item w => #[x.en]) (Kp := KC (w2.heap.size + 1) (w.heap.size + 1)) (S := fun ys => ys = upto (Item.z w) vs a l.length b) (Sp := fun pre => pre <+: upto (Item.z w) vs a l.length b) (N := b)
    ?seq (fun h k => h.trans k) (fun W l o o' _ hl ho _ => KC.put W l o o' hl ho) (Below.refl _ _) (fun _ => rfl)
    (LInv w (w.heap.size + 1) (w2.heap.size + 1)) (fun _ _ _ => False) (linv_own (by omega) (Nat.le_of_eq (World.size_alloc w2 _).symm)) (fun _ _ _ _ _ hs _ _ => hs) ?start
    (fun x => { tmps := #[.agg #[.slice (some ad) l.length C, .int .i64 a, .int .i64 b], .pointer (some ⟨w.heap.size, 0, none⟩), .pointer (some ⟨w.heap.size + 1, 0, none⟩), .int .i64 0, .int .i64 0, x.en, .agg #[.slice (some ad) l.length C, .int .i64 a, .int .i64 b], .int .i64 0, .int .i64 0, .bool false, undef, .agg #[.slice (some ad) l.length C, .int .i64 a, .int .i64 b], .agg #[.slice (some ad) l.length C, .int .i64 a, .int .i64 b], .func (.func 32) #[] #[.pointer (some ⟨w2.heap.size, 0, none⟩)], x.en, undef, undef, undef, undef, undef, undef], defers := [] }) ?assign ?body ?done ?stop
  case seq =>
    intro l' J Jx W hW hJ hJx hY h0
    have c0 := pw_cell_below hW ((cell_of_row _ _ 0 _ _ _ (heap_alloc_new w2 _)).trans rfl)
    have c1 := pw_cell_below hW ((cell_of_row _ _ 1 _ _ _ (heap_alloc_new w2 _)).trans rfl)
    have c2 := pw_cell_below hW ((cell_of_row _ _ 2 _ _ _ (heap_alloc_new w2 _)).trans rfl)
    exact used_in Fence.wide 5 trivial trivial rfl (by decide) l' w2.heap.size (w2.heap.size + 1) (w.heap.size + 1) (by omega) (by omega) ad (by omega) (by omega) l.length C a b hL hL2 h1 h2 (Item.z w) Item.en vs hvl J Jx hY W hJ c0 c1 c2 (fun j v hv => pw_cell_below hW (pw_cell_below HB3.out (hvc j v hv))) h0
  case start => exact ⟨⟨_, BX3.out, Kd.S_nil _ _ _ _ _⟩, HB3.out, Nat.le_of_eq (World.size_alloc w2 _).symm⟩
  case assign =>
    intro l' x W K hK
    gi_wp2
    exact hK
  case body =>
    rintro l' pre p W ⟨⟨v, hv, hS⟩, hB, hN⟩ hlt
    have hc := hv.cell
    obtain ⟨hC, hlc, hlim⟩ := p.2
    obtain ⟨A, hA⟩ : ∃ A, p.1.1 = A := ⟨_, rfl⟩
    obtain ⟨c, hcc⟩ : ∃ c, p.1.2.1 = c := ⟨_, rfl⟩
    obtain ⟨x, hxx⟩ : ∃ x, p.1.2.2 = x := ⟨_, rfl⟩
    have hen : p.en = .slice A x.length c := by unfold Item.en; rw [hA, hcc, hxx]
    have HTX : Aside0 (Item.tx p = x) := ⟨hxx⟩
    rw [hA, hxx] at hC
    rw [hxx, hcc] at hlc
    rw [hxx] at hlim
    rw [hen]
    have hCx := Aside0.mk hC
    have HV := Aside0.mk hv
    have HBW := Aside0.mk hB
    have HN := Aside0.mk hN
    obtain ⟨xs, hxs⟩ : ∃ xs, pre.map Item.tx = xs := ⟨_, rfl⟩
    rw [hxs] at hS
    have HLT := Aside0.mk (show xs.length ≤ 1000 by rw [← hxs, List.length_map]; omega)
    have HXS := Aside0.mk hxs
    clear hxs
    have HS := Aside0.mk hS
    clear hC hS hv hB hvc hvm hA hcc hxx hen
    obtain ⟨A0, c0, rfl, _⟩ := Kd.S_reads HS.out
    gi_wp2
    refine wpIn_region_any (by kernel_rfl) ?_
    change wpAnyIn _ _ _ _ _ _ _ _ _ W.drew
    refine any_two (i := 0) (j := 1) (by kernel_rfl) rfl rfl ?_ ?_
    · gi_wp2
      change wpAnyIn _ _ _ _ _ _ _ _ _ _
      refine any_one (i := 1) (by kernel_rfl) rfl ?_
      gi_wp2
      change wpAnyIn _ _ _ _ _ _ _ _ _ _
      refine any_one (i := 2) (by kernel_rfl) rfl ?_
      gi_wp2_with (first | (refine ⟨trivial, ?_⟩; gi_at_call 25; refine (CallsIn.inRound l' (callsIn_wide.2 (HT.out A c x _ (Kd.C_below (Kd.C_below hCx.out HBW.out) (below_drew (Below.refl _ _))) hlc hlim))).mono ?_; rintro e w4 ⟨v0, rfl, hR, hb⟩; obtain ⟨v', w5, g', cap', hrun, rfl, hB5, hS5, hBx5, hKO, hKC, hsz, hBN⟩ := app_step HS.out HV.out HN.out (below_drew (Below.refl _ _)) hb hR HLT.out; obtain ⟨A4, c4, rfl, _⟩ := Kd.R_reads hR; have e1 := pw_cell_below hb (show W.drew.cell? _ = _ from hc); have e2 := pw_cell_below (below_alloc (Below.refl w4.heap.size w4) (.cells #[.slice A4 x.length c4] 35)) e1; have e3 := hB5.cell; have e4 := hB5.frozen; have HRUN := Aside0.mk hrun; have HB45 := Aside0.mk hb; have HS5 := Aside0.mk hS5; have HBX5 := Aside0.mk hBx5; have HKO := Aside0.mk hKO; have HKC := Aside0.mk hKC; have HSZ := Aside0.mk hsz; have HBN := Aside0.mk hBN; clear hBN hrun hb hR hB5 hS5 hBx5 hKO hKC hsz))
      change wpAnyIn _ _ _ _ _ _ _ _ _ _
      refine any_one (i := 3) (by kernel_rfl) rfl ?_
      gi_wp2
      change wpAnyIn _ _ _ _ _ _ _ _ _ _
      refine any_one (i := 4) (by kernel_rfl) rfl ?_
      (refine list_ran rfl (.tmp 15) (.tmp 18) 22 rfl rfl rfl HRUN.out ?_; gi_wp2)
      change wpAnyIn _ _ _ _ _ _ _ _ _ _
      refine any_one (i := 5) (by kernel_rfl) rfl ?_
      gi_wp2
      change wpAnyIn _ _ _ _ _ _ _ _ _ _
      refine any_done (by kernel_rfl) ?_
      exact ⟨(HKO.out).from _, fun b cs t fr hN hne h => (HKC.out b hN hne).trans h, ⟨_, HBX5.out, by rw [List.map_append, List.map_singleton, HTX.out, HXS.out]; exact HS5.out⟩, HBW.out.trans (HBN.out w.heap.size (by omega) (by omega)), Nat.le_trans HN.out HSZ.out⟩
    · gi_wp2
      change wpAnyIn _ _ _ _ _ _ _ _ _ _
      refine any_two (i := 0) (j := 2) (by kernel_rfl) rfl rfl ?_ ?_
      · gi_wp2
        change wpAnyIn _ _ _ _ _ _ _ _ _ _
        refine any_one (i := 2) (by kernel_rfl) rfl ?_
        gi_wp2_with (first | (refine ⟨trivial, ?_⟩; gi_at_call 25; refine (CallsIn.inRound l' (callsIn_wide.2 (HT.out A c x _ (Kd.C_below (Kd.C_below hCx.out HBW.out) (below_drew (Below.refl _ _))) hlc hlim))).mono ?_; rintro e w4 ⟨v0, rfl, hR, hb⟩; obtain ⟨v', w5, g', cap', hrun, rfl, hB5, hS5, hBx5, hKO, hKC, hsz, hBN⟩ := app_step HS.out HV.out HN.out (below_drew (Below.refl _ _)) hb hR HLT.out; obtain ⟨A4, c4, rfl, _⟩ := Kd.R_reads hR; have e1 := pw_cell_below hb (show W.drew.cell? _ = _ from hc); have e2 := pw_cell_below (below_alloc (Below.refl w4.heap.size w4) (.cells #[.slice A4 x.length c4] 35)) e1; have e3 := hB5.cell; have e4 := hB5.frozen; have HRUN := Aside0.mk hrun; have HB45 := Aside0.mk hb; have HS5 := Aside0.mk hS5; have HBX5 := Aside0.mk hBx5; have HKO := Aside0.mk hKO; have HKC := Aside0.mk hKC; have HSZ := Aside0.mk hsz; have HBN := Aside0.mk hBN; clear hBN hrun hb hR hB5 hS5 hBx5 hKO hKC hsz))
        change wpAnyIn _ _ _ _ _ _ _ _ _ _
        refine any_one (i := 3) (by kernel_rfl) rfl ?_
        gi_wp2
        change wpAnyIn _ _ _ _ _ _ _ _ _ _
        refine any_one (i := 4) (by kernel_rfl) rfl ?_
        (refine list_ran rfl (.tmp 15) (.tmp 18) 22 rfl rfl rfl HRUN.out ?_; gi_wp2)
        change wpAnyIn _ _ _ _ _ _ _ _ _ _
        refine any_one (i := 5) (by kernel_rfl) rfl ?_
        gi_wp2
        change wpAnyIn _ _ _ _ _ _ _ _ _ _
        refine any_done (by kernel_rfl) ?_
        exact ⟨(HKO.out).from _, fun b cs t fr hN hne h => (HKC.out b hN hne).trans h, ⟨_, HBX5.out, by rw [List.map_append, List.map_singleton, HTX.out, HXS.out]; exact HS5.out⟩, HBW.out.trans (HBN.out w.heap.size (by omega) (by omega)), Nat.le_trans HN.out HSZ.out⟩
      · gi_wp2_with (first | (refine ⟨trivial, ?_⟩; gi_at_call 25; refine (CallsIn.inRound l' (callsIn_wide.2 (HT.out A c x _ (Kd.C_below (Kd.C_below hCx.out HBW.out) (below_drew (Below.refl _ _))) hlc hlim))).mono ?_; rintro e w4 ⟨v0, rfl, hR, hb⟩; obtain ⟨v', w5, g', cap', hrun, rfl, hB5, hS5, hBx5, hKO, hKC, hsz, hBN⟩ := app_step HS.out HV.out HN.out (below_drew (Below.refl _ _)) hb hR HLT.out; obtain ⟨A4, c4, rfl, _⟩ := Kd.R_reads hR; have e1 := pw_cell_below hb (show W.drew.cell? _ = _ from hc); have e2 := pw_cell_below (below_alloc (Below.refl w4.heap.size w4) (.cells #[.slice A4 x.length c4] 35)) e1; have e3 := hB5.cell; have e4 := hB5.frozen; have HRUN := Aside0.mk hrun; have HB45 := Aside0.mk hb; have HS5 := Aside0.mk hS5; have HBX5 := Aside0.mk hBx5; have HKO := Aside0.mk hKO; have HKC := Aside0.mk hKC; have HSZ := Aside0.mk hsz; have HBN := Aside0.mk hBN; clear hBN hrun hb hR hB5 hS5 hBx5 hKO hKC hsz))
        change wpAnyIn _ _ _ _ _ _ _ _ _ _
        refine any_two (i := 0) (j := 3) (by kernel_rfl) rfl rfl ?_ ?_
        · gi_wp2
          change wpAnyIn _ _ _ _ _ _ _ _ _ _
          refine any_one (i := 3) (by kernel_rfl) rfl ?_
          gi_wp2
          change wpAnyIn _ _ _ _ _ _ _ _ _ _
          refine any_one (i := 4) (by kernel_rfl) rfl ?_
          (refine list_ran rfl (.tmp 15) (.tmp 18) 22 rfl rfl rfl HRUN.out ?_; gi_wp2)
          change wpAnyIn _ _ _ _ _ _ _ _ _ _
          refine any_one (i := 5) (by kernel_rfl) rfl ?_
          gi_wp2
          change wpAnyIn _ _ _ _ _ _ _ _ _ _
          refine any_done (by kernel_rfl) ?_
          exact ⟨(HKO.out).from _, fun b cs t fr hN hne h => (HKC.out b hN hne).trans h, ⟨_, HBX5.out, by rw [List.map_append, List.map_singleton, HTX.out, HXS.out]; exact HS5.out⟩, HBW.out.trans (HBN.out w.heap.size (by omega) (by omega)), Nat.le_trans HN.out HSZ.out⟩
        · gi_wp2
          change wpAnyIn _ _ _ _ _ _ _ _ _ _
          refine any_one (i := 0) (by kernel_rfl) rfl ?_
          gi_wp2
          change wpAnyIn _ _ _ _ _ _ _ _ _ _
          refine any_one (i := 4) (by kernel_rfl) rfl ?_
          (refine list_ran rfl (.tmp 15) (.tmp 18) 22 rfl rfl rfl HRUN.out ?_; gi_wp2)
          change wpAnyIn _ _ _ _ _ _ _ _ _ _
          refine any_one (i := 5) (by kernel_rfl) rfl ?_
          gi_wp2
          change wpAnyIn _ _ _ _ _ _ _ _ _ _
          refine any_done (by kernel_rfl) ?_
          exact ⟨(HKO.out).from _, fun b cs t fr hN hne h => (HKC.out b hN hne).trans h, ⟨_, HBX5.out, by rw [List.map_append, List.map_singleton, HTX.out, HXS.out]; exact HS5.out⟩, HBW.out.trans (HBN.out w.heap.size (by omega) (by omega)), Nat.le_trans HN.out HSZ.out⟩
  case done =>
    rintro D ys W hD rfl ⟨⟨v, hv, hS⟩, hB, hN⟩ hK
    have hc := hv.cell
    have hf := hv.frozen
    have HV := Aside0.mk hv
    have HS := Aside0.mk hS
    have HBW := Aside0.mk hB
    have HK := Aside0.mk hK
    have HM : Aside0 ((upto (Item.z w) vs a l.length b).map Item.tx = (List.range b).map (fun j => l.getD ((a + j) % l.length) [])) := ⟨by
      unfold upto
      rw [List.map_map]
      apply List.map_congr_left
      intro k _
      simp only [Function.comp, itemOf, List.getD_eq_getElem?_getD]
      have := congrArg (fun q => q[(a + k) % l.length]?) hvm
      simp only [List.getElem?_map] at this
      rw [← this]
      cases vs[(a + k) % l.length]? <;> rfl⟩
    obtain ⟨A0, c0, rfl, _⟩ := Kd.S_reads hS
    clear hv hS hB hK hvc hvm
    gi_wp2
    rw [show (upto (Item.z w) vs a l.length b).length = (List.map Item.tx (upto (Item.z w) vs a l.length b)).length from (List.length_map _).symm]
    obtain ⟨V, hV⟩ : ∃ V, V = Value.slice A0 (List.map Item.tx (upto (Item.z w) vs a l.length b)).length c0 := ⟨_, rfl⟩
    rw [← hV] at HV HS ⊢
    have hne : w.heap.size + 1 ≠ D := by
      rintro rfl
      have h1 := HV.out
      unfold Boxed at h1
      rw [HK.out] at h1
      cases h1
    have hDw : w.heap.size ≤ D := by have := World.size_alloc w2 (.cells #[.slice (some ad) l.length C, .int .i64 a, .int .i64 b] 57); omega
    have hK2 : (W.setCell ⟨w.heap.size + 1, 0, none⟩ V).heap[D]? = some (.deferred (some [])) := (Below.heap_setCell _ _ _ _ (fun e => hne e.symm)).trans HK.out
    have hB2 : Boxed (W.setCell ⟨w.heap.size + 1, 0, none⟩ V) (w.heap.size + 1) 22 V := HV.out.set _
    have hB3 : Boxed ((W.setCell ⟨w.heap.size + 1, 0, none⟩ V).putObj D (.deferred none)) (w.heap.size + 1) 22 V := (World.putObj_heap_other hne).trans hB2
    have hS2 := Kd.S_far HS.out (p := ⟨w.heap.size + 1, 0, none⟩) (fun k hk => hk) V
    have hS3 : dB.S 35 ((W.setCell ⟨w.heap.size + 1, 0, none⟩ V).putObj D (.deferred none)) (w2.heap.size + 1) (fun k => k ≠ w.heap.size + 1) V (List.map Item.tx (upto (Item.z w) vs a l.length b)) := by
      refine Kd.S_mono (Kd.S_move (Kd.S_bound hS2) (fun k hk => World.putObj_heap_other (fun e => ?_))) (fun _ h => h.1)
      obtain ⟨_, _, _, q, _, cells, hq⟩ := hk
      rw [e, hK2] at hq
      cases hq
    have hc3 := hB3.cell
    refine ⟨by simp, .inl ⟨_, _, rfl, run_takeDeferred hK2, ?_⟩⟩
    refine ⟨.tuple #[V, .int .i64 0], ?_, V, rfl, ?_, ?_⟩
    · clear HV HS hB2 hS2 hS3 hB3
      subst hV
      simp only [List.length_map] at hc3
      simp [results, Try.results18, go_sem, hc3]
    · rw [HM.out] at hS3
      exact Kd.S_mono (Kd.S_lower (base' := w.heap.size) hS3 (Nat.le_trans hw2s (Nat.le_succ _))) (fun _ _ => trivial)
    · exact (HBW.out.setCell (p := ⟨w.heap.size + 1, 0, none⟩) (Nat.le_succ _) _).trans (belowK_b (w := w) (Nat.le_refl _) _ D _ _ hDw hK2 rfl rfl)
  case stop =>
    rintro D c pre W _ _ h _
    exact h.elim
theorem list_bad (A : Option Addr) (L C : Nat) (a b e0 : Int) (w : World) (hne : e0 ≠ 0)
    (hCk : ∀ W, Below w.heap.size w W → Calls Try.prog 21 #[.agg #[.slice A L C, .int .i64 a, .int .i64 b]] W fun e w' => e = .returned (.int .i64 e0) ∧ Below W.heap.size W w') :
    Calls Try.prog 18 #[.agg #[.slice A L C, .int .i64 a, .int .i64 b]] w fun e w' => e = .returned (.tuple #[.slice none 0 0, .int .i64 e0]) ∧ Below w.heap.size w w' := by
  have HCk := Aside0.mk hCk
  have hb1 : (e0 != 0) = true := by simpa using hne
  have hb2 : (e0 == 0) = false := by simpa using hne
  clear hCk
  go_enter Try.func18, Try.ntmps18
  go_wp2_with (first | (go_at_call 21; refine (HCk.out _ (below_alloc (below_alloc (Below.refl _ _) _) _)).mono ?_; rintro e w1 ⟨rfl, hb⟩; have bx := q_box hb; have hc := bx.cell; have hf := bx.frozen; have HBX := Aside0.mk bx; have HB1 := Aside0.mk (below_trans2 (below_alloc (below_alloc (Below.refl _ _) _) _) hb); clear hb bx))
  have hB2 : Boxed (w1.setCell ⟨w.heap.size + 1, 0, none⟩ (.slice none 0 0)) (w.heap.size + 1) 22 (.slice none 0 0) := HBX.out.set _
  have hc3 := hB2.cell
  refine bodyPost_ret (v := .tuple #[.slice none 0 0, .int .i64 e0]) (by simp [results, Try.results18, go_sem, hc3]) rfl ⟨rfl, HB1.out.setCell (p := ⟨w.heap.size + 1, 0, none⟩) (Nat.le_succ _) _⟩
end Go.Proofs.Ytnnfcebnmogdmaa.RingWalk
