/- ring's iterator: the texts come in order, one a round. -/
import Derived.RangeFuncNested
import Derived.RangeFuncBound
import Derived.RangeFuncCalls
import Derived.RangeFuncLeaves
import Derived.RangeFuncBox
import Derived.Shelf.Abstract
import Derived.WalkKit
import Derived.OwnWalkIn
import Derived.TacticsInMore
import Derived.LoopNIn
import Derived.LoopIn
import Derived.Lib.QuietBelowIn
import Derived.Sort.QuietIn
import Derived.Test.YtnnfcebnmogdmaaProg
import Derived.Test.YtnnfcebnmogdmaaOursB
import Derived.Test.YtnnfcebnmogdmaaTail
import Derived.Test.YtnnfcebnmogdmaaPureKit
namespace Go.Proofs.Ytnnfcebnmogdmaa.RingWalk
open Go Go.RowKit Go.Shelf Go.Sort Go.Proofs.YtnnfcebnmogdmaaW.PrintWords
attribute [local go_sem] Oper.semAt_some
theorem ret_i64 {a b : Int} (h : a = b) : Ending.returned (.int .i64 a) = .returned (.int .i64 b) := by rw [h]
/-- round.at -/
theorem at_in (F : Fence) (n : Nat) (h : F.fn 29) (hro : F.round = none) (A : Option Addr) (from_ many k L C j : Nat) (hL : 1 ≤ L) (h1 : from_ ≤ 64) (h3 : k ≤ 64) (hj : (from_ + k) % L = j) (w : World) :
    CallsIn F n Try.prog 29 #[.agg #[.slice A L C, .int .i64 from_, .int .i64 many], .int .i64 k] w fun e w' => e = .returned (.int .i64 j) ∧ w' = w.alloc (.cells #[.slice A L C, .int .i64 from_, .int .i64 many] 57) := by
  refine callsIn_of_wp Try.func29 rfl h ?_ hro
  simp only [Try.ntmps29, List.size_toArray, List.length_cons, List.length_nil, Nat.reduceAdd, Nat.reduceSub, Array.replicate_succ, Array.replicate_zero, List.push_toArray, List.append_toArray, List.nil_append, List.cons_append]
  have hn : ¬ (L : Int) = 0 := by omega
  have HJ : Aside0 (((from_ : Int) + (k : Int)) % (L : Int) = (j : Int)) := ⟨by rw [← hj]; rfl⟩
  clear hj
  gi_wp2
  go_ret
  exact ⟨ret_i64 HJ.out, rfl⟩
/-- All blocks of cells below N but g stay. -/
def KC (N g : Nat) (W W' : World) : Prop := ∀ b cs t fr, b < N → b ≠ g → W.heap[b]? = some (.cells cs t fr) → W'.heap[b]? = some (.cells cs t fr)
theorem KC.trans {N g : Nat} {A B C : World} (h : KC N g A B) (k : KC N g B C) : KC N g A C := fun b cs t fr hN hb hc => k b cs t fr hN hb (h b cs t fr hN hb hc)
theorem KC.put {N g : Nat} (W : World) (l : Nat) (o o' : Obj) (hl : W.heap[l]? = some o) (ho : o.isCells = false) : KC N g W (W.putObj l o') := fun b cs t fr _ _ hc => by
  have hne : b ≠ l := by
    rintro rfl
    rw [hl] at hc
    cases hc
    cases ho
  rw [World.putObj_heap_other hne]
  exact hc
theorem KC.below {N g : Nat} {W W' : World} (h : Below W.heap.size W W') : KC N g W W' := fun _ _ _ _ _ _ hc => blk_below hc h
theorem KC.cell {N g : Nat} {W W' : World} (h : KC N g W W') {b o : Nat} {v : Value} (hN : b < N) (hb : b ≠ g) (hc : W.cell? ⟨b, o, none⟩ = some v) : W'.cell? ⟨b, o, none⟩ = some v := by
  unfold World.cell? at hc ⊢
  simp only at hc ⊢
  cases hq : W.heap[b]? with
  | none => rw [hq] at hc; cases hc
  | some x =>
    cases x <;> rw [hq] at hc <;> first | (rw [h b _ _ _ hN hb hq]; exact hc) | (simp at hc)
theorem add_block (a : Addr) (j : Nat) : (a.add j).block = a.block := by unfold Addr.add; split <;> rfl
theorem KC.cell_at {N g : Nat} {W W' : World} (h : KC N g W W') {a : Addr} {j : Nat} {v : Value} (hN : a.block < N) (hb : a.block ≠ g) (hc : W.cell? (a.add j) = some v) : W'.cell? (a.add j) = some v := by
  unfold World.cell? at hc ⊢
  have hb2 : (a.add j).block ≠ g := by rw [add_block]; exact hb
  have hN2 : (a.add j).block < N := by rw [add_block]; exact hN
  cases hq : W.heap[(a.add j).block]? with
  | none => rw [hq] at hc; cases hc
  | some x =>
    cases x <;> rw [hq] at hc <;> first | (rw [h _ _ _ _ hN2 hb2 hq]; exact hc) | (simp at hc)
/-- What comes in round k. -/
def itemOf {α : Type} (z : α) (vs : List α) (from_ L k : Nat) : α := vs.getD ((from_ + k) % L) z
def upto {α : Type} (z : α) (vs : List α) (from_ L k : Nat) : List α := (List.range k).map (itemOf z vs from_ L)
theorem upto_succ {α : Type} (z : α) (vs : List α) (from_ L k : Nat) : upto z vs from_ L (k + 1) = upto z vs from_ L k ++ [itemOf z vs from_ L k] := by unfold upto; rw [List.range_succ, List.map_append]; rfl
theorem upto_length {α : Type} (z : α) (vs : List α) (from_ L k : Nat) : (upto z vs from_ L k).length = k := by simp [upto]
theorem upto_pre {α : Type} (z : α) (vs : List α) (from_ L : Nat) {k many : Nat} (h : k < many) : upto z vs from_ L (k + 1) <+: upto z vs from_ L many := by
  unfold upto
  exact (List.prefix_iff_eq_take.2 (by rw [← List.map_take, List.take_range]; simp; rw [Nat.min_eq_left (by omega)]))
def YR {α : Type} (J Jx : List α → World → Prop) (N g : Nat) (pre : List α) (W : World) (b : Bool) (W' : World) : Prop := (b = true → J pre W' ∧ KC N g W W') ∧ (b = false → Jx pre W')
set_option maxRecDepth 100000 in
set_option maxHeartbeats 2000000 in
theorem used_in (F : Fence) (n : Nat) (h56 : F.fn 32) (h47 : F.fn 29) (hro : F.round = none) (hn : 2 ≤ n) (l Bn N g : Nat) (hBN : Bn < N) (hne : Bn ≠ g) (ad : Addr) (haN : ad.block < N) (hag : ad.block ≠ g) (L C from_ many : Nat) (hL : 1 ≤ L) (hL2 : L ≤ 64) (h1 : from_ < L) (h2 : many ≤ L) {α : Type} (z : α) (en : α → Value) (vs : List α) (hvs : vs.length = L) (J Jx : List α → World → Prop)
    (hY : ∀ pre x W, J pre W → pre.length < many → YieldAt F (n - 1) Try.prog l #[en x] W fun e W' =>
      (e = .returned (.bool true) ∧ J (pre ++ [x]) W' ∧ KC N g W W') ∨ (e = .returned (.bool false) ∧ Jx (pre ++ [x]) W'))
    (W : World) (hJ : AbidesFrom W.heap.size J) (hB0 : W.cell? ⟨Bn, 0, none⟩ = some (.slice (some ad) L C)) (hB1 : W.cell? ⟨Bn, 1, none⟩ = some (.int .i64 from_)) (hB2 : W.cell? ⟨Bn, 2, none⟩ = some (.int .i64 many)) (hc : ∀ j v, vs[j]? = some v → W.cell? (ad.add j) = some (en v)) (h0 : J [] W) :
    CallsIn F n Try.prog 32 #[.func (.yield l) #[] #[], .pointer (some ⟨Bn, 0, none⟩)] W fun e W' => (∃ v, e = .returned v) ∧
      ((∃ ys, ys = upto z vs from_ L many ∧ J ys W') ∨ (∃ pre, pre <+: upto z vs from_ L many ∧ Jx pre W')) := by
  refine callsIn_of_wp Try.func32 rfl h56 ?_ hro
  simp only [Try.ntmps32, List.size_toArray, List.length_cons, List.length_nil, Nat.reduceAdd, Nat.reduceSub, Array.replicate_succ, Array.replicate_zero, List.push_toArray, List.append_toArray, List.nil_append, List.cons_append]
  gi_wp2
  gi_loopw [6] (fun i wr => ∃ k : Nat, k ≤ many ∧ i = .int .i64 k ∧ Aside0 (KC N g W wr) ∧ Aside0 (J (upto z vs from_ L k) wr))
    (fun i _ => many - (intOf i).toNat)
  case atStart => exact ⟨0, by omega, rfl, ⟨fun _ _ _ _ _ _ h => h⟩, ⟨h0⟩⟩
  case round =>
    obtain ⟨k, hk, rfl, hkc, hj⟩ := hrel
    have c0 := hkc.out.cell hBN hne hB0
    have c1 := hkc.out.cell hBN hne hB1
    have c2 := hkc.out.cell hBN hne hB2
    by_cases hlt : k < many
    · obtain ⟨j, hjd⟩ : ∃ j, (from_ + k) % L = j := ⟨_, rfl⟩
      have hjL : j < L := by rw [← hjd]; exact Nat.mod_lt _ (by omega)
      have hjL2 : (j : Int) < L := by omega
      obtain ⟨v, hv⟩ : ∃ v, vs[j]? = some v := ⟨vs[j]'(by omega), List.getElem?_eq_getElem _⟩
      have cv : wr.cell? (ad.add j) = some (en v) := hkc.out.cell_at haN hag (hc j v hv)
      have q0 := fun d os => cell_regrown c0 d os
      have q1 := fun d os => cell_regrown c1 d os
      have q2 := fun d os => cell_regrown c2 d os
      have qv := fun d os => cell_regrown cv d os
      have HV : Aside0 (itemOf z vs from_ L k = v) := ⟨by unfold itemOf; rw [hjd, List.getD_eq_getElem?_getD, hv]; rfl⟩
      have HJD := Aside0.mk hjd
      have HUS := Aside0.mk (upto_succ z vs from_ L k)
      have HY := Aside0.mk (fun W1 h1 => hY (upto z vs from_ L k) v W1 h1 (by rw [upto_length]; exact hlt))
      have HJ := Aside0.mk hJ
      clear hjd hv hY hJ hc h0 hB0 hB1 hB2 c0 c1 c2 cv
      gi_wp2
      refine Tail.wpIn_region_tail (C := fun w' => ∃ p : Regrown, w' = grow (redrawn wr p.d) p.os) 8 hro (by kernel_rfl) (by kernel_rfl) ⟨⟨wr.drawn + 1, #[]⟩, by rw [grow_empty]; rfl⟩ ?_
      simp only [List.take_succ_cons, List.take_zero, List.drop_succ_cons, List.drop_zero]
      repeat (quiet_step_in (first | exact ⟨fun _ => by omega, CallsIn.regrown_of ((at_in F _ h47 hro _ from_ many k L C j hL (by omega) (by omega) HJD.out _).mono fun _ _ h => ⟨h.1, h.2 ▸ below_alloc (Below.refl _ _) _⟩)⟩))
      refine wpQuietIn_nil ?_
      intro W1 hw1
      obtain ⟨⟨dq, osq⟩, hw2⟩ := hw1
      have hBw : Below wr.heap.size wr W1 := by rw [hw2]; exact below_regrown _ _ _
      have hJ1 : J (upto z vs from_ L k) W1 := HJ.out _ _ _ none hj.out (grown_of_below hBw none) (fun r e => by cases e)
      clear hw2 q0 q1 q2 qv
      obtain ⟨fn, tmps, assign, body, hy, hR⟩ := HY.out W1 hJ1
      have HR : Aside0 (RoundIn F (n - 1) Try.prog l fn tmps assign body W1 fun e W' => ∃ b : Bool, e = .returned (.bool b) ∧ Aside0 (YR J Jx N g (upto z vs from_ L k ++ [v]) W1 b W')) :=
        ⟨hR.mono (by
          rintro e W3 (⟨rfl, hJ3, hk3⟩ | ⟨rfl, hJx3⟩)
          · exact ⟨true, rfl, ⟨fun _ => ⟨hJ3, hk3⟩, fun h => by cases h⟩⟩
          · exact ⟨false, rfl, ⟨fun h => (by cases h), fun _ => hJx3⟩⟩)⟩
      have HBW := Aside0.mk hBw
      clear hR hBw hJ1
      gi_wp2
      refine ⟨fun _ => by omega, HR.out.mono ?_⟩
      rintro e W3 ⟨b, rfl, hb⟩
      cases b with
      | false =>
        gi_wp2
        refine bodyPost_ret (results_none rfl _ _ _) rfl ?_
        refine ⟨⟨_, rfl⟩, .inr ⟨upto z vs from_ L (k + 1), upto_pre z vs from_ L hlt, ?_⟩⟩
        rw [HUS.out, HV.out]
        exact hb.out.2 rfl
      | true =>
        obtain ⟨hJ3, hk3⟩ := hb.out.1 rfl
        have HJ3 := Aside0.mk hJ3
        have HK3 := Aside0.mk hk3
        clear hJ3 hk3
        gi_wp2
        go_roundw
        case rel => exact ⟨k + 1, by omega, by go_num, ⟨(hkc.out.trans (KC.below HBW.out)).trans HK3.out⟩, ⟨by rw [HUS.out, HV.out]; exact HJ3.out⟩⟩
        case measure => simp [intOf]; omega
    · obtain rfl : k = many := by omega
      gi_wp2
      go_end0
      exact ⟨⟨_, rfl⟩, .inl ⟨_, rfl, hj.out⟩⟩
end Go.Proofs.Ytnnfcebnmogdmaa.RingWalk
