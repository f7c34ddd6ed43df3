/- slices.Collect of a set's tracks. No conditions. -/
import Derived.Maps.AppendAt
import Derived.Shelf.SlIter.Collect
import Derived.Test.YtifgifhbefhkmaaBiA
namespace Go.Proofs.Ytifgifhbefhkmaa.BW
open Go Go.RowKit Go.Shelf Go.Sort
attribute [local go_sem] Oper.semAt_some
set_option linter.unusedSimpArgs false
set_option linter.unusedVariables false
def ints (l : List Int) : List Value := l.map (Value.int .i64)
abbrev Bx (W : World) (B : Nat) (t : TypeId) (v : Value) : Prop := W.heap[B]? = some (.cells #[v] t (0, 0))
theorem info3 : (Try.prog.info? 3).map (fun i => (i.zero, i.size, i.bytes)) = some (some (.int .i64 0), 1, 8) := by kernel_rfl
/-- Between two rounds. -/
def AInv (w : World) (pre : List Int) (W : World) : Prop := (∃ v, Bx W w.heap.size 31 v ∧ W.ownsRow (w.heap.size + 1) 3 1 v pre.length (ints pre)) ∧ Below w.heap.size w W ∧ w.heap.size + 1 ≤ W.heap.size
theorem ainv_own {w : World} {B : Nat} (hB : w.heap.size ≤ B) : OwnFrom B (AInv w) := by
  rintro pre A B' row ⟨⟨v, hv, hS⟩, hb, hs⟩ hg hr
  have hc : ∀ r, row = some r → ∀ cs t fr, A.heap[r]? ≠ some (.cells cs t fr) := by
    intro r e cs t fr h
    obtain ⟨_, o, ho, hoc⟩ := hr r e
    rw [h] at ho
    cases ho
    cases hoc
  refine ⟨⟨v, (hg.block _ (blk_lt' hv) (fun e => hc _ e.symm _ _ _ hv)).trans hv, hS.kept hg ?_⟩, hb.grown hg hb.size (fun k e => by have := (hr k e).1; omega), Nat.le_trans hs hg.size⟩
  rcases hS.2 with ⟨rfl, _⟩ | ⟨g, cap, cur, rfl, _, hgb, _⟩
  · exact .inl rfl
  · refine .inr fun e' => ?_
    exact hc g (by simpa [Value.ownBlock] using e'.symm) _ _ _ hgb
set_option maxRecDepth 100000 in
set_option maxHeartbeats 2000000 in
theorem append_any (Bn o : Nat) (ad : Addr) (L C : Nat) (bs : List Int) (hL : bs.length = L) (hL2 : L ≤ 1000) (hby : ∀ x ∈ bs, 0 ≤ x ∧ x < 256) (hM : (trkF 0 bs).length ≤ 10000) (w : World) (hB : Bn < w.heap.size) (ha : ad.block < w.heap.size)
    (hB0 : w.cell? ⟨Bn, o, none⟩ = some (.slice (some ad) L C)) (hc : ∀ j v, bs[j]? = some v → w.cell? (ad.add j) = some (.int .u8 v)) :
    Calls Try.prog 50 #[.slice none 0 0, .func (.func 51) #[] #[.pointer (some ⟨Bn, o, none⟩)]] w fun e w' => ∃ v, e = .returned v ∧ w'.ownsRow w.heap.size 3 1 v (trkF 0 bs).length (ints (trkF 0 bs)) ∧ Below w.heap.size w w' := by
  obtain ⟨i0, hi, hz0, hz1, hz2⟩ := info_parts info3
  refine (callsIn_wide (n := 6)).1 ?_
  refine callsIn_of_wp_marks Try.func50 rfl trivial ?_ rfl
  simp only [Try.ntmps50, List.size_toArray, List.length_cons, List.length_nil, Nat.reduceAdd, Nat.reduceSub, Array.replicate_succ, Array.replicate_zero, List.push_toArray, List.append_toArray, List.nil_append, List.cons_append]
  have HC := Hid.mk hc
  have HBY := Hid.mk hby
  clear hc hby
  gi_wp2
  have hs1 : (w.alloc (.cells #[.slice none 0 0] 31)).heap.size = w.heap.size + 1 := by simp
  refine wpIn_rangeFunc_ownG (F := Fence.wide) rfl (by decide) (gf := 51) (lb := #[.pointer (some ⟨Bn, o, none⟩)]) rfl trivial (enters_of Try.func51 (by kernel_rfl) rfl)
    (encs := fun x : Int => #[.int .i64 x]) (Kp := KC w.heap.size w.heap.size) (S := fun ys => ys = trkF 0 bs) (Sp := fun pre => pre <+: trkF 0 bs) (N := (trkF 0 bs).length)
    ?seq (fun h k => h.trans k) (fun W l o o' _ hl ho _ => KC.put W l o o' hl ho) (Below.refl _ _) (fun _ => rfl)
    (AInv w) (fun _ _ _ => False) (ainv_own (by rw [hs1]; omega)) (fun _ _ _ _ _ hs _ _ => hs) ?start
    (fun x => { tmps := #[.slice none 0 0, .func (.func 51) #[] #[.pointer (some ⟨Bn, o, none⟩)], .pointer (some ⟨w.heap.size, 0, none⟩), undef, .slice none 0 0, .int .i64 x, .func (.func 51) #[] #[.pointer (some ⟨Bn, o, none⟩)], .int .i64 x, undef, undef, undef, undef, undef], defers := [] }) ?assign ?body ?done ?stop
  case seq =>
    intro l' J Jx W hW hJ hJx hY h0
    have hBl : Below w.heap.size w W := ((Below.refl w.heap.size w).alloc (Nat.le_refl _) _).trans (hW.mono (by rw [hs1]; omega))
    exact tracks_in Fence.wide 5 trivial trivial rfl (by decide) l' Bn o w.heap.size w.heap.size hB (by omega) ad ha (by omega) L C bs hL hL2 HBY.out J Jx hY W ((hBl.cell hB).trans hB0) (fun j v hv => (hBl.cell (by rw [add_block]; exact ha)).trans (HC.out j v hv)) h0
  case start => exact ⟨⟨_, World.alloc_heap_new w _, ⟨rfl, .inl ⟨rfl, rfl⟩⟩⟩, (Below.refl _ w).alloc (Nat.le_refl _) _, by rw [hs1]; omega⟩
  case assign =>
    intro l' x W K hK
    gi_wp2
    exact hK
  case body =>
    rintro l' pre x W ⟨⟨v, hv, hS⟩, hB1, hN⟩ hlt
    have hb1 := cell_of_box_a hv
    obtain ⟨hc2, hf2⟩ := hb1
    have HS := Hid.mk hS
    have HV := Hid.mk hv
    have HB1 := Hid.mk hB1
    have HLT := Hid.mk hlt
    clear hS hB1 hlt
    gi_wp2_with (first
      | (gi_at_builtin; refine wpListIn_append_own _ rfl _ _ 31 rfl (w.heap.size + 1) 3 i0 (.int .i64 0) 1 8 Try.underlying31 hi hz0 hz1 hz2 rfl (by decide) _ _ _ rfl (HS.out.alloc _) ⟨W.heap.size, 0, none⟩ 1 1 [.int .i64 x] rfl rfl (cell_one_new _ _ _) (by simp [Value.oneCell']) (by have := HLT.out; unfold maxLen; omega) (by have := HLT.out; omega) (by simp; omega) ?_; intro v' w3 hown' hg3 hnil3
         have hBW : w.heap.size < W.heap.size := by omega
         have hne : some w.heap.size ≠ v.ownBlock := fun e => by have := (HS.out.lt _ e.symm).1; omega
         have hv3 : w3.heap[w.heap.size]? = some (.cells #[v] 31 (0, 0)) := (hg3.block w.heap.size (by simp; omega) hne).trans ((Below.heap_alloc _ _ _ hBW).trans HV.out)
         obtain ⟨hc3, hf3⟩ := cell_of_box_a hv3
         obtain ⟨g', cap', cur', rfl, hg'b⟩ : ∃ g' cap' cur', v' = .slice (some ⟨g', 0, none⟩) (pre.length + 1) cap' ∧ Hid (w.heap.size + 1 ≤ g' ∧ w3.heap[g']? = some (.cells cur' 3 (0, 0))) := by
           rcases hown'.2 with ⟨_, h0⟩ | ⟨g', cap', cur', h1, h2, h3, _⟩
           · exact absurd h0 (by omega)
           · exact ⟨g', cap', cur', h1, ⟨h2, h3⟩⟩
         have HO := Hid.mk hown'
         have HG := Hid.mk hg3
         have HV3 := Hid.mk hv3
         clear hown' hg3 hv3 hne
         go_frame)
      | gi_in)
    have hBW : w.heap.size < W.heap.size := by omega
    obtain ⟨w4, hw4⟩ : ∃ w4, w3.setCell ⟨w.heap.size, 0, none⟩ (.slice (some ⟨g', 0, none⟩) (pre.length + 1) cap') = w4 := ⟨_, rfl⟩
    rw [hw4]
    have hg4 : w3.grownBy w4 (some w.heap.size) := by rw [← hw4]; exact grownBy_setCell0_a _ _ _
    have hv4 : w4.heap[w.heap.size]? = some (.cells #[.slice (some ⟨g', 0, none⟩) (pre.length + 1) cap'] 31 (0, 0)) := by rw [← hw4]; exact heap_setCell_box_a _ HV3.out
    have hrow4 := HO.out.kept hg4 (.inr (fun e => by have := (HO.out.lt _ e).1; omega))
    have hsz3 : W.heap.size + 1 ≤ w3.heap.size := by have := HG.out.size; simpa using this
    have hsz4 := hg4.size
    have hown_ge : ∀ k, v.ownBlock = some k → w.heap.size + 1 ≤ k := fun k e => (HS.out.lt k e).1
    have hb3 : Below w.heap.size w w3 := (HB1.out.alloc HB1.out.size _).grown HG.out (by have := HB1.out.size; simp; omega) (fun k e => by have := hown_ge k e; omega)
    have hb4 : Below w.heap.size w w4 := hb3.grown hg4 hb3.size (fun k e => by cases e; omega)
    have same : ∀ (k : Nat) (o : Obj), W.heap[k]? = some o → some k ≠ v.ownBlock → k ≠ w.heap.size → w4.heap[k]? = some o := fun k o hk h1 h2 => by
      have hkl := blk_lt' hk
      refine (hg4.block k (by omega) (fun e => by cases e; exact h2 rfl)).trans ((HG.out.block k (by simp; omega) h1).trans ((Below.heap_alloc _ _ k hkl).trans hk))
    refine ⟨⟨by omega, fun k o hk ho hoc => same k o ho (fun e => ?_) (by rw [hs1] at hk; omega)⟩, fun b cs ty fr hb hne hcs => same b _ hcs (fun e => by have := hown_ge b e.symm; omega) hne, ⟨_, hv4, by simpa [ints] using hrow4⟩, hb4, by omega⟩
    rcases HS.out.2 with ⟨rfl, _⟩ | ⟨g, cap, cur, rfl, _, hgb, _⟩
    · simp [Value.ownBlock] at e
    · simp only [Value.ownBlock, Option.some.injEq] at e
      subst e
      rw [hgb] at ho
      cases ho
      cases hoc
  case done =>
    rintro D ys W hD rfl ⟨⟨v, hv, hS⟩, hB1, hN⟩ hK
    obtain ⟨hc2, hf2⟩ := cell_of_box_a hv
    have HS := Hid.mk hS
    have HB1 := Hid.mk hB1
    have HK := Hid.mk hK
    clear hS hB1 hK
    gi_wp2
    have hKD := HK.out
    have hDne : ∀ k, v.ownBlock = some k → k ≠ D := fun k e q => by
      subst q
      rcases HS.out.2 with ⟨rfl, _⟩ | ⟨g, cap, cur, rfl, _, hgb, _⟩
      · simp [Value.ownBlock] at e
      · simp only [Value.ownBlock, Option.some.injEq] at e
        subst e
        rw [hgb] at hKD
        cases hKD
    refine ⟨by simp, .inl ⟨_, _, rfl, run_takeDeferred hKD, ?_⟩⟩
    have hS3 := HS.out.kept (grownBy_putObj_a W D (.deferred none)) (.inr (fun e => hDne _ e rfl))
    refine ⟨_, results_tmp rfl _ _ _, v, rfl, ?_, HB1.out.grown (grownBy_putObj_a W D _) HB1.out.size (fun k e => by cases e; rw [hs1] at hD; omega)⟩
    refine ⟨hS3.1, hS3.2.imp id ?_⟩
    rintro ⟨g, cap, cur, h1, h2, h3⟩
    exact ⟨g, cap, cur, h1, by omega, h3⟩
  case stop =>
    rintro D c pre W _ _ h _
    exact h.elim
/-- slices.Collect -/
theorem collect_any (Bn o : Nat) (ad : Addr) (L C : Nat) (bs : List Int) (hL : bs.length = L) (hL2 : L ≤ 1000) (hby : ∀ x ∈ bs, 0 ≤ x ∧ x < 256) (hM : (trkF 0 bs).length ≤ 10000) (w : World) (hB : Bn < w.heap.size) (ha : ad.block < w.heap.size)
    (hB0 : w.cell? ⟨Bn, o, none⟩ = some (.slice (some ad) L C)) (hc : ∀ j v, bs[j]? = some v → w.cell? (ad.add j) = some (.int .u8 v)) :
    Calls Try.prog 36 #[.func (.func 51) #[] #[.pointer (some ⟨Bn, o, none⟩)]] w fun e w' => ∃ v, e = .returned v ∧ w'.ownsRow w.heap.size 3 1 v (trkF 0 bs).length (ints (trkF 0 bs)) ∧ Below w.heap.size w w' := by
  have HA := Hid.mk (append_any Bn o ad L C bs hL hL2 hby hM w hB ha hB0 hc)
  clear hby hc
  go_enter Try.func36, Try.ntmps36
  go_wp2_with (go_at_call 50; refine HA.out.mono ?_; rintro e w' ⟨v, rfl, hS, hb⟩; have HS := Hid.mk hS; have HBb := Hid.mk hb; clear hS hb)
  go_ret
  exact ⟨v, rfl, HS.out, HBb.out⟩
end Go.Proofs.Ytifgifhbefhkmaa.BW
