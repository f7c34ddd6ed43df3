/- bits.Next: the first track from one on, going round. No conditions. -/
import Derived.Test.YtifgifhbefhkmaaBiB
namespace Go.Proofs.Ytifgifhbefhkmaa.BW
open Go Go.RowKit Go.Shelf Go.Sort
attribute [local go_sem] Oper.semAt_some
set_option linter.unusedSimpArgs false
set_option linter.unusedVariables false
/-- The first one that came; below 0: none. -/
def firstF (l : List Int) : Int := l.foldl (fun a x => if a < 0 then x else a) (-1)
def nextI (f : Int) (l : List Int) : Int := match l.find? (fun x => decide (f ≤ x)) with
  | some x => x
  | none => firstF l
theorem firstF_snoc (l : List Int) (x : Int) : firstF (l ++ [x]) = if firstF l < 0 then x else firstF l := by
  unfold firstF; rw [List.foldl_append]; rfl
theorem nextI_stop {f x : Int} {pre l : List Int} (h : pre ++ [x] <+: l) (hx : f ≤ x) (hp : ∀ y ∈ pre, y < f) : nextI f l = x := by
  obtain ⟨r, rfl⟩ := h
  unfold nextI
  have h1 : pre.find? (fun x => decide (f ≤ x)) = none := List.find?_eq_none.2 fun y hy => by have := hp y hy; simp; omega
  rw [List.append_assoc, List.find?_append, h1]
  simp [hx]
theorem nextI_none {f : Int} {l : List Int} (hp : ∀ y ∈ l, y < f) : nextI f l = firstF l := by
  unfold nextI
  have h1 : l.find? (fun x => decide (f ≤ x)) = none := List.find?_eq_none.2 fun y hy => by have := hp y hy; simp; omega
  rw [h1]
theorem below_bx {w W : World} {N b : Nat} {t : TypeId} {v : Value} (h : Below N w W) (hb : b < N) (hv : Bx w b t v) : Bx W b t v := (h.block _ hb).trans hv
/-- Between two rounds: the place that is asked for, and the first one. -/
def NInv (w : World) (B : Nat) (f : Int) (pre : List Int) (W : World) : Prop :=
  (∀ y ∈ pre, y < f) ∧ Bx W w.heap.size 3 (.int .i64 f) ∧ Bx W (w.heap.size + 1) 3 (.int .i64 0) ∧ Bx W (w.heap.size + 2) 23 (.int .i64 0) ∧ Bx W B 3 (.int .i64 (firstF pre)) ∧ Below w.heap.size w W ∧ B + 2 ≤ W.heap.size
def NStop (w : World) (f : Int) (c : Code) (pre : List Int) (W : World) : Prop :=
  c = .ret ∧ ∃ p x, pre = p ++ [x] ∧ f ≤ x ∧ (∀ y ∈ p, y < f) ∧ Bx W (w.heap.size + 1) 3 (.int .i64 x) ∧ Bx W (w.heap.size + 2) 23 (.int .i64 0) ∧ Below w.heap.size w W ∧ w.heap.size + 3 ≤ W.heap.size
theorem bx_grown {W W' : World} {row : Option Nat} {b : Nat} {t : TypeId} {v : Value} (hg : W.grownBy W' row) (hr : ∀ r, row = some r → ∃ o : Obj, W.heap[r]? = some o ∧ o.isCells = false) (h : Bx W b t v) : Bx W' b t v := by
  refine (hg.block _ (blk_lt' h) fun e => ?_).trans h
  obtain ⟨o, ho, hc⟩ := hr b e.symm
  rw [h] at ho
  cases ho
  cases hc
theorem ninv_own {w : World} {B : Nat} {f : Int} (hB : w.heap.size ≤ B) : OwnFrom (B + 2) (NInv w B f) := by
  rintro pre A A' row ⟨h0, h1, h2, h3, h4, h5, h6⟩ hg hr
  have hc : ∀ r, row = some r → ∃ o : Obj, A.heap[r]? = some o ∧ o.isCells = false := fun r e => (hr r e).2
  exact ⟨h0, bx_grown hg hc h1, bx_grown hg hc h2, bx_grown hg hc h3, bx_grown hg hc h4, h5.grown hg h5.size (fun k e => by have := (hr k e).1; omega), Nat.le_trans h6 hg.size⟩
theorem nstop_own {w : World} {B : Nat} {f : Int} {c : Code} (hB : w.heap.size ≤ B) : OwnFrom (B + 2) (NStop w f c) := by
  rintro pre A A' row ⟨h0, p, x, e1, e2, e3, h1, h2, h5, h6⟩ hg hr
  have hc : ∀ r, row = some r → ∃ o : Obj, A.heap[r]? = some o ∧ o.isCells = false := fun r e => (hr r e).2
  exact ⟨h0, p, x, e1, e2, e3, bx_grown hg hc h1, bx_grown hg hc h2, h5.grown hg h5.size (fun k e => by have := (hr k e).1; omega), Nat.le_trans h6 hg.size⟩
set_option maxRecDepth 100000 in
set_option maxHeartbeats 2000000 in
theorem tracks_any (ad : Addr) (L C : Nat) (w : World) : Calls Try.prog 37 #[.slice (some ad) L C] w fun e w' => e = .returned (.func (.func 51) #[] #[.pointer (some ⟨w.heap.size, 0, none⟩)]) ∧ w' = w.alloc (.cells #[.slice (some ad) L C] 22) := by
  go_enter Try.func37, Try.ntmps37
  go_wp2
  go_ret
  exact ⟨rfl, rfl⟩
theorem bx_new (w : World) (v : Value) (t : TypeId) : Bx (w.alloc (.cells #[v] t)) w.heap.size t v := World.alloc_heap_new w _
theorem bx_alloc {W : World} {b : Nat} {t : TypeId} {v : Value} (o : Obj) (h : Bx W b t v) : Bx (W.alloc o) b t v := (Below.heap_alloc _ _ _ (blk_lt' h)).trans h
theorem three (w : World) (f : Int) (W : World) (hW : ((w.alloc (.cells #[.int .i64 f] 3)).alloc (.cells #[.int .i64 0] 3)).alloc (.cells #[.int .i64 0] 23) = W) :
    W.heap.size = w.heap.size + 3 ∧ Below w.heap.size w W ∧ Bx W w.heap.size 3 (.int .i64 f) ∧ Bx W (w.heap.size + 1) 3 (.int .i64 0) ∧ Bx W (w.heap.size + 2) 23 (.int .i64 0) := by
  subst hW
  have e1 : (w.alloc (.cells #[.int .i64 f] 3)).heap.size = w.heap.size + 1 := World.size_alloc _ _
  have e2 : ((w.alloc (.cells #[.int .i64 f] 3)).alloc (.cells #[.int .i64 0] 3)).heap.size = w.heap.size + 2 := by rw [World.size_alloc, e1]
  refine ⟨by rw [World.size_alloc, e2], ?_, bx_alloc _ (bx_alloc _ (bx_new _ _ _)), bx_alloc _ (e1 ▸ bx_new _ _ _), e2 ▸ bx_new _ _ _⟩
  exact (((Below.refl _ w).alloc (Nat.le_refl _) _).alloc (by rw [e1]; omega) _).alloc (by rw [e2]; omega) _
theorem bx_set {W : World} {b : Nat} {t : TypeId} {v : Value} (v' : Value) (h : Bx W b t v) : Bx (W.setCell ⟨b, 0, none⟩ v') b t v' := heap_setCell_box_a _ h
theorem bx_other {W : World} {b c : Nat} {t : TypeId} {v : Value} (v' : Value) (hne : c ≠ b) (h : Bx W c t v) : Bx (W.setCell ⟨b, 0, none⟩ v') c t v := ((grownBy_setCell0_a W b v').block c (blk_lt' h) (by simpa using hne)).trans h
theorem below_set {w W : World} {N b : Nat} (v : Value) (h : Below N w W) (hN : N ≤ W.heap.size) (hb : N ≤ b) : Below N w (W.setCell ⟨b, 0, none⟩ v) := h.grown (grownBy_setCell0_a W b v) hN (fun k e => by cases e; exact hb)
theorem set_size (W : World) (b : Nat) (v : Value) : W.heap.size ≤ (W.setCell ⟨b, 0, none⟩ v).heap.size := (grownBy_setCell0_a W b v).size
theorem keeps_set {W : World} {N b : Nat} (v : Value) (hb : b < N) : KeepsFrom N W (W.setCell ⟨b, 0, none⟩ v) := KeepsFrom.of_grownBy (grownBy_setCell0_a W b v) (fun j e => by cases e; exact hb)
theorem kc_set {W : World} {N b : Nat} (v : Value) : KC N b W (W.setCell ⟨b, 0, none⟩ v) := fun c cs t fr _ hne hc => ((grownBy_setCell0_a W b v).block c (blk_lt' hc) (by simpa using hne)).trans hc
theorem load_box {W : World} {b : Nat} {t ty : TypeId} {v : Value} (hq : ∀ w, (isAgg ty).run Try.prog w = .ok false w) (h : Bx W b t v) : (loadVar ty ⟨b, 0, none⟩).run Try.prog W = .ok v W := by
  have hc := (cell_of_box_a h).1
  simp [loadVar, hq, hc, Sem.run_bind, Result.andThen]
theorem isAgg_int : (∀ w, (isAgg 3).run Try.prog w = .ok false w) ∧ (∀ w, (isAgg 23).run Try.prog w = .ok false w) := by
  constructor <;> intro w <;> rfl
theorem next_end {w W : World} {D s : Nat} {x : Int} {tmps : Array Value} (h6 : tmps.getD 6 undef = .pointer (some ⟨s + 1, 0, none⟩)) (h7 : tmps.getD 7 undef = .pointer (some ⟨s + 1 + 1, 0, none⟩)) (x1 : Bx W (s + 1) 3 (.int .i64 x)) (x2 : Bx W (s + 2) 23 (.int .i64 0))
    (hs : w.heap.size = s) (hb : Below w.heap.size w W) (hN : s ≤ W.heap.size) (hD : s ≤ D) (hK : W.heap[D]? = some (.deferred (some []))) :
    bodyPostM Fence.wide 7 Try.prog Try.f20 (fun e w' => e = .returned (.tuple #[.int .i64 x, .int .i64 0]) ∧ Below w.heap.size w w') .ret { tmps := tmps, defers := [{ target := .collected D, args := #[] }] } W := by
  refine ⟨by simp, .inl ⟨_, _, rfl, run_takeDeferred hK, ?_⟩⟩
  have hne : ∀ {b : Nat} {t : TypeId} {v : Value}, Bx W b t v → Bx (W.putObj D (.deferred none)) b t v := fun {b t v} h => by
    have : b ≠ D := by rintro rfl; have h' : W.heap[b]? = some (.cells #[v] t (0, 0)) := h; rw [hK] at h'; cases h'
    show (W.putObj D (.deferred none)).heap[b]? = _
    rw [World.putObj_heap_other this]; exact h
  have y1 := load_box isAgg_int.1 (hne x1)
  have y2 := load_box isAgg_int.2 (hne x2)
  have hs2 : s + 1 + 1 = s + 2 := rfl
  rw [hs2] at h7
  have h6' : tmps[6]?.getD undef = .pointer (some ⟨s + 1, 0, none⟩) := by simpa using h6
  have h7' : tmps[7]?.getD undef = .pointer (some ⟨s + 2, 0, none⟩) := by simpa using h7
  refine ⟨.tuple #[.int .i64 x, .int .i64 0], ?_, rfl, ?_⟩
  · simp [results, show Try.f20.results = #[.cell 6 3, .cell 7 23] from rfl, h6', h7', asAddr, y1, y2, Sem.run_bind, Result.andThen]
  · exact hb.grown (grownBy_putObj_a W D _) (by omega) (fun k e => by cases e; omega)
set_option maxRecDepth 100000 in
set_option maxHeartbeats 2000000 in
theorem next_any (n f : Int) (ad : Addr) (L C : Nat) (bs : List Int) (hL : bs.length = L) (hL2 : L ≤ 1000) (hby : ∀ x ∈ bs, 0 ≤ x ∧ x < 256) (w : World) (ha : ad.block < w.heap.size)
    (hc : ∀ j v, bs[j]? = some v → w.cell? (ad.add j) = some (.int .u8 v))
    (hHas : ∀ W, Below w.heap.size w W → Calls Try.prog 18 #[.int .i64 n, .slice (some ad) L C, .int .i64 f] W fun e W' => (∃ b, e = .returned (.tuple #[.bool b, .int .i64 0])) ∧ Below W.heap.size W W') :
    Calls Try.prog 20 #[.int .i64 n, .slice (some ad) L C, .int .i64 f] w fun e w' => e = .returned (.tuple #[.int .i64 (nextI f (trkF 0 bs)), .int .i64 0]) ∧ Below w.heap.size w w' := by
  refine (callsIn_wide (n := 7)).1 ?_
  refine callsIn_of_wp_marks Try.func20 rfl trivial ?_ rfl
  simp only [Try.ntmps20, List.size_toArray, List.length_cons, List.length_nil, Nat.reduceAdd, Nat.reduceSub, Array.replicate_succ, Array.replicate_zero, List.push_toArray, List.append_toArray, List.nil_append, List.cons_append]
  have HC := Hid.mk hc
  have HBY := Hid.mk hby
  have HH := Hid.mk hHas
  have HT := Hid.mk (tracks_any ad L C)
  clear hc hby hHas
  gi_wp2
  obtain ⟨W0, hW0⟩ : ∃ W0, ((w.alloc (.cells #[.int .i64 f] 3)).alloc (.cells #[.int .i64 0] 3)).alloc (.cells #[.int .i64 0] 23) = W0 := ⟨_, rfl⟩
  rw [hW0]
  obtain ⟨hs0, hb0, x0, x1, x2⟩ := three w f W0 hW0
  clear hW0
  refine ⟨trivial, callsIn_wide.2 ((HH.out _ hb0).mono ?_)⟩
  rintro e w1 ⟨⟨b, rfl⟩, hb1⟩
  have hs1 : w.heap.size + 3 ≤ w1.heap.size := by have := hb1.size; omega
  have hb1' : Below w.heap.size w w1 := hb0.trans (hb1.mono (by omega))
  have x0 := below_bx hb1 (by omega) x0
  have x1 := below_bx hb1 (by omega) x1
  have x2 := below_bx hb1 (by omega) x2
  clear hb1 hb0 hs0
  have HX := Hid.mk (And.intro x0 (And.intro x1 x2))
  clear x0 x1 x2
  gi_wp2
  refine ⟨trivial, callsIn_wide.2 ((HT.out _).mono ?_)⟩
  rintro e w2' ⟨rfl, h2⟩
  obtain ⟨w2, rfl⟩ : ∃ w2, w2' = w2 := ⟨_, rfl⟩
  have e1 : (w1.alloc (.cells #[.int .i64 (-1)] 3)).heap.size = w1.heap.size + 1 := World.size_alloc _ _
  have hs2 : w2'.heap.size = w1.heap.size + 2 := by rw [h2, World.size_alloc, e1]
  have hb12 : Below w1.heap.size w1 w2' := by
    rw [h2]; exact ((Below.refl _ w1).alloc (Nat.le_refl _) _).alloc (by rw [e1]; omega) _
  have y1 : Bx w2' w1.heap.size 3 (.int .i64 (-1)) := by rw [h2]; exact bx_alloc _ (bx_new _ _ _)
  have y2 : Bx w2' (w1.heap.size + 1) 22 (.slice (some ad) L C) := by rw [h2]; exact e1 ▸ bx_new _ _ _
  have x0 := below_bx hb12 (by omega) HX.out.1
  have x1 := below_bx hb12 (by omega) HX.out.2.1
  have x2 := below_bx hb12 (by omega) HX.out.2.2
  have hb2 : Below w.heap.size w w2' := hb1'.trans (hb12.mono (by omega))
  have h0 : NInv w w1.heap.size f [] w2' := ⟨fun y hy => by simp at hy, x0, x1, x2, y1, hb2, by omega⟩
  have HI := Hid.mk h0
  have HY := Hid.mk y2
  clear x0 x1 x2 y1 y2 h0 h2 hb12 hb1' HX e1
  gi_wp2
  refine wpIn_rangeFunc_ownG (F := Fence.wide) rfl (by decide) (gf := 51) (lb := #[.pointer (some ⟨w1.heap.size + 1, 0, none⟩)]) rfl trivial (enters_of Try.func51 (by kernel_rfl) rfl)
    (encs := fun x : Int => #[.int .i64 x]) (Kp := KC (w1.heap.size + 2) w1.heap.size) (S := fun ys => ys = trkF 0 bs) (Sp := fun pre => pre <+: trkF 0 bs) (N := (trkF 0 bs).length) (w0 := w2')
    ?seq (fun h k => h.trans k) (fun W l o o' _ hl ho _ => KC.put W l o o' hl ho) (Below.refl _ _) (fun _ => rfl)
    (NInv w w1.heap.size f) (NStop w f) (by rw [hs2]; exact ninv_own (by omega)) (fun _ => by rw [hs2]; exact nstop_own (by omega)) HI.out
    (fun x => { tmps := #[.int .i64 n, .slice (some ad) L C, .int .i64 f, undef, undef, .pointer (some ⟨w.heap.size, 0, none⟩), .pointer (some ⟨w.heap.size + 1, 0, none⟩), .pointer (some ⟨w.heap.size + 1 + 1, 0, none⟩), .bool b, .int .i64 0, .pointer (some ⟨w1.heap.size, 0, none⟩), .int .i64 x,
        .tuple #[.bool b, .int .i64 0], .int .i64 n, .slice (some ad) L C, .int .i64 f, .tuple #[.bool b, .int .i64 0], .bool b, .int .i64 0, .int .i64 0, .bool false, undef, .slice (some ad) L C, .func (.func 51) #[] #[.pointer (some ⟨w1.heap.size + 1, 0, none⟩)], .int .i64 x, undef, undef, undef, undef, undef, undef, undef, undef], defers := [] }) ?assign ?body ?done ?stop
  case seq =>
    intro l' J Jx W hW hJ hJx hY h0
    have hb : Below w.heap.size w W := hb2.trans (hW.mono (by omega))
    exact tracks_in Fence.wide 6 trivial trivial rfl (by decide) l' (w1.heap.size + 1) 0 (w1.heap.size + 2) w1.heap.size (by omega) (by omega) ad (by omega) (by omega) L C bs hL hL2 HBY.out J Jx hY W
      (cell_of_box_a (below_bx hW (by omega) HY.out)).1 (fun j v hv => (hb.cell (by rw [add_block]; exact ha)).trans (HC.out j v hv)) h0
  case assign =>
    intro l' x W K hK
    gi_wp2
    exact hK
  case body =>
    rintro l' pre x W ⟨i0, x0, x1, x2, y1, hb, hs⟩ hlt
    obtain ⟨c0, f0⟩ := cell_of_box_a x0
    obtain ⟨c1, f1⟩ := cell_of_box_a x1
    obtain ⟨c2, f2⟩ := cell_of_box_a x2
    obtain ⟨c3, f3⟩ := cell_of_box_a y1
    have HZ := Hid.mk (And.intro i0 (And.intro x0 (And.intro x1 (And.intro x2 (And.intro y1 hb)))))
    clear i0 x0 x1 x2 y1 hb hlt
    by_cases hx : f ≤ x
    · have hx' : (x : Int) ≥ f := hx
      gi_wp2
      obtain ⟨i0, x0, x1, x2, y1, hb⟩ := HZ.out
      refine ⟨(keeps_set _ (by omega)).trans (keeps_set _ (by omega)), rfl, pre, x, rfl, hx, i0, bx_other _ (by omega) (bx_set _ x1), bx_set _ (bx_other _ (by omega) x2), ?_, ?_⟩
      · exact below_set _ (below_set _ hb (by omega) (by omega)) (Nat.le_trans (by omega) (set_size W _ _)) (by omega)
      · exact Nat.le_trans (Nat.le_trans (by omega) (set_size W _ _)) (set_size _ _ _)
    · gi_wp2
      · rename_i hq
        obtain ⟨i0, x0, x1, x2, y1, hb⟩ := HZ.out
        refine ⟨keeps_set _ (by omega), kc_set _, ?_, bx_other _ (by omega) x0, bx_other _ (by omega) x1, bx_other _ (by omega) x2, ?_, below_set _ hb (by omega) (by omega), Nat.le_trans hs (set_size W _ _)⟩
        · intro y hy
          rcases List.mem_append.1 hy with hy | hy
          · exact i0 y hy
          · simp at hy; omega
        · rw [firstF_snoc, if_pos (by simpa using hq)]; exact bx_set _ y1
      · rename_i hq
        obtain ⟨i0, x0, x1, x2, y1, hb⟩ := HZ.out
        refine ⟨KeepsFrom.refl _ _, KC.refl _, ?_, x0, x1, x2, ?_, hb, hs⟩
        · intro y hy
          rcases List.mem_append.1 hy with hy | hy
          · exact i0 y hy
          · simp at hy; omega
        · rw [firstF_snoc, if_neg (by simpa using hq)]; exact y1
  case done =>
    rintro D ys W hD rfl ⟨i0, x0, x1, x2, y1, hb, hs⟩ hK
    obtain ⟨c0, f0⟩ := cell_of_box_a x0
    obtain ⟨c1, f1⟩ := cell_of_box_a x1
    obtain ⟨c2, f2⟩ := cell_of_box_a x2
    obtain ⟨c3, f3⟩ := cell_of_box_a y1
    have HZ := Hid.mk (And.intro i0 (And.intro x0 (And.intro x1 (And.intro x2 (And.intro y1 hb)))))
    have HK := Hid.mk hK
    clear i0 x0 x1 x2 y1 hb hK
    gi_wp2
    obtain ⟨i0, x0, x1, x2, y1, hb⟩ := HZ.out
    rw [nextI_none i0]
    have hne : D ≠ w.heap.size + 1 ∧ D ≠ w.heap.size + 2 := by omega
    refine next_end rfl rfl (bx_other _ (by omega) (bx_set _ x1)) (bx_set _ (bx_other _ (by omega) x2)) rfl (below_set _ (below_set _ hb (by omega) (by omega)) (Nat.le_trans (by omega) (set_size W _ _)) (by omega)) (Nat.le_trans (Nat.le_trans (by omega) (set_size W _ _)) (set_size _ _ _)) (by omega) ?_
    exact (Below.heap_setCell _ _ _ D (by show D ≠ w.heap.size + 1 + 1; omega)).trans ((Below.heap_setCell _ _ _ D hne.1).trans HK.out)
  case stop =>
    rintro D c pre W hD hpre ⟨rfl, p, x, rfl, e2, e3, x1, x2, hb, hs⟩ hK
    gi_wp2
    rw [nextI_stop hpre e2 e3]
    exact next_end rfl rfl x1 x2 rfl hb (by omega) (by omega) hK
end Go.Proofs.Ytifgifhbefhkmaa.BW
