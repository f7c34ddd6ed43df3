-- written by wip/myprint.py out of the translation
import Derived.Test.YtnphfekbnbnilaaPNtx0
namespace Go.Proofs.Ytnphfekbnbnilaa.PNt
open Go.RowKit Go.Proofs.YtnphfekbnbnilaaW.PrintWords Go.Proofs.YtnphfekbnbnilaaW.PrintLast Go.Proofs.YtnphfekbnbnilaaW.PrintMore
attribute [local go_sem] max2_int min2_int max_two min_two max_three min_three max_four min_four   -- for this text's walks alone
set_option linter.unusedVariables false
set_option linter.unusedSimpArgs false

/-! ### slices_Clone_byte_byte: function 51 -/
def slices_Clone_byte_byte.f (l0 : List Int) : Option (List Int) := if l0.length < 140737488355328 then some l0 else none
set_option maxHeartbeats 8000000 in
set_option maxRecDepth 100000 in
theorem slices_Clone_byte_byte.calls (A0 : Option Addr) (c0 : Nat) (l0 : List Int) (r : List Int) (w : World) (hr0 : Kd.C (Kd.int .u8) w A0 l0.length l0) (hc0 : l0.length ≤ c0) (h : slices_Clone_byte_byte.f l0 = some r) :
    Calls Try.prog 51 #[.slice A0 l0.length c0] w fun e w' => ∃ v0_ : Value, e = .returned (v0_) ∧ Kd.R (Kd.int .u8) 5 w' w.heap.size (fun _ => True) v0_ r ∧ Below w.heap.size w w' := by
  have HR0 := Aside0.mk hr0
  have HC0 := Aside0.mk hc0
  have HB := Aside0.mk (Below.refl w.heap.size w)
  unfold slices_Clone_byte_byte.f at h
  by_cases hl : l0.length < 140737488355328
  · rw [if_pos hl] at h
    have LM := Aside0.mk hl
    obtain rfl := Option.some.inj h
    clear h hl
    cases A0 with
    | none =>
      have h0 : l0 = [] := by
        obtain ⟨hn, _, hA⟩ := hr0
        cases hz : l0 with
        | nil => rfl
        | cons x t => rw [hz] at hA; exact absurd (hA (by simp)) (by simp)
      subst h0
      clear hr0 hc0
      have hq := fun (W : World) => Go.Lib.run_eql_slice_nil (P := Try.prog) W 35 5 none ([] : List Int).length c0 0 0 Try.underlying35
      simp only [List.length_nil] at hq
      go_enter Try.func51, Try.ntmps51
      go_wp2
      go_ret
      exact ⟨_, rfl, Kd.R_nil _ _ _ _ _, HB.out⟩
    | some ad =>
      clear hr0 hc0
      have hq := fun (W : World) => Go.Lib.run_eql_slice_nil (P := Try.prog) W 35 5 (some ad) l0.length c0 0 0 Try.underlying35
      go_enter Try.func51, Try.ntmps51
      go_wp2_with (first | ((with_reducible refine gate_dst (N := 5) rfl ?_); refine Kd.R_lit (Kd.int .u8) _ 5 ?hg (N := 5) ?hd (xs := ([] : List Int)) (inner := []) (ok := fun _ => True) (okp := fun _ => True) ?hr ?hp (fun _ hk => hk) trivial (Below.refl _ _) (Nat.le_refl _) (by simp) ?_; (case hd => rfl); (case hg => rfl); (case hr => first | (go_simp; done) | (go_simp; rfl)); (case hp => exact (Reps.none _ _)); intro v104 w6 ho7 hb hg_ hnew_; clear hg_ hnew_; have HO105 := Aside0.mk (Kd.R_lower ho7 (below_size HB.out)); have n2_ := Aside0.mk (below_step HB.out hb); clear HB; have HB := n2_; clear n2_; clear hb ho7) | ((with_reducible refine gate_builtin (b := .append) (xs := #[.tmp 5, .tmp 6]) rfl ?_); at_builtin; refine Kd.R_append_rows (Kd.int .u8) (w0 := w) w.heap.size rfl (.tmp 5) (.tmp 6) 35 5 (.int .u8 0) 1 rfl Try.underlying35 info5 rfl (by decide) (by omega) v104 [] l0 _ _ _ (fun _ => True) (fun _ => False) rfl rfl ?aO ?aR (fun _ _ h => h) (fun _ h => h.elim) ?aF ?aB ?aS ?aL ?_; (case aR => exact (Kd.C_below HR0.out HB.out)); (case aB => exact HB.out); (case aF => exact (fun _ _ => trivial)); (case aO => exact HO105.out); (case aS => exact (below_size HB.out)); (case aL => have := LM.out; simp; omega); intro v108 w8 ho hb hg hat; have HO := Aside0.mk ho; have HB2 := Aside0.mk hb; clear ho hb hg hat))
      go_ret
      exact ⟨_, rfl, HO.out, HB2.out⟩
  · rw [if_neg hl] at h
    exact absurd h (by simp)



/-! ### net_Twin: function 38 -/
def net_Twin.l0 : Nat → List (List Int) → List (List Int) → Int → Int → Option ((List (List Int)))
  | 0, _, _, _, _ => none
  | k + 1, x2, x5, x6, x7 => if x7 < x6 then (if 0 ≤ x7 then (if x7 < (x5.length : Int) then ((slices_Clone_byte_byte.f (rd_L1 x5 x7)).bind fun t102 => (if x2.length < 5864062014805 then (net_Twin.l0 k (x2 ++ [t102]) x5 x6 (wrap64 (x7 + 1))) else (none))) else (none)) else (none)) else (some x2)
def net_Twin.f (k : Nat) (l0 : List (List Int)) : Option ((List (List Int))) := net_Twin.l0 k ([] : List (List Int)) l0 (l0.length : Int) 0
theorem net_Twin.mono_l : ∀ k, (∀ y0 y1 y2 y3, LeO (net_Twin.l0 k y0 y1 y2 y3) (net_Twin.l0 (k + 1) y0 y1 y2 y3))
  | 0 => fun _ _ _ _ r h => by simp [net_Twin.l0] at h
  | k + 1 => by
    have ih0 := net_Twin.mono_l k
    · intro y0 y1 y2 y3
      unfold net_Twin.l0
      repeat' first
      | (with_reducible exact ih0 _ _ _ _)
      | (with_reducible exact LeO.refl _)
      | (with_reducible exact LeO.none _)
      | (with_reducible refine LeO.ite ?_ ?_)
      | (with_reducible refine LeO.bind ?_ (fun _ => ?_))
      | exact ih0 _ _ _ _
      | exact LeO.none _
      | refine LeO.ite ?_ ?_
      | refine LeO.bind ?_ (fun _ => ?_)
theorem net_Twin.mono : ∀ a0 k, LeO (net_Twin.f k a0) (net_Twin.f (k + 1) a0) := by
  intro a0 k
  have ih0 := net_Twin.mono_l k
  unfold net_Twin.f
  repeat' first
      | (with_reducible exact ih0 _ _ _ _)
      | (with_reducible exact LeO.refl _)
      | (with_reducible exact LeO.none _)
      | (with_reducible refine LeO.ite ?_ ?_)
      | (with_reducible refine LeO.bind ?_ (fun _ => ?_))
      | exact ih0 _ _ _ _
      | exact LeO.none _
      | refine LeO.ite ?_ ?_
      | refine LeO.bind ?_ (fun _ => ?_)
set_option maxHeartbeats 8000000 in
set_option maxRecDepth 100000 in
theorem net_Twin.calls (k : Nat) (A0 : Option Addr) (c0 : Nat) (l0 : List (List Int)) (r : List (List Int)) (w : World) (hr0 : Kd.C (Kd.slice 5 (Kd.int .u8)) w A0 l0.length l0) (hc0 : l0.length ≤ c0) (h : net_Twin.f k l0 = some r) :
    Calls Try.prog 38 #[.slice A0 l0.length c0] w fun e w' => ∃ v0_ : Value, e = .returned (v0_) ∧ Kd.S (Kd.slice 5 (Kd.int .u8)) 35 w' w.heap.size (fun _ => True) v0_ r ∧ Below w.heap.size w w' := by
  have HR0 := Aside0.mk hr0
  have HC0 := Aside0.mk hc0
  clear hr0 hc0
  have HB := Aside0.mk (Below.refl w.heap.size w)
  have H : (net_Twin.l0 k ([] : List (List Int)) l0 (l0.length : Int) 0) = some r := h
  clear h
  have H' := Aside0.mk H
  clear H
  go_enter Try.func38, Try.ntmps38
  go_wp2
  go_loopg [2, 7] k (fun kq v2 v7 w' => ∃ (x2_1 : List (List Int)) (x7_1 : Int), v7 = .int .i64 x7_1 ∧ Aside0 (net_Twin.l0 kq x2_1 l0 (l0.length : Int) x7_1 = some r) ∧ Aside0 (kq ≤ k) ∧ Aside0 (Kd.S (Kd.slice 5 (Kd.int .u8)) 35 w' w.heap.size (fun _ => True) v2 x2_1) ∧ Aside0 (Below w.heap.size w w'))
  case atStart => exact ⟨(([] : List (List Int))), (0), (by first | rfl | (simp; done) | (simp [*]; done)), H', ⟨Nat.le_refl _⟩, ⟨by first | exact Kd.S_nil _ _ _ _ _ | exact Kd.N_nil _ _ _ _ _ | exact Kd.V_nil _ _ _ _ _ | exact Kd.Q_nil _ _ _ _ _ | exact Kd.R_nil _ _ _ _ _⟩, ⟨by repeat (first | (with_reducible first | exact HB.out | apply below_alloc | apply pw_below_drewN | apply below_drew1) | exact HB.out)⟩⟩
  case round =>
    clear H'
    obtain ⟨x2_1, x7_1, rfl, HA, HK1, HO_2, HB⟩ := hrel
    cases gk with
    | zero => exact absurd HA.out (by simp [net_Twin.l0])
    | succ k1 =>
      have H := HA.out
      clear HA
      simp only [net_Twin.l0] at H
      by_cases c2 : x7_1 < (l0.length : Int)
      · rw [if_pos c2] at H
        have c2b0 : decide (x7_1 < (l0.length : Int)) = true := decide_eq_true c2
        clear c2
        by_cases c3 : 0 ≤ x7_1
        · rw [if_pos c3] at H
          have c3b0 : decide (0 ≤ x7_1) = true := decide_eq_true c3
          clear c3
          by_cases c4 : x7_1 < (l0.length : Int)
          · rw [if_pos c4] at H
            have c4b0 : decide (x7_1 < (l0.length : Int)) = true := decide_eq_true c4
            clear c4
            replace H := Option.bind_eq_some_iff.mp H
            obtain ⟨t102, A50, H⟩ := H
            replace H : (if x2_1.length < 5864062014805 then (net_Twin.l0 k1 (x2_1 ++ [t102]) l0 (l0.length : Int) (wrap64 (x7_1 + 1))) else (none)) = some r := H
            have A5 := Aside0.mk A50
            clear A50
            by_cases c6 : x2_1.length < 5864062014805
            · rw [if_pos c6] at H
              have LMc6 := Aside0.mk c6
              clear c6
              obtain ⟨y105, hy105⟩ : ∃ y_ : List (List Int), y_ = (x2_1 ++ [t102]) := ⟨_, rfl⟩
              replace H : (net_Twin.l0 k1 y105 l0 (l0.length : Int) (wrap64 (x7_1 + 1))) = some r := by first | (rw [hy105]; with_reducible exact H) | (have H2_ := (Option.bind_some _ _).symm.trans H; rw [hy105]; with_reducible exact H2_) | (have H2_ := (Option.bind_some _ _).symm.trans H; with_reducible exact H2_) | with_reducible exact H | (rw [hy105]; exact H) | exact H
              have Ny105 := Aside0.mk hy105
              clear hy105
              have H' := Aside0.mk H
              clear H
              have p101 : 0 ≤ (x7_1 : Int) := of_decide_eq_true (by first | (with_reducible assumption) | assumption)
              have q101 : x7_1 < (l0.length : Int) := of_decide_eq_true (by first | (with_reducible assumption) | assumption)
              obtain ⟨ad101, A101_0, c101_0, e101, hx101_0, hl101_0, hi101_0⟩ := at_L1 HR0.out x7_1 p101 q101
              cases e101
              replace hx101_0 := (HB.out.cell (World.block_lt_of_cell? w _ hx101_0)).trans hx101_0
              have HR101_0 := Aside0.mk hi101_0
              have HC101_0 := Aside0.mk hl101_0
              clear hi101_0 hl101_0
              replace p101 := eq_true p101
              replace q101 := eq_true q101
              go_wp2_with (first | ((with_reducible refine gate_callee (f := 51) rfl ?_); refine goesL_ (some 13) rfl rfl Try.func51 (by kernel_rfl) rfl #[.slice A101_0 (rd_L1 l0 x7_1).length c101_0] rfl (by (try simp only [List.map_toArray, List.map_cons, List.map_nil]); first | done | rfl | (simp only [List.length_drop, List.length_take]; rfl)) ?_; (with_reducible refine (slices_Clone_byte_byte.calls _ _ (rd_L1 l0 x7_1) t102 _ ?side1 ?side2 A5.out).mono ?_); (case side1 => repeat (first | exact (Kd.C_below HR101_0.out HB.out) | (with_reducible refine Kd.C_alloc ?_ _) | (with_reducible refine Kd.C_drewN ?_ _) | (with_reducible refine Kd.C_drew ?_))); (case side2 => exact HC101_0.out); rintro e w7 ⟨v103, rfl, ho0, hb⟩; refine ⟨_, rfl, ?_⟩; have n0_ := Aside0.mk (Kd.S_elder' (by (with_reducible repeat (first | apply Kd.S_alloc | apply Kd.S_drewN | apply Kd.S_drew)); exact HO_2.out) (Kd.R_base ho0) hb); have n1_ := Aside0.mk (Kd.R_lower ho0 (below_size (by repeat (first | (with_reducible first | exact HB.out | apply below_alloc | apply pw_below_drewN | apply below_drew1) | exact HB.out)))); have n2_ := Aside0.mk (below_step (by repeat (first | (with_reducible first | exact HB.out | apply below_alloc | apply pw_below_drewN | apply below_drew1) | exact HB.out)) hb); clear HO_2; clear HB; have HO_2 := n0_; have HO104 := n1_; have HB := n2_; clear n0_ n1_ n2_; (try clear hb); (try clear hb2); (try clear hk); (try clear hi); (try clear ho0); obtain ⟨Ao9, co9, eo9⟩ := Kd.R_slice HO104.out; subst eo9) | ((with_reducible refine gate_builtin (b := .append) (xs := #[.tmp 11, .tmp 14]) rfl ?_); at_builtin; refine Kd.S_append (Kd.slice 5 (Kd.int .u8)) (w0 := w) w.heap.size rfl (.tmp 11) (.tmp 14) 22 35 (.slice none 0 0) 24 rfl Try.underlying22 info35 rfl (by decide) (by omega) u2 x2_1 t102 [.slice Ao9 t102.length co9] (fun _ => True) (fun k_ => some k_ = (.slice Ao9 t102.length co9 : Value).ownBlock) rfl rfl ?aP (fun k_ hk_ => ((Kd.R_mono (ok' := fun k_ => ((fun _ => True)) k_ ∧ some k_ ≠ (u2 : Value).ownBlock) (Kd.R_apart' (HO104.out) (Kd.S_typed HO_2.out) (by decide)) (fun k_ hk => ⟨trivial, hk.2⟩))).1 k_ hk_.symm) ?aF ?aO ?aB ?aS ?aL ?_; (case aP => exact Kd.M_row (Kd.R_mono (Kd.R_tight rfl (Kd.R_mono (ok' := fun k_ => ((fun _ => True)) k_ ∧ some k_ ≠ (u2 : Value).ownBlock) (Kd.R_apart' (HO104.out) (Kd.S_typed HO_2.out) (by decide)) (fun k_ hk => ⟨trivial, hk.2⟩))) (fun _ h_ => h_))); (case aB => exact (by repeat (first | (with_reducible first | exact HB.out | apply below_alloc | apply pw_below_drewN | apply below_drew1) | exact HB.out))); (case aF => exact (fun _ _ => trivial)); (case aO => exact (by (with_reducible repeat (first | apply Kd.S_alloc | apply Kd.S_drewN | apply Kd.S_drew)); exact Kd.S_mono HO_2.out (fun k_ hk => ⟨trivial, fun e_ => hk.2 e_⟩))); (case aS => exact (below_size (by repeat (first | (with_reducible first | exact HB.out | apply below_alloc | apply pw_below_drewN | apply below_drew1) | exact HB.out)))); (case aL => have := LMc6.out; omega); intro v106 w8 ho hb hg hat; rw [← Ny105.out] at ho; have n0_ := Aside0.mk (hb); have n1_ := Aside0.mk (ho); clear HB; clear HO_2; clear HO104; have HB := n0_; have HO107 := n1_; clear n0_ n1_; clear ho hb hg hat))
              go_roundg k1
              case measure => have := HK1.out; omega
              case rel => exact ⟨(y105), (wrap64 (x7_1 + 1)), (by first | rfl | (simp; done) | (simp [*]; done)), H', ⟨by have := HK1.out; omega⟩, ⟨by (with_reducible repeat (first | apply Kd.S_alloc | apply Kd.S_drewN | apply Kd.S_drew)); exact HO107.out⟩, ⟨by repeat (first | (with_reducible first | exact HB.out | apply below_alloc | apply pw_below_drewN | apply below_drew1) | exact HB.out)⟩⟩
            · rw [if_neg c6] at H
              exact absurd H (by simp)
          · rw [if_neg c4] at H
            exact absurd H (by simp)
        · rw [if_neg c3] at H
          exact absurd H (by simp)
      · rw [if_neg c2] at H
        have c2b0 : decide (x7_1 < (l0.length : Int)) = false := decide_eq_false c2
        clear c2
        obtain rfl := Option.some.inj H
        go_wp2
        go_ret
        exact ⟨_, by first | rfl | (simp [errW_none, errW_some] <;> rfl) | (simp [*, errW_none, errW_some] <;> rfl), by (with_reducible repeat (first | apply Kd.S_alloc | apply Kd.S_drewN | apply Kd.S_drew)); exact HO_2.out, by repeat (first | (with_reducible first | exact HB.out | apply below_alloc | apply pw_below_drewN | apply below_drew1) | exact HB.out)⟩

/-! ### net_Check: function 40 -/
def net_Check.f (l0 : List (List Int)) : Option (Int) := if (l0.length : Int) > 64 then (some 8) else (some 0)
set_option maxHeartbeats 8000000 in
set_option maxRecDepth 100000 in
theorem net_Check.calls (A0 : Option Addr) (c0 : Nat) (l0 : List (List Int)) (r : Int) (w : World) (hr0 : Kd.C (Kd.slice 5 (Kd.int .u8)) w A0 l0.length l0) (hc0 : l0.length ≤ c0) (h : net_Check.f l0 = some r) :
    Calls Try.prog 40 #[.slice A0 l0.length c0] w fun e w' => e = .returned (.int .i64 r) ∧ Drawn0 w w' := by
  have HR0 := Aside0.mk hr0
  have HC0 := Aside0.mk hc0
  clear hr0 hc0
  have H : (if (l0.length : Int) > 64 then (some 8) else (some 0)) = some r := h
  clear h
  by_cases c2 : (l0.length : Int) > 64
  · rw [if_pos c2] at H
    have c2b0 : decide (64 < (l0.length : Int)) = true := decide_eq_true c2
    have c2b1 : decide (64 < l0.length) = true := decide_eq_true (by omega)
    clear c2
    obtain rfl := Option.some.inj H
    go_enter Try.func40, Try.ntmps40
    go_wp2
    go_ret
    exact ⟨by first | rfl | (simp; done) | (simp [*]; done), by repeat (first | exact Drawn0.refl _ | apply Drawn0.step)⟩
  · rw [if_neg c2] at H
    have c2b0 : decide (64 < (l0.length : Int)) = false := decide_eq_false c2
    have c2b1 : decide (64 < l0.length) = false := decide_eq_false (by omega)
    clear c2
    obtain rfl := Option.some.inj H
    go_enter Try.func40, Try.ntmps40
    go_wp2
    go_ret
    exact ⟨by first | rfl | (simp; done) | (simp [*]; done), by repeat (first | exact Drawn0.refl _ | apply Drawn0.step)⟩

/-! ### net_Send: function 28 -/
def net_Send.f (k : Nat) (l0 : List (List Int)) (b : List Int) : Option (List (List Int) × Int) := (net_Check.f l0).bind fun e => if e = 0 then ((net_Twin.f k l0).bind fun t => (slices_Clone_byte_byte.f b).bind fun c => if t.length ≤ 1000 then some (if (t.length : Int) < 64 then t ++ [c] else t, 0) else none) else some ([], e)
theorem net_Send.mono : ∀ a0 a1 k, LeO (net_Send.f k a0 a1) (net_Send.f (k + 1) a0 a1) := by
  intro a0 a1 k
  unfold net_Send.f
  refine LeO.bind (LeO.refl _) (fun e => LeO.ite (LeO.bind (net_Twin.mono a0 k) (fun _ => LeO.refl _)) (LeO.refl _))
set_option maxHeartbeats 8000000 in
set_option maxRecDepth 100000 in
theorem net_Send.calls (k : Nat) (A0 : Option Addr) (c0 : Nat) (l0 : List (List Int)) (A1 : Option Addr) (c1 : Nat) (l1 : List Int) (r1 : List (List Int)) (r2 : Int) (w : World) (hr0 : Kd.C (Kd.slice 5 (Kd.int .u8)) w A0 l0.length l0) (hc0 : l0.length ≤ c0) (hr1 : Kd.C (Kd.int .u8) w A1 l1.length l1) (hc1 : l1.length ≤ c1) (h : net_Send.f k l0 l1 = some (r1, r2)) :
    Calls Try.prog 28 #[.slice A0 l0.length c0, .slice A1 l1.length c1] w fun e w' => ∃ v0_ : Value, e = .returned (.tuple #[v0_, .int .i64 r2]) ∧ Kd.S (Kd.slice 5 (Kd.int .u8)) 35 w' w.heap.size (fun _ => True) v0_ r1 ∧ Below w.heap.size w w' := by
  unfold net_Send.f at h
  obtain ⟨e, he, h⟩ := Option.bind_eq_some_iff.mp h
  have hbs : Below w.heap.size w w := Below.refl _ _
  by_cases h0 : e = 0
  · rw [if_pos h0] at h
    subst h0
    obtain ⟨t, ht, h⟩ := Option.bind_eq_some_iff.mp h
    obtain ⟨cl, hcl, h⟩ := Option.bind_eq_some_iff.mp h
    by_cases hl : t.length ≤ 1000
    · rw [if_pos hl] at h
      have hw := Option.some.inj h
      simp only [Prod.mk.injEq] at hw
      obtain ⟨hrr, rfl⟩ := hw
      clear h
      go_enter Try.func28, Try.ntmps28
      go_wp2_with (first
        | (go_at_call 40; (with_reducible refine (net_Check.calls A0 c0 l0 0 _ hr0 hc0 he).mono ?_); rintro e wa ⟨rfl, ⟨nd, rfl⟩⟩)
        | (go_at_call 38; (with_reducible refine (net_Twin.calls k A0 c0 l0 t _ (Kd.C_drewN hr0 nd) hc0 ht).mono ?_); rintro e wb ⟨vt, rfl, hoT, hbT⟩; obtain ⟨At, ct, rfl⟩ := Kd.S_slice hoT; have hbW : Below w.heap.size w (wb.alloc (.cells #[.slice At t.length ct] 79)) := below_alloc (below_step (pw_below_drewN (Below.refl w.heap.size w) nd) hbT) _; have hC1 := Kd.C_below hr1 hbW; have hS := Kd.S_alloc (Kd.S_mono (Kd.S_bound hoT) (ok' := fun k => k ≠ wb.heap.size) (fun k hk => Nat.ne_of_lt hk.2.2.1)) (.cells #[.slice At t.length ct] 79); have hBx : Boxed (wb.alloc (.cells #[.slice At t.length ct] 79)) wb.heap.size 79 (.slice At t.length ct) := heap_alloc_new wb _; have hle : w.heap.size ≤ wb.heap.size := hbT.size; clear hoT hbT)
        | (go_at_call 51; (with_reducible refine (slices_Clone_byte_byte.calls A1 c1 l1 cl _ hC1 hc1 hcl).mono ?_); rintro e wc ⟨vc, rfl, hoC, hbC⟩)
        | (go_at_call 50; (refine (NetWalk.put_calls (base := w.heap.size) hS hBx hbW.size (Below.refl _ _) hbC hoC hl).mono ?_); rintro e wd ⟨rfl, vd, hBd, hSd, hbd⟩; have hcd := (blk_cell hBd 0).trans rfl; clear hC1 hbC hoC hBd hBx; rw [hrr] at hSd; obtain ⟨Ad, cd, rfl⟩ := Kd.S_slice hSd))
      go_ret2
      exact ⟨_, rfl, Kd.S_mono hSd (fun _ _ => trivial), below_weaken hbW (Nat.le_refl _) (hbd w.heap.size (Nat.le_refl _) hle)⟩
    · rw [if_neg hl] at h; cases h
  · rw [if_neg h0] at h
    have hw := Option.some.inj h
    simp only [Prod.mk.injEq] at hw
    obtain ⟨rfl, rfl⟩ := hw
    have he0 : (e != 0) = true := bne_iff_ne.mpr h0
    go_enter Try.func28, Try.ntmps28
    go_wp2_with (first
      | (go_at_call 40; (with_reducible refine (net_Check.calls A0 c0 l0 e _ hr0 hc0 he).mono ?_); rintro e wa ⟨rfl, ⟨nd, rfl⟩⟩))
    go_ret2
    exact ⟨_, rfl, Kd.S_nil _ _ _ _ _, pw_below_drewN (Below.refl _ _) nd⟩


/-! ### net_texts_at: function 52 -/
def net_texts_at.f (l0 : List (List Int)) (a1 : Int) : Option (List Int × Bool) := if a1 < 0 then (some (([] : List Int), false)) else (if a1 ≥ (l0.length : Int) then (some (([] : List Int), false)) else (if 0 ≤ a1 then (if a1 < (l0.length : Int) then ((slices_Clone_byte_byte.f (rd_L1 l0 a1)).bind fun t109 => (some (t109, true))) else (none)) else (none)))
set_option maxHeartbeats 8000000 in
set_option maxRecDepth 100000 in
theorem net_texts_at.calls (A0 : Option Addr) (c0 : Nat) (l0 : List (List Int)) (a1 : Int) (r1 : List Int) (r2 : Bool) (w : World) (hr0 : Kd.C (Kd.slice 5 (Kd.int .u8)) w A0 l0.length l0) (hc0 : l0.length ≤ c0) (h : net_texts_at.f l0 a1 = some (r1, r2)) :
    Calls Try.prog 52 #[.slice A0 l0.length c0, .int .i64 a1] w fun e w' => ∃ v0_ : Value, e = .returned (.tuple #[v0_, .bool r2]) ∧ Kd.R (Kd.int .u8) 5 w' w.heap.size (fun _ => True) v0_ r1 ∧ Below w.heap.size w w' := by
  have HR0 := Aside0.mk hr0
  have HC0 := Aside0.mk hc0
  clear hr0 hc0
  have HB := Aside0.mk (Below.refl w.heap.size w)
  have H : (if a1 < 0 then (some (([] : List Int), false)) else (if a1 ≥ (l0.length : Int) then (some (([] : List Int), false)) else (if 0 ≤ a1 then (if a1 < (l0.length : Int) then ((slices_Clone_byte_byte.f (rd_L1 l0 a1)).bind fun t109 => (some (t109, true))) else (none)) else (none)))) = some (r1, r2) := h
  clear h
  by_cases c3 : a1 < 0
  · rw [if_pos c3] at H
    have c3b0 : decide (a1 < 0) = true := decide_eq_true c3
    clear c3
    simp only [Option.some.injEq, Prod.mk.injEq] at H
    obtain ⟨rfl, rfl⟩ := H
    go_enter Try.func52, Try.ntmps52
    go_wp2
    go_ret2
    exact ⟨_, by first | rfl | (simp [errW_none, errW_some] <;> rfl) | (simp [*, errW_none, errW_some] <;> rfl), by first | exact Kd.R_nil _ _ _ _ _ | exact Kd.N_nil _ _ _ _ _ | exact Kd.V_nil _ _ _ _ _ | exact Kd.Q_nil _ _ _ _ _ | exact Kd.S_nil _ _ _ _ _, by repeat (first | (with_reducible first | exact HB.out | apply below_alloc | apply pw_below_drewN | apply below_drew1) | exact HB.out)⟩
  · rw [if_neg c3] at H
    have c3b0 : decide (a1 < 0) = false := decide_eq_false c3
    clear c3
    by_cases c4 : a1 ≥ (l0.length : Int)
    · rw [if_pos c4] at H
      have c4b0 : decide ((l0.length : Int) ≤ a1) = true := decide_eq_true c4
      clear c4
      simp only [Option.some.injEq, Prod.mk.injEq] at H
      obtain ⟨rfl, rfl⟩ := H
      go_enter Try.func52, Try.ntmps52
      go_wp2
      go_ret2
      exact ⟨_, by first | rfl | (simp [errW_none, errW_some] <;> rfl) | (simp [*, errW_none, errW_some] <;> rfl), by first | exact Kd.R_nil _ _ _ _ _ | exact Kd.N_nil _ _ _ _ _ | exact Kd.V_nil _ _ _ _ _ | exact Kd.Q_nil _ _ _ _ _ | exact Kd.S_nil _ _ _ _ _, by repeat (first | (with_reducible first | exact HB.out | apply below_alloc | apply pw_below_drewN | apply below_drew1) | exact HB.out)⟩
    · rw [if_neg c4] at H
      have c4b0 : decide ((l0.length : Int) ≤ a1) = false := decide_eq_false c4
      clear c4
      by_cases c5 : 0 ≤ a1
      · rw [if_pos c5] at H
        have c5b0 : decide (0 ≤ a1) = true := decide_eq_true c5
        clear c5
        by_cases c6 : a1 < (l0.length : Int)
        · rw [if_pos c6] at H
          have c6b0 : decide (a1 < (l0.length : Int)) = true := decide_eq_true c6
          clear c6
          replace H := Option.bind_eq_some_iff.mp H
          obtain ⟨t109, A70, H⟩ := H
          replace H : (some (t109, true)) = some (r1, r2) := H
          have A7 := Aside0.mk A70
          clear A70
          simp only [Option.some.injEq, Prod.mk.injEq] at H
          obtain ⟨rfl, rfl⟩ := H
          have p108 : 0 ≤ (a1 : Int) := of_decide_eq_true (by first | (with_reducible assumption) | assumption)
          have q108 : a1 < (l0.length : Int) := of_decide_eq_true (by first | (with_reducible assumption) | assumption)
          obtain ⟨ad108, A108_0, c108_0, e108, hx108_0, hl108_0, hi108_0⟩ := at_L1 HR0.out a1 p108 q108
          cases e108
          have HR108_0 := Aside0.mk hi108_0
          have HC108_0 := Aside0.mk hl108_0
          clear hi108_0 hl108_0
          replace p108 := eq_true p108
          replace q108 := eq_true q108
          go_enter Try.func52, Try.ntmps52
          go_wp2_with (first | ((with_reducible refine gate_callee (f := 51) rfl ?_); refine goesL_ (some 18) rfl rfl Try.func51 (by kernel_rfl) rfl #[.slice A108_0 (rd_L1 l0 a1).length c108_0] rfl (by (try simp only [List.map_toArray, List.map_cons, List.map_nil]); first | done | rfl | (simp only [List.length_drop, List.length_take]; rfl)) ?_; (with_reducible refine (slices_Clone_byte_byte.calls _ _ (rd_L1 l0 a1) t109 _ ?side1 ?side2 A7.out).mono ?_); (case side1 => repeat (first | exact HR108_0.out | (with_reducible refine Kd.C_alloc ?_ _) | (with_reducible refine Kd.C_drewN ?_ _) | (with_reducible refine Kd.C_drew ?_))); (case side2 => exact HC108_0.out); rintro e w8 ⟨v110, rfl, ho0, hb⟩; refine ⟨_, rfl, ?_⟩; (try (obtain ⟨Az_, cz_, ez_⟩ := (by first | exact Kd.N_slice ho0 | exact Kd.R_slice ho0 | exact Kd.V_slice ho0 | exact Kd.S_slice ho0); subst ez_)); have n0_ := Aside0.mk (Kd.R_lower ho0 (below_size (by repeat (first | (with_reducible first | exact HB.out | apply below_alloc | apply pw_below_drewN | apply below_drew1) | exact HB.out)))); have n1_ := Aside0.mk (below_step (by repeat (first | (with_reducible first | exact HB.out | apply below_alloc | apply pw_below_drewN | apply below_drew1) | exact HB.out)) hb); clear HB; have HO111 := n0_; have HB := n1_; clear n0_ n1_; (try clear hb); (try clear hb2); (try clear hk); (try clear hi); (try clear ho0)))
          go_ret2
          exact ⟨_, by first | rfl | (simp [errW_none, errW_some] <;> rfl) | (simp [*, errW_none, errW_some] <;> rfl), by (with_reducible repeat (first | apply Kd.R_alloc | apply Kd.R_drewN | apply Kd.R_drew)); exact HO111.out, by repeat (first | (with_reducible first | exact HB.out | apply below_alloc | apply pw_below_drewN | apply below_drew1) | exact HB.out)⟩
        · rw [if_neg c6] at H
          exact absurd H (by simp)
      · rw [if_neg c5] at H
        exact absurd H (by simp)

/-! ### net_Twice: function 29 -/
def net_Twice.f (k : Nat) (l0 : List (List Int)) (i : Int) : Option (List (List Int) × Int) := (net_Check.f l0).bind fun e => if e = 0 then ((net_Twin.f k l0).bind fun t => (net_texts_at.f t i).bind fun p => if p.2 = true then (if t.length ≤ 1000 then some (if (t.length : Int) < 64 then t ++ [p.1] else t, 0) else none) else some ([], 2)) else some ([], e)
theorem net_Twice.mono : ∀ a0 a1 k, LeO (net_Twice.f k a0 a1) (net_Twice.f (k + 1) a0 a1) := by
  intro a0 a1 k
  unfold net_Twice.f
  refine LeO.bind (LeO.refl _) (fun e => LeO.ite (LeO.bind (net_Twin.mono a0 k) (fun _ => LeO.refl _)) (LeO.refl _))
set_option maxHeartbeats 8000000 in
set_option maxRecDepth 100000 in
theorem net_Twice.calls (k : Nat) (A0 : Option Addr) (c0 : Nat) (l0 : List (List Int)) (a1 : Int) (r1 : List (List Int)) (r2 : Int) (w : World) (hr0 : Kd.C (Kd.slice 5 (Kd.int .u8)) w A0 l0.length l0) (hc0 : l0.length ≤ c0) (h : net_Twice.f k l0 a1 = some (r1, r2)) :
    Calls Try.prog 29 #[.slice A0 l0.length c0, .int .i64 a1] w fun e w' => ∃ v0_ : Value, e = .returned (.tuple #[v0_, .int .i64 r2]) ∧ Kd.S (Kd.slice 5 (Kd.int .u8)) 35 w' w.heap.size (fun _ => True) v0_ r1 ∧ Below w.heap.size w w' := by
  unfold net_Twice.f at h
  obtain ⟨e, he, h⟩ := Option.bind_eq_some_iff.mp h
  by_cases h0 : e = 0
  · rw [if_pos h0] at h
    subst h0
    obtain ⟨t, ht, h⟩ := Option.bind_eq_some_iff.mp h
    obtain ⟨⟨cl, is⟩, hcl, h⟩ := Option.bind_eq_some_iff.mp h
    cases is with
    | true =>
      rw [if_pos rfl] at h
      by_cases hl : t.length ≤ 1000
      · rw [if_pos hl] at h
        have hw := Option.some.inj h
        simp only [Prod.mk.injEq] at hw
        obtain ⟨hrr, rfl⟩ := hw
        clear h
        go_enter Try.func29, Try.ntmps29
        go_wp2_with (first
          | (go_at_call 40; (with_reducible refine (net_Check.calls A0 c0 l0 0 _ hr0 hc0 he).mono ?_); rintro e wa ⟨rfl, ⟨nd, rfl⟩⟩)
          | (go_at_call 38; (with_reducible refine (net_Twin.calls k A0 c0 l0 t _ (Kd.C_drewN hr0 nd) hc0 ht).mono ?_); rintro e wb ⟨vt, rfl, hoT, hbT⟩; obtain ⟨At, ct, rfl⟩ := Kd.S_slice hoT; have hbW : Below w.heap.size w (wb.alloc (.cells #[.slice At t.length ct] 79)) := below_alloc (below_step (pw_below_drewN (Below.refl w.heap.size w) nd) hbT) _; have hS := Kd.S_alloc (Kd.S_mono (Kd.S_bound hoT) (ok' := fun k => k ≠ wb.heap.size) (fun k hk => Nat.ne_of_lt hk.2.2.1)) (.cells #[.slice At t.length ct] 79); have hBx : Boxed (wb.alloc (.cells #[.slice At t.length ct] 79)) wb.heap.size 79 (.slice At t.length ct) := heap_alloc_new wb _; have hle : w.heap.size ≤ wb.heap.size := hbT.size; have hCT := Kd.R_reads' (Kd.S_R hS); clear hoT hbT)
          | (go_at_call 52; (with_reducible refine (net_texts_at.calls At ct t a1 cl true _ hCT.2.2 hCT.2.1 hcl).mono ?_); rintro e wc ⟨vc, rfl, hoC, hbC⟩)
          | (go_at_call 50; (refine (NetWalk.put_calls (base := w.heap.size) hS hBx hbW.size (Below.refl _ _) hbC hoC hl).mono ?_); rintro e wd ⟨rfl, vd, hBd, hSd, hbd⟩; have hcd := (blk_cell hBd 0).trans rfl; clear hbC hoC hBd hBx; rw [hrr] at hSd; obtain ⟨Ad, cd, rfl⟩ := Kd.S_slice hSd))
        go_ret2
        exact ⟨_, rfl, Kd.S_mono hSd (fun _ _ => trivial), below_weaken hbW (Nat.le_refl _) (hbd w.heap.size (Nat.le_refl _) hle)⟩
      · rw [if_neg hl] at h; cases h
    | false =>
      rw [if_neg (by simp)] at h
      have hw := Option.some.inj h
      simp only [Prod.mk.injEq] at hw
      obtain ⟨rfl, rfl⟩ := hw
      clear h
      go_enter Try.func29, Try.ntmps29
      go_wp2_with (first
        | (go_at_call 40; (with_reducible refine (net_Check.calls A0 c0 l0 0 _ hr0 hc0 he).mono ?_); rintro e wa ⟨rfl, ⟨nd, rfl⟩⟩)
        | (go_at_call 38; (with_reducible refine (net_Twin.calls k A0 c0 l0 t _ (Kd.C_drewN hr0 nd) hc0 ht).mono ?_); rintro e wb ⟨vt, rfl, hoT, hbT⟩; obtain ⟨At, ct, rfl⟩ := Kd.S_slice hoT; have hbW : Below w.heap.size w (wb.alloc (.cells #[.slice At t.length ct] 79)) := below_alloc (below_step (pw_below_drewN (Below.refl w.heap.size w) nd) hbT) _; have hS := Kd.S_alloc hoT (.cells #[.slice At t.length ct] 79); have hCT := Kd.R_reads' (Kd.S_R hS); clear hoT hbT)
        | (go_at_call 52; (with_reducible refine (net_texts_at.calls At ct t a1 cl false _ hCT.2.2 hCT.2.1 hcl).mono ?_); rintro e wc ⟨vc, rfl, hoC, hbC⟩))
      go_ret2
      exact ⟨_, rfl, Kd.S_nil _ _ _ _ _, below_step hbW hbC⟩
  · rw [if_neg h0] at h
    have hw := Option.some.inj h
    simp only [Prod.mk.injEq] at hw
    obtain ⟨rfl, rfl⟩ := hw
    have he0 : (e != 0) = true := bne_iff_ne.mpr h0
    go_enter Try.func29, Try.ntmps29
    go_wp2_with (first
      | (go_at_call 40; (with_reducible refine (net_Check.calls A0 c0 l0 e _ hr0 hc0 he).mono ?_); rintro e wa ⟨rfl, ⟨nd, rfl⟩⟩))
    go_ret2
    exact ⟨_, rfl, Kd.S_nil _ _ _ _ _, pw_below_drewN (Below.refl _ _) nd⟩


/-! ### net_Take: function 30 -/
def net_Take.f (k : Nat) (l0 : List (List Int)) (i : Int) : Option (List (List Int) × List Int × Int) := (net_Check.f l0).bind fun e => if e = 0 then ((net_Twin.f k l0).bind fun t => (net_texts_at.f t i).bind fun p => if p.2 = true then (if 0 ≤ i ∧ i < t.length ∧ t.length ≤ 1000 then some (t.eraseIdx i.toNat, p.1, 0) else none) else some ([], [], 2)) else some ([], [], e)
theorem net_Take.mono : ∀ a0 a1 k, LeO (net_Take.f k a0 a1) (net_Take.f (k + 1) a0 a1) := by
  intro a0 a1 k
  unfold net_Take.f
  refine LeO.bind (LeO.refl _) (fun e => LeO.ite (LeO.bind (net_Twin.mono a0 k) (fun _ => LeO.refl _)) (LeO.refl _))
set_option maxHeartbeats 8000000 in
set_option maxRecDepth 100000 in
theorem net_Take.calls (k : Nat) (A0 : Option Addr) (c0 : Nat) (l0 : List (List Int)) (a1 : Int) (r1 : List (List Int)) (r2 : List Int) (r3 : Int) (w : World) (hr0 : Kd.C (Kd.slice 5 (Kd.int .u8)) w A0 l0.length l0) (hc0 : l0.length ≤ c0) (h : net_Take.f k l0 a1 = some (r1, r2, r3)) :
    Calls Try.prog 30 #[.slice A0 l0.length c0, .int .i64 a1] w fun e w' => ∃ v0_ v1_ : Value, e = .returned (.tuple #[v0_, v1_, .int .i64 r3]) ∧ Kd.S (Kd.slice 5 (Kd.int .u8)) 35 w' w.heap.size (fun k_ => some k_ ≠ (v1_ : Value).ownBlock) v0_ r1 ∧ Kd.R (Kd.int .u8) 5 w' w.heap.size (fun _ => True) v1_ r2 ∧ Below w.heap.size w w' := by
  unfold net_Take.f at h
  obtain ⟨e, he, h⟩ := Option.bind_eq_some_iff.mp h
  by_cases h0 : e = 0
  · rw [if_pos h0] at h
    subst h0
    obtain ⟨t, ht, h⟩ := Option.bind_eq_some_iff.mp h
    obtain ⟨⟨cl, is⟩, hcl, h⟩ := Option.bind_eq_some_iff.mp h
    cases is with
    | true =>
      rw [if_pos rfl] at h
      by_cases hl : 0 ≤ a1 ∧ a1 < t.length ∧ t.length ≤ 1000
      · rw [if_pos hl] at h
        have hw := Option.some.inj h
        simp only [Prod.mk.injEq] at hw
        obtain ⟨hrr, rfl, rfl⟩ := hw
        clear h
        obtain ⟨hl1, hl2, hl3⟩ := hl
        obtain ⟨i, rfl⟩ := Int.eq_ofNat_of_zero_le hl1
        simp only [Int.toNat_natCast] at hrr
        go_enter Try.func30, Try.ntmps30
        go_wp2_with (first
          | (go_at_call 40; (with_reducible refine (net_Check.calls A0 c0 l0 0 _ hr0 hc0 he).mono ?_); rintro e wa ⟨rfl, ⟨nd, rfl⟩⟩)
          | (go_at_call 38; (with_reducible refine (net_Twin.calls k A0 c0 l0 t _ (Kd.C_drewN hr0 nd) hc0 ht).mono ?_); rintro e wb ⟨vt, rfl, hoT, hbT⟩; obtain ⟨At, ct, rfl⟩ := Kd.S_slice hoT; have hbW : Below w.heap.size w (wb.alloc (.cells #[.slice At t.length ct] 79)) := below_alloc (below_step (pw_below_drewN (Below.refl w.heap.size w) nd) hbT) _; have hS := Kd.S_alloc (Kd.S_mono (Kd.S_bound hoT) (ok' := fun k => k ≠ wb.heap.size ∧ k < wb.heap.size) (fun k hk => ⟨Nat.ne_of_lt hk.2.2.1, hk.2.2.1⟩)) (.cells #[.slice At t.length ct] 79); have hBx : Boxed (wb.alloc (.cells #[.slice At t.length ct] 79)) wb.heap.size 79 (.slice At t.length ct) := heap_alloc_new wb _; have hle : w.heap.size ≤ wb.heap.size := hbT.size; have hCT := Kd.R_reads' (Kd.S_R hS); clear hoT hbT)
          | (go_at_call 52; (with_reducible refine (net_texts_at.calls At ct t (i : Int) cl true _ hCT.2.2 hCT.2.1 hcl).mono ?_); rintro e wc ⟨vc, rfl, hoC, hbC⟩)
          | (go_at_call 53; (refine (NetWalk.drop_calls (base := w.heap.size) (Kd.S_below hS hbC) (fun k hk => hk.1) (blk_below hBx hbC) (by omega) hl3).mono ?_); rintro e wd ⟨rfl, vd, hBd, hSd, hbd, hkd⟩; have hcd := (blk_cell hBd 0).trans rfl; rw [hrr] at hSd; obtain ⟨Ad, cd, rfl⟩ := Kd.S_slice hSd))
        go_ret3
        have hsz : (wb.alloc (.cells #[.slice At t.length ct] 79)).heap.size = wb.heap.size + 1 := by simp
        have hvb : ∀ k, vc.ownBlock = some k → wb.heap.size + 1 ≤ k := fun k hk => by have := Kd.R_base hoC k hk; omega
        have hvt : ∀ k, (Value.slice At t.length ct).ownBlock = some k → k < wb.heap.size := fun k hk => by
          obtain ⟨f, h1, _⟩ := hS
          exact (h1 k hk).2
        refine ⟨_, _, rfl, Kd.S_mono hSd (fun k hk e => by have := hvb k e.symm; have := hk.2; omega), Kd.R_lower (Kd.R_mono (Kd.R_step (Kd.R_bound hoC) (fun k hk _ => hkd k (fun e => by have := hk.2.1; omega) (fun e => by have := hvt k e.symm; have := hk.2.1; omega))) (fun _ _ => trivial)) hbW.size, below_weaken (below_step hbW hbC) (Nat.le_refl _) (hbd w.heap.size (Nat.le_refl _) hle)⟩
      · rw [if_neg hl] at h; cases h
    | false =>
      rw [if_neg (by simp)] at h
      have hw := Option.some.inj h
      simp only [Prod.mk.injEq] at hw
      obtain ⟨rfl, rfl, rfl⟩ := hw
      clear h
      go_enter Try.func30, Try.ntmps30
      go_wp2_with (first
        | (go_at_call 40; (with_reducible refine (net_Check.calls A0 c0 l0 0 _ hr0 hc0 he).mono ?_); rintro e wa ⟨rfl, ⟨nd, rfl⟩⟩)
        | (go_at_call 38; (with_reducible refine (net_Twin.calls k A0 c0 l0 t _ (Kd.C_drewN hr0 nd) hc0 ht).mono ?_); rintro e wb ⟨vt, rfl, hoT, hbT⟩; obtain ⟨At, ct, rfl⟩ := Kd.S_slice hoT; have hbW : Below w.heap.size w (wb.alloc (.cells #[.slice At t.length ct] 79)) := below_alloc (below_step (pw_below_drewN (Below.refl w.heap.size w) nd) hbT) _; have hS := Kd.S_alloc hoT (.cells #[.slice At t.length ct] 79); have hCT := Kd.R_reads' (Kd.S_R hS); clear hoT hbT)
        | (go_at_call 52; (with_reducible refine (net_texts_at.calls At ct t a1 cl false _ hCT.2.2 hCT.2.1 hcl).mono ?_); rintro e wc ⟨vc, rfl, hoC, hbC⟩))
      go_ret3
      exact ⟨_, _, rfl, Kd.S_nil _ _ _ _ _, Kd.R_nil _ _ _ _ _, below_step hbW hbC⟩
  · rw [if_neg h0] at h
    have hw := Option.some.inj h
    simp only [Prod.mk.injEq] at hw
    obtain ⟨rfl, rfl, rfl⟩ := hw
    have he0 : (e != 0) = true := bne_iff_ne.mpr h0
    go_enter Try.func30, Try.ntmps30
    go_wp2_with (first
      | (go_at_call 40; (with_reducible refine (net_Check.calls A0 c0 l0 e _ hr0 hc0 he).mono ?_); rintro e wa ⟨rfl, ⟨nd, rfl⟩⟩))
    go_ret3
    exact ⟨_, _, rfl, Kd.S_nil _ _ _ _ _, Kd.R_nil _ _ _ _ _, pw_below_drewN (Below.refl _ _) nd⟩



/-! ### catamaranref04_SameAll: function 26 -/
def catamaranref04_SameAll.l0 : Nat → List (List Int) → List (List Int) → Int → Option (Bool)
  | 0, _, _, _ => none
  | k + 1, x0, x1, x5 => if x5 < (x0.length : Int) then (if 0 ≤ x5 then (if x5 < (x1.length : Int) then (if (strOfNums (rd_L1 x0 x5)).toList = (strOfNums (rd_L1 x1 x5)).toList then (catamaranref04_SameAll.l0 k x0 x1 (wrap64 (x5 + 1))) else (some false)) else (none)) else (none)) else (some true)
def catamaranref04_SameAll.f (k : Nat) (l0 : List (List Int)) (l1 : List (List Int)) : Option (Bool) := if (l0.length : Int) = (l1.length : Int) then (catamaranref04_SameAll.l0 k l0 l1 0) else (some false)
theorem catamaranref04_SameAll.mono_l : ∀ k, (∀ y0 y1 y2, LeO (catamaranref04_SameAll.l0 k y0 y1 y2) (catamaranref04_SameAll.l0 (k + 1) y0 y1 y2))
  | 0 => fun _ _ _ r h => by simp [catamaranref04_SameAll.l0] at h
  | k + 1 => by
    have ih0 := catamaranref04_SameAll.mono_l k
    · intro y0 y1 y2
      unfold catamaranref04_SameAll.l0
      repeat' first
      | (with_reducible exact ih0 _ _ _)
      | (with_reducible exact LeO.refl _)
      | (with_reducible exact LeO.none _)
      | (with_reducible refine LeO.ite ?_ ?_)
      | (with_reducible refine LeO.bind ?_ (fun _ => ?_))
      | exact ih0 _ _ _
      | exact LeO.none _
      | refine LeO.ite ?_ ?_
      | refine LeO.bind ?_ (fun _ => ?_)
theorem catamaranref04_SameAll.mono : ∀ a0 a1 k, LeO (catamaranref04_SameAll.f k a0 a1) (catamaranref04_SameAll.f (k + 1) a0 a1) := by
  intro a0 a1 k
  have ih0 := catamaranref04_SameAll.mono_l k
  unfold catamaranref04_SameAll.f
  repeat' first
      | (with_reducible exact ih0 _ _ _)
      | (with_reducible exact LeO.refl _)
      | (with_reducible exact LeO.none _)
      | (with_reducible refine LeO.ite ?_ ?_)
      | (with_reducible refine LeO.bind ?_ (fun _ => ?_))
      | exact ih0 _ _ _
      | exact LeO.none _
      | refine LeO.ite ?_ ?_
      | refine LeO.bind ?_ (fun _ => ?_)
set_option maxHeartbeats 8000000 in
set_option maxRecDepth 100000 in
theorem catamaranref04_SameAll.calls (k : Nat) (A0 : Option Addr) (c0 : Nat) (l0 : List (List Int)) (A1 : Option Addr) (c1 : Nat) (l1 : List (List Int)) (r : Bool) (w : World) (hr0 : Kd.C (Kd.slice 5 (Kd.int .u8)) w A0 l0.length l0) (hc0 : l0.length ≤ c0) (hr1 : Kd.C (Kd.slice 5 (Kd.int .u8)) w A1 l1.length l1) (hc1 : l1.length ≤ c1) (h : catamaranref04_SameAll.f k l0 l1 = some r) :
    Calls Try.prog 26 #[.slice A0 l0.length c0, .slice A1 l1.length c1] w fun e w' => e = .returned (.bool r) ∧ Drawn0 w w' := by
  have HR0 := Aside0.mk hr0
  have HC0 := Aside0.mk hc0
  clear hr0 hc0
  have HR1 := Aside0.mk hr1
  have HC1 := Aside0.mk hc1
  clear hr1 hc1
  have H : (if (l0.length : Int) = (l1.length : Int) then (catamaranref04_SameAll.l0 k l0 l1 0) else (some false)) = some r := h
  clear h
  by_cases c3 : (l0.length : Int) = (l1.length : Int)
  · rw [if_pos c3] at H
    have c3b0 : ((l0.length : Int) == (l1.length : Int)) = true := beq_iff_eq.mpr c3
    have c3b1 : ((l0.length : Int) != (l1.length : Int)) = false := bne_eq_false_iff_eq.mpr c3
    have c3b2 : (l0.length == l1.length) = true := by first | simpa using c3 | (simp at c3 ⊢; omega)
    clear c3
    have H' := Aside0.mk H
    clear H
    go_enter Try.func26, Try.ntmps26
    go_wp2
    repeat (go_quiet (fail); try go_wp2)
    go_loopg [5] k (fun kq v5 w' => ∃ (x5_1 : Int), v5 = .int .i64 x5_1 ∧ Aside0 (catamaranref04_SameAll.l0 kq l0 l1 x5_1 = some r) ∧ Aside0 (kq ≤ k) ∧ Drawn0 w w')
    case atStart => exact ⟨(0), (by first | rfl | (simp; done) | (simp [*]; done)), H', ⟨Nat.le_refl _⟩, by repeat (first | exact Drawn0.refl _ | apply Drawn0.step)⟩
    case round =>
      clear H'
      try clear c1
      try clear c2
      try clear p2
      try clear c3
      try clear c3b0
      try clear c3b1
      try clear c3b2
      obtain ⟨x5_1, rfl, HA, HK1, ⟨m1, rfl⟩⟩ := hrel
      cases gk with
      | zero => exact absurd HA.out (by simp [catamaranref04_SameAll.l0])
      | succ k1 =>
        have H := HA.out
        clear HA
        simp only [catamaranref04_SameAll.l0] at H
        by_cases c4 : x5_1 < (l0.length : Int)
        · rw [if_pos c4] at H
          have c4b0 : decide (x5_1 < (l0.length : Int)) = true := decide_eq_true c4
          clear c4
          by_cases c5 : 0 ≤ x5_1
          · rw [if_pos c5] at H
            have c5b0 : decide (0 ≤ x5_1) = true := decide_eq_true c5
            clear c5
            by_cases c6 : x5_1 < (l1.length : Int)
            · rw [if_pos c6] at H
              have c6b0 : decide (x5_1 < (l1.length : Int)) = true := decide_eq_true c6
              clear c6
              by_cases c7 : (strOfNums (rd_L1 l0 x5_1)).toList = (strOfNums (rd_L1 l1 x5_1)).toList
              · rw [if_pos c7] at H
                have c7b0 : ((strOfNums (rd_L1 l0 x5_1)).toList == (strOfNums (rd_L1 l1 x5_1)).toList) = true := beq_iff_eq.mpr c7
                have c7b1 : ((strOfNums (rd_L1 l0 x5_1)).toList != (strOfNums (rd_L1 l1 x5_1)).toList) = false := bne_eq_false_iff_eq.mpr c7
                clear c7
                have H' := Aside0.mk H
                clear H
                have p112 : 0 ≤ (x5_1 : Int) := of_decide_eq_true (by first | (with_reducible assumption) | assumption)
                have q112 : x5_1 < (l0.length : Int) := of_decide_eq_true (by first | (with_reducible assumption) | assumption)
                obtain ⟨ad112, A112_0, c112_0, e112, hx112_0, hl112_0, hi112_0⟩ := at_L1 HR0.out x5_1 p112 q112
                cases e112
                have HR112_0 := Aside0.mk hi112_0
                have HC112_0 := Aside0.mk hl112_0
                clear hi112_0 hl112_0
                replace p112 := eq_true p112
                replace q112 := eq_true q112
                have hcv8 := Kd.C_string (P := Try.prog) (A := A112_0) (c := c112_0) Try.underlying35 Try.underlying5 Try.underlying9 HR112_0.out
                have hcw8 := fun m_ => Kd.C_string (P := Try.prog) (A := A112_0) (c := c112_0) Try.underlying35 Try.underlying5 Try.underlying9 (Kd.C_drewN HR112_0.out m_)
                have p113 : 0 ≤ (x5_1 : Int) := of_decide_eq_true (by first | (with_reducible assumption) | assumption)
                have q113 : x5_1 < (l1.length : Int) := of_decide_eq_true (by first | (with_reducible assumption) | assumption)
                obtain ⟨ad113, A113_0, c113_0, e113, hx113_0, hl113_0, hi113_0⟩ := at_L1 HR1.out x5_1 p113 q113
                cases e113
                have HR113_0 := Aside0.mk hi113_0
                have HC113_0 := Aside0.mk hl113_0
                clear hi113_0 hl113_0
                replace p113 := eq_true p113
                replace q113 := eq_true q113
                have hcv9 := Kd.C_string (P := Try.prog) (A := A113_0) (c := c113_0) Try.underlying35 Try.underlying5 Try.underlying9 HR113_0.out
                have hcw9 := fun m_ => Kd.C_string (P := Try.prog) (A := A113_0) (c := c113_0) Try.underlying35 Try.underlying5 Try.underlying9 (Kd.C_drewN HR113_0.out m_)
                go_wp2
                repeat (go_quiet (fail); try go_wp2)
                go_roundg k1
                case measure => have := HK1.out; omega
                case rel => exact ⟨(wrap64 (x5_1 + 1)), (by first | rfl | (simp; done) | (simp [*]; done)), H', ⟨by have := HK1.out; omega⟩, by repeat (first | exact Drawn0.refl _ | apply Drawn0.step)⟩
              · rw [if_neg c7] at H
                have c7b0 : ((strOfNums (rd_L1 l0 x5_1)).toList == (strOfNums (rd_L1 l1 x5_1)).toList) = false := beq_eq_false_iff_ne.mpr c7
                have c7b1 : ((strOfNums (rd_L1 l0 x5_1)).toList != (strOfNums (rd_L1 l1 x5_1)).toList) = true := bne_iff_ne.mpr c7
                obtain rfl := Option.some.inj H
                have p112 : 0 ≤ (x5_1 : Int) := of_decide_eq_true (by first | (with_reducible assumption) | assumption)
                have q112 : x5_1 < (l0.length : Int) := of_decide_eq_true (by first | (with_reducible assumption) | assumption)
                obtain ⟨ad112, A112_0, c112_0, e112, hx112_0, hl112_0, hi112_0⟩ := at_L1 HR0.out x5_1 p112 q112
                cases e112
                have HR112_0 := Aside0.mk hi112_0
                have HC112_0 := Aside0.mk hl112_0
                clear hi112_0 hl112_0
                replace p112 := eq_true p112
                replace q112 := eq_true q112
                have hcv10 := Kd.C_string (P := Try.prog) (A := A112_0) (c := c112_0) Try.underlying35 Try.underlying5 Try.underlying9 HR112_0.out
                have hcw10 := fun m_ => Kd.C_string (P := Try.prog) (A := A112_0) (c := c112_0) Try.underlying35 Try.underlying5 Try.underlying9 (Kd.C_drewN HR112_0.out m_)
                have p113 : 0 ≤ (x5_1 : Int) := of_decide_eq_true (by first | (with_reducible assumption) | assumption)
                have q113 : x5_1 < (l1.length : Int) := of_decide_eq_true (by first | (with_reducible assumption) | assumption)
                obtain ⟨ad113, A113_0, c113_0, e113, hx113_0, hl113_0, hi113_0⟩ := at_L1 HR1.out x5_1 p113 q113
                cases e113
                have HR113_0 := Aside0.mk hi113_0
                have HC113_0 := Aside0.mk hl113_0
                clear hi113_0 hl113_0
                replace p113 := eq_true p113
                replace q113 := eq_true q113
                have hcv11 := Kd.C_string (P := Try.prog) (A := A113_0) (c := c113_0) Try.underlying35 Try.underlying5 Try.underlying9 HR113_0.out
                have hcw11 := fun m_ => Kd.C_string (P := Try.prog) (A := A113_0) (c := c113_0) Try.underlying35 Try.underlying5 Try.underlying9 (Kd.C_drewN HR113_0.out m_)
                go_wp2
                repeat (go_quiet (fail); try go_wp2)
                go_ret
                exact ⟨by first | rfl | (simp; done) | (simp [*]; done), by repeat (first | exact Drawn0.refl _ | apply Drawn0.step)⟩
            · rw [if_neg c6] at H
              exact absurd H (by simp)
          · rw [if_neg c5] at H
            exact absurd H (by simp)
        · rw [if_neg c4] at H
          have c4b0 : decide (x5_1 < (l0.length : Int)) = false := decide_eq_false c4
          clear c4
          obtain rfl := Option.some.inj H
          go_wp2
          repeat (go_quiet (fail); try go_wp2)
          go_ret
          exact ⟨by first | rfl | (simp; done) | (simp [*]; done), by repeat (first | exact Drawn0.refl _ | apply Drawn0.step)⟩
  · rw [if_neg c3] at H
    have c3b0 : ((l0.length : Int) == (l1.length : Int)) = false := beq_eq_false_iff_ne.mpr c3
    have c3b1 : ((l0.length : Int) != (l1.length : Int)) = true := bne_iff_ne.mpr c3
    have c3b2 : (l0.length == l1.length) = false := by first | simpa using c3 | (simp at c3 ⊢; omega)
    obtain rfl := Option.some.inj H
    go_enter Try.func26, Try.ntmps26
    go_wp2
    repeat (go_quiet (fail); try go_wp2)
    go_ret
    exact ⟨by first | rfl | (simp; done) | (simp [*]; done), by repeat (first | exact Drawn0.refl _ | apply Drawn0.step)⟩

/-! ### catamaranlaw16_alive: function 31 -/
def catamaranlaw16_alive.g (k : Nat)  : Option (Bool) := (net_Send.f k ([] : List (List Int)) (([97] : List Int))).bind fun bt117 => ((net_Send.f k bt117.1 (([98] : List Int))).bind fun bt124 => ((net_Twice.f k bt124.1 0).bind fun bt128 => ((net_Take.f k bt128.1 1).bind fun bt132 => (if bt117.2 = 0 then (if bt124.2 = 0 then (if bt128.2 = 0 then ((catamaranref04_SameAll.f k bt128.1 (([(([97] : List Int)), (([98] : List Int)), (([97] : List Int))] : List (List Int)))).bind fun t151 => (if t151 = true then (if bt132.2.2 = 0 then (if (strOfNums bt132.2.1).toList = ([98] : List UInt8) then ((catamaranref04_SameAll.f k bt132.1 (([(([97] : List Int)), (([97] : List Int))] : List (List Int)))).bind fun t161 => (some t161)) else (some false)) else (some false)) else (some false))) else (some false)) else (some false)) else (some false)))))
theorem catamaranlaw16_alive.mono_g : ∀ k, LeO (catamaranlaw16_alive.g k ) (catamaranlaw16_alive.g (k + 1) ) := by
  intro  k
  unfold catamaranlaw16_alive.g
  repeat' first
      | (with_reducible exact catamaranref04_SameAll.mono _ _ _)
      | (with_reducible exact net_Send.mono _ _ _)
      | (with_reducible exact net_Take.mono _ _ _)
      | (with_reducible exact net_Twice.mono _ _ _)
      | (with_reducible exact LeO.refl _)
      | (with_reducible exact LeO.none _)
      | (with_reducible refine LeO.ite ?_ ?_)
      | (with_reducible refine LeO.bind ?_ (fun _ => ?_))
      | exact catamaranref04_SameAll.mono _ _ _
      | exact net_Send.mono _ _ _
      | exact net_Take.mono _ _ _
      | exact net_Twice.mono _ _ _
      | exact LeO.none _
      | refine LeO.ite ?_ ?_
      | refine LeO.bind ?_ (fun _ => ?_)
def catamaranlaw16_alive.f (k : Nat)  : Option (Bool) := if catamaranlaw16_alive.g k  = some true then some true else none
theorem catamaranlaw16_alive.mono : ∀ k, LeO (catamaranlaw16_alive.f k ) (catamaranlaw16_alive.f (k + 1) ) :=
  fun  k => leO_only (catamaranlaw16_alive.mono_g  k)
set_option maxHeartbeats 8000000 in
set_option maxRecDepth 100000 in
theorem catamaranlaw16_alive.calls (k : Nat)  (r : Bool) (w : World) (h : catamaranlaw16_alive.f k  = some r) :
    Calls Try.prog 31 #[] w fun e w' => e = .returned (.bool r) ∧ Below w.heap.size w w' := by
  have hT_ : Aside0 (r = true) := ⟨(only_to (a := catamaranlaw16_alive.g k ) h).1⟩
  replace h := (only_to (a := catamaranlaw16_alive.g k ) h).2
  have HB := Aside0.mk (Below.refl w.heap.size w)
  have H : ((net_Send.f k ([] : List (List Int)) (([97] : List Int))).bind fun bt117 => ((net_Send.f k bt117.1 (([98] : List Int))).bind fun bt124 => ((net_Twice.f k bt124.1 0).bind fun bt128 => ((net_Take.f k bt128.1 1).bind fun bt132 => (if bt117.2 = 0 then (if bt124.2 = 0 then (if bt128.2 = 0 then ((catamaranref04_SameAll.f k bt128.1 (([(([97] : List Int)), (([98] : List Int)), (([97] : List Int))] : List (List Int)))).bind fun t151 => (if t151 = true then (if bt132.2.2 = 0 then (if (strOfNums bt132.2.1).toList = ([98] : List UInt8) then ((catamaranref04_SameAll.f k bt132.1 (([(([97] : List Int)), (([97] : List Int))] : List (List Int)))).bind fun t161 => (some t161)) else (some false)) else (some false)) else (some false))) else (some false)) else (some false)) else (some false)))))) = some r := h
  clear h
  obtain ⟨y114, hy114⟩ : ∃ y_ : List Int, y_ = (([97] : List Int)) := ⟨_, rfl⟩
  replace H : ((net_Send.f k ([] : List (List Int)) y114).bind fun bt117 => ((net_Send.f k bt117.1 (([98] : List Int))).bind fun bt124 => ((net_Twice.f k bt124.1 0).bind fun bt128 => ((net_Take.f k bt128.1 1).bind fun bt132 => (if bt117.2 = 0 then (if bt124.2 = 0 then (if bt128.2 = 0 then ((catamaranref04_SameAll.f k bt128.1 (([(([97] : List Int)), (([98] : List Int)), (([97] : List Int))] : List (List Int)))).bind fun t151 => (if t151 = true then (if bt132.2.2 = 0 then (if (strOfNums bt132.2.1).toList = ([98] : List UInt8) then ((catamaranref04_SameAll.f k bt132.1 (([(([97] : List Int)), (([97] : List Int))] : List (List Int)))).bind fun t161 => (some t161)) else (some false)) else (some false)) else (some false))) else (some false)) else (some false)) else (some false)))))) = some r := by first | (rw [hy114]; with_reducible exact H) | (have H2_ := (Option.bind_some _ _).symm.trans H; rw [hy114]; with_reducible exact H2_) | (have H2_ := (Option.bind_some _ _).symm.trans H; with_reducible exact H2_) | with_reducible exact H | (rw [hy114]; exact H) | exact H
  have Ny114 := Aside0.mk hy114
  clear hy114
  replace H := Option.bind_eq_some_iff.mp H
  obtain ⟨⟨t117, t118⟩, A10, H⟩ := H
  replace H : ((net_Send.f k t117 (([98] : List Int))).bind fun bt124 => ((net_Twice.f k bt124.1 0).bind fun bt128 => ((net_Take.f k bt128.1 1).bind fun bt132 => (if t118 = 0 then (if bt124.2 = 0 then (if bt128.2 = 0 then ((catamaranref04_SameAll.f k bt128.1 (([(([97] : List Int)), (([98] : List Int)), (([97] : List Int))] : List (List Int)))).bind fun t151 => (if t151 = true then (if bt132.2.2 = 0 then (if (strOfNums bt132.2.1).toList = ([98] : List UInt8) then ((catamaranref04_SameAll.f k bt132.1 (([(([97] : List Int)), (([97] : List Int))] : List (List Int)))).bind fun t161 => (some t161)) else (some false)) else (some false)) else (some false))) else (some false)) else (some false)) else (some false))))) = some r := H
  have A1 := Aside0.mk A10
  clear A10
  obtain ⟨y121, hy121⟩ : ∃ y_ : List Int, y_ = (([98] : List Int)) := ⟨_, rfl⟩
  replace H : ((net_Send.f k t117 y121).bind fun bt124 => ((net_Twice.f k bt124.1 0).bind fun bt128 => ((net_Take.f k bt128.1 1).bind fun bt132 => (if t118 = 0 then (if bt124.2 = 0 then (if bt128.2 = 0 then ((catamaranref04_SameAll.f k bt128.1 (([(([97] : List Int)), (([98] : List Int)), (([97] : List Int))] : List (List Int)))).bind fun t151 => (if t151 = true then (if bt132.2.2 = 0 then (if (strOfNums bt132.2.1).toList = ([98] : List UInt8) then ((catamaranref04_SameAll.f k bt132.1 (([(([97] : List Int)), (([97] : List Int))] : List (List Int)))).bind fun t161 => (some t161)) else (some false)) else (some false)) else (some false))) else (some false)) else (some false)) else (some false))))) = some r := by first | (rw [hy121]; with_reducible exact H) | (have H2_ := (Option.bind_some _ _).symm.trans H; rw [hy121]; with_reducible exact H2_) | (have H2_ := (Option.bind_some _ _).symm.trans H; with_reducible exact H2_) | with_reducible exact H | (rw [hy121]; exact H) | exact H
  have Ny121 := Aside0.mk hy121
  clear hy121
  replace H := Option.bind_eq_some_iff.mp H
  obtain ⟨⟨t124, t125⟩, A20, H⟩ := H
  replace H : ((net_Twice.f k t124 0).bind fun bt128 => ((net_Take.f k bt128.1 1).bind fun bt132 => (if t118 = 0 then (if t125 = 0 then (if bt128.2 = 0 then ((catamaranref04_SameAll.f k bt128.1 (([(([97] : List Int)), (([98] : List Int)), (([97] : List Int))] : List (List Int)))).bind fun t151 => (if t151 = true then (if bt132.2.2 = 0 then (if (strOfNums bt132.2.1).toList = ([98] : List UInt8) then ((catamaranref04_SameAll.f k bt132.1 (([(([97] : List Int)), (([97] : List Int))] : List (List Int)))).bind fun t161 => (some t161)) else (some false)) else (some false)) else (some false))) else (some false)) else (some false)) else (some false)))) = some r := H
  have A2 := Aside0.mk A20
  clear A20
  replace H := Option.bind_eq_some_iff.mp H
  obtain ⟨⟨t128, t129⟩, A30, H⟩ := H
  replace H : ((net_Take.f k t128 1).bind fun bt132 => (if t118 = 0 then (if t125 = 0 then (if t129 = 0 then ((catamaranref04_SameAll.f k t128 (([(([97] : List Int)), (([98] : List Int)), (([97] : List Int))] : List (List Int)))).bind fun t151 => (if t151 = true then (if bt132.2.2 = 0 then (if (strOfNums bt132.2.1).toList = ([98] : List UInt8) then ((catamaranref04_SameAll.f k bt132.1 (([(([97] : List Int)), (([97] : List Int))] : List (List Int)))).bind fun t161 => (some t161)) else (some false)) else (some false)) else (some false))) else (some false)) else (some false)) else (some false))) = some r := H
  have A3 := Aside0.mk A30
  clear A30
  replace H := Option.bind_eq_some_iff.mp H
  obtain ⟨⟨t132, t133, t134⟩, A40, H⟩ := H
  replace H : (if t118 = 0 then (if t125 = 0 then (if t129 = 0 then ((catamaranref04_SameAll.f k t128 (([(([97] : List Int)), (([98] : List Int)), (([97] : List Int))] : List (List Int)))).bind fun t151 => (if t151 = true then (if t134 = 0 then (if (strOfNums t133).toList = ([98] : List UInt8) then ((catamaranref04_SameAll.f k t132 (([(([97] : List Int)), (([97] : List Int))] : List (List Int)))).bind fun t161 => (some t161)) else (some false)) else (some false)) else (some false))) else (some false)) else (some false)) else (some false)) = some r := H
  have A4 := Aside0.mk A40
  clear A40
  by_cases c5 : t118 = 0
  · rw [if_pos c5] at H
    have c5b0 : (t118 == 0) = true := beq_iff_eq.mpr c5
    have c5b1 : (t118 != 0) = false := bne_eq_false_iff_eq.mpr c5
    clear c5
    by_cases c6 : t125 = 0
    · rw [if_pos c6] at H
      have c6b0 : (t125 == 0) = true := beq_iff_eq.mpr c6
      have c6b1 : (t125 != 0) = false := bne_eq_false_iff_eq.mpr c6
      clear c6
      by_cases c7 : t129 = 0
      · rw [if_pos c7] at H
        have c7b0 : (t129 == 0) = true := beq_iff_eq.mpr c7
        have c7b1 : (t129 != 0) = false := bne_eq_false_iff_eq.mpr c7
        clear c7
        obtain ⟨y139, hy139⟩ : ∃ y_ : List Int, y_ = (([97] : List Int)) := ⟨_, rfl⟩
        replace H : ((catamaranref04_SameAll.f k t128 (([y139, (([98] : List Int)), (([97] : List Int))] : List (List Int)))).bind fun t151 => (if t151 = true then (if t134 = 0 then (if (strOfNums t133).toList = ([98] : List UInt8) then ((catamaranref04_SameAll.f k t132 (([(([97] : List Int)), (([97] : List Int))] : List (List Int)))).bind fun t161 => (some t161)) else (some false)) else (some false)) else (some false))) = some r := by first | (rw [hy139]; with_reducible exact H) | (have H2_ := (Option.bind_some _ _).symm.trans H; rw [hy139]; with_reducible exact H2_) | (have H2_ := (Option.bind_some _ _).symm.trans H; with_reducible exact H2_) | with_reducible exact H | (rw [hy139]; exact H) | exact H
        have Ny139 := Aside0.mk hy139
        clear hy139
        obtain ⟨y142, hy142⟩ : ∃ y_ : List Int, y_ = (([98] : List Int)) := ⟨_, rfl⟩
        replace H : ((catamaranref04_SameAll.f k t128 (([y139, y142, (([97] : List Int))] : List (List Int)))).bind fun t151 => (if t151 = true then (if t134 = 0 then (if (strOfNums t133).toList = ([98] : List UInt8) then ((catamaranref04_SameAll.f k t132 (([(([97] : List Int)), (([97] : List Int))] : List (List Int)))).bind fun t161 => (some t161)) else (some false)) else (some false)) else (some false))) = some r := by first | (rw [hy142]; with_reducible exact H) | (have H2_ := (Option.bind_some _ _).symm.trans H; rw [hy142]; with_reducible exact H2_) | (have H2_ := (Option.bind_some _ _).symm.trans H; with_reducible exact H2_) | with_reducible exact H | (rw [hy142]; exact H) | exact H
        have Ny142 := Aside0.mk hy142
        clear hy142
        obtain ⟨y145, hy145⟩ : ∃ y_ : List Int, y_ = (([97] : List Int)) := ⟨_, rfl⟩
        replace H : ((catamaranref04_SameAll.f k t128 (([y139, y142, y145] : List (List Int)))).bind fun t151 => (if t151 = true then (if t134 = 0 then (if (strOfNums t133).toList = ([98] : List UInt8) then ((catamaranref04_SameAll.f k t132 (([(([97] : List Int)), (([97] : List Int))] : List (List Int)))).bind fun t161 => (some t161)) else (some false)) else (some false)) else (some false))) = some r := by first | (rw [hy145]; with_reducible exact H) | (have H2_ := (Option.bind_some _ _).symm.trans H; rw [hy145]; with_reducible exact H2_) | (have H2_ := (Option.bind_some _ _).symm.trans H; with_reducible exact H2_) | with_reducible exact H | (rw [hy145]; exact H) | exact H
        have Ny145 := Aside0.mk hy145
        clear hy145
        obtain ⟨y148, hy148⟩ : ∃ y_ : List (List Int), y_ = (([y139, y142, y145] : List (List Int))) := ⟨_, rfl⟩
        replace H : ((catamaranref04_SameAll.f k t128 y148).bind fun t151 => (if t151 = true then (if t134 = 0 then (if (strOfNums t133).toList = ([98] : List UInt8) then ((catamaranref04_SameAll.f k t132 (([(([97] : List Int)), (([97] : List Int))] : List (List Int)))).bind fun t161 => (some t161)) else (some false)) else (some false)) else (some false))) = some r := by first | (rw [hy148]; with_reducible exact H) | (have H2_ := (Option.bind_some _ _).symm.trans H; rw [hy148]; with_reducible exact H2_) | (have H2_ := (Option.bind_some _ _).symm.trans H; with_reducible exact H2_) | with_reducible exact H | (rw [hy148]; exact H) | exact H
        have Ny148 := Aside0.mk hy148
        clear hy148
        replace H := Option.bind_eq_some_iff.mp H
        obtain ⟨t151, A80, H⟩ := H
        replace H : (if t151 = true then (if t134 = 0 then (if (strOfNums t133).toList = ([98] : List UInt8) then ((catamaranref04_SameAll.f k t132 (([(([97] : List Int)), (([97] : List Int))] : List (List Int)))).bind fun t161 => (some t161)) else (some false)) else (some false)) else (some false)) = some r := H
        have A8 := Aside0.mk A80
        clear A80
        by_cases c9 : t151 = true
        · subst c9
          have H1 : (if t134 = 0 then (if (strOfNums t133).toList = ([98] : List UInt8) then ((catamaranref04_SameAll.f k t132 (([(([97] : List Int)), (([97] : List Int))] : List (List Int)))).bind fun t161 => (some t161)) else (some false)) else (some false)) = some r := by rw [if_pos rfl] at H; exact H
          clear H
          have H := H1
          clear H1
          by_cases c10 : t134 = 0
          · rw [if_pos c10] at H
            have c10b0 : (t134 == 0) = true := beq_iff_eq.mpr c10
            have c10b1 : (t134 != 0) = false := bne_eq_false_iff_eq.mpr c10
            clear c10
            by_cases c11 : (strOfNums t133).toList = ([98] : List UInt8)
            · rw [if_pos c11] at H
              have c11b0 : ((strOfNums t133).toList == ([98] : List UInt8)) = true := beq_iff_eq.mpr c11
              have c11b1 : ((strOfNums t133).toList != ([98] : List UInt8)) = false := bne_eq_false_iff_eq.mpr c11
              clear c11
              obtain ⟨y152, hy152⟩ : ∃ y_ : List Int, y_ = (([97] : List Int)) := ⟨_, rfl⟩
              replace H : ((catamaranref04_SameAll.f k t132 (([y152, (([97] : List Int))] : List (List Int)))).bind fun t161 => (some t161)) = some r := by first | (rw [hy152]; with_reducible exact H) | (have H2_ := (Option.bind_some _ _).symm.trans H; rw [hy152]; with_reducible exact H2_) | (have H2_ := (Option.bind_some _ _).symm.trans H; with_reducible exact H2_) | with_reducible exact H | (rw [hy152]; exact H) | exact H
              have Ny152 := Aside0.mk hy152
              clear hy152
              obtain ⟨y155, hy155⟩ : ∃ y_ : List Int, y_ = (([97] : List Int)) := ⟨_, rfl⟩
              replace H : ((catamaranref04_SameAll.f k t132 (([y152, y155] : List (List Int)))).bind fun t161 => (some t161)) = some r := by first | (rw [hy155]; with_reducible exact H) | (have H2_ := (Option.bind_some _ _).symm.trans H; rw [hy155]; with_reducible exact H2_) | (have H2_ := (Option.bind_some _ _).symm.trans H; with_reducible exact H2_) | with_reducible exact H | (rw [hy155]; exact H) | exact H
              have Ny155 := Aside0.mk hy155
              clear hy155
              obtain ⟨y158, hy158⟩ : ∃ y_ : List (List Int), y_ = (([y152, y155] : List (List Int))) := ⟨_, rfl⟩
              replace H : ((catamaranref04_SameAll.f k t132 y158).bind fun t161 => (some t161)) = some r := by first | (rw [hy158]; with_reducible exact H) | (have H2_ := (Option.bind_some _ _).symm.trans H; rw [hy158]; with_reducible exact H2_) | (have H2_ := (Option.bind_some _ _).symm.trans H; with_reducible exact H2_) | with_reducible exact H | (rw [hy158]; exact H) | exact H
              have Ny158 := Aside0.mk hy158
              clear hy158
              replace H := Option.bind_eq_some_iff.mp H
              obtain ⟨t161, A120, H⟩ := H
              replace H : (some t161) = some r := H
              have A12 := Aside0.mk A120
              clear A120
              obtain rfl := Option.some.inj H
              go_enter Try.func31, Try.ntmps31
              go_wp2_with (first | ((with_reducible refine gate_dst (N := 11) rfl ?_); (try (refine gate_guard (by rfl) ?_; dsimp only)); refine Kd.R_lit (Kd.int .u8) _ 5 ?hg (N := 11) ?hd (xs := ([97] : List Int)) (inner := [.int .u8 97]) (ok := fun _ => True) (okp := fun _ => True) ?hr ?hp (fun _ hk => hk) trivial (Below.refl _ _) (Nat.le_refl _) (by simp) ?_; (case hd => rfl); (case hg => rfl); (case hr => first | (go_simp; done) | (go_simp; rfl)); (case hp => exact (Reps.one (show Kd.M (Kd.int .u8) _ _ _ 97 [.int .u8 97] from rfl) (Reps.none _ _))); intro v115 w0_ ho0_ hb0_ hg0_ hn0_; clear hg0_; (try simp only [Act.put, List.setIfInBounds_toArray, List.set_cons_zero, List.set_cons_succ]); (try (refine gate_guard (by rfl) ?_; dsimp only)); refine Kd.V_mark (v := v115) rfl (N := 12) rfl rfl rfl Try.underlying35 Try.underlying5 ho0_ hb0_ hn0_ ?_; clear ho0_ hb0_ hn0_; intro w13 ho14 hb; (try simp only [Act.put, List.setIfInBounds_toArray, List.set_cons_zero, List.set_cons_succ]); rw [← Ny114.out] at ho14; have n0_ := Aside0.mk (Kd.V_lower (Kd.V_mono (ok' := fun k_ => True) ho14 (fun k_ hk_ => trivial)) (below_size (by repeat (first | (with_reducible first | exact HB.out | apply below_alloc | apply pw_below_drewN | apply below_drew1) | exact HB.out)))); have n1_ := Aside0.mk (below_step (by repeat (first | (with_reducible first | exact HB.out | apply below_alloc | apply pw_below_drewN | apply below_drew1) | exact HB.out)) hb); clear HB; have HO116 := n0_; have HB := n1_; clear n0_ n1_; clear hb ho14; obtain ⟨Ao15, co15, eo15⟩ := Kd.V_slice HO116.out; subst eo15) | ((with_reducible refine gate_callee (f := 28) rfl ?_); refine goesL_ (some 13) rfl rfl Try.func28 (by kernel_rfl) rfl #[.slice none 0 0, .slice Ao15 y114.length co15] rfl (by (try simp only [List.map_toArray, List.map_cons, List.map_nil]); first | done | rfl | (simp only [List.length_drop, List.length_take]; rfl)) ?_; (refine (net_Send.calls k _ _ ([] : List (List Int)) _ _ y114 t117 t118 _ ?side1 ?side2 ?side3 ?side4 A1.out).mono ?_); (case side1 => exact Kd.C_nil _ _); (case side2 => exact Nat.le_refl _); (case side3 => repeat (first | exact (Kd.V_reads' HO116.out).2.2 | (with_reducible refine Kd.C_alloc ?_ _) | (with_reducible refine Kd.C_drewN ?_ _) | (with_reducible refine Kd.C_drew ?_))); (case side4 => exact (Kd.V_reads' HO116.out).2.1); rintro e w16 ⟨v119, rfl, ho0, hb⟩; refine ⟨_, rfl, ?_⟩; have n0_ := Aside0.mk (Kd.V_elder' (by (with_reducible repeat (first | apply Kd.V_alloc | apply Kd.V_drewN | apply Kd.V_drew)); exact HO116.out) (Kd.N_base (Kd.S_N ho0)) hb); have n1_ := Aside0.mk (Kd.N_lower (Kd.N_mono (ok' := fun k_ => True) (Kd.S_N (Kd.S_bound ho0)) (fun k_ hk_ => trivial)) (below_size (by repeat (first | (with_reducible first | exact HB.out | apply below_alloc | apply pw_below_drewN | apply below_drew1) | exact HB.out)))); have n2_ := Aside0.mk (below_step (by repeat (first | (with_reducible first | exact HB.out | apply below_alloc | apply pw_below_drewN | apply below_drew1) | exact HB.out)) hb); clear HO116; clear HB; have HO116 := n0_; have HO120 := n1_; have HB := n2_; clear n0_ n1_ n2_; (try clear hb); (try clear hb2); (try clear hk); (try clear hi); (try clear ho0)) | ((with_reducible refine gate_dst (N := 18) rfl ?_); (try (refine gate_guard (by rfl) ?_; dsimp only)); refine Kd.R_lit (Kd.int .u8) _ 5 ?hg (N := 18) ?hd (xs := ([98] : List Int)) (inner := [.int .u8 98]) (ok := fun _ => True) (okp := fun _ => True) ?hr ?hp (fun _ hk => hk) trivial (Below.refl _ _) (Nat.le_refl _) (by simp) ?_; (case hd => rfl); (case hg => rfl); (case hr => first | (go_simp; done) | (go_simp; rfl)); (case hp => exact (Reps.one (show Kd.M (Kd.int .u8) _ _ _ 98 [.int .u8 98] from rfl) (Reps.none _ _))); intro v122 w0_ ho0_ hb0_ hg0_ hn0_; clear hg0_; (try simp only [Act.put, List.setIfInBounds_toArray, List.set_cons_zero, List.set_cons_succ]); (try (refine gate_guard (by rfl) ?_; dsimp only)); refine Kd.V_mark (v := v122) rfl (N := 19) rfl rfl rfl Try.underlying35 Try.underlying5 ho0_ hb0_ hn0_ ?_; clear ho0_ hb0_ hn0_; intro w17 ho18 hb; (try simp only [Act.put, List.setIfInBounds_toArray, List.set_cons_zero, List.set_cons_succ]); rw [← Ny121.out] at ho18; have n0_ := Aside0.mk (Kd.V_below (by (with_reducible repeat (first | apply Kd.V_alloc | apply Kd.V_drewN | apply Kd.V_drew)); exact HO116.out) hb); have n1_ := Aside0.mk (Kd.N_below (by (with_reducible repeat (first | apply Kd.N_alloc | apply Kd.N_drewN | apply Kd.N_drew)); exact HO120.out) hb); have n2_ := Aside0.mk (Kd.V_lower (Kd.V_mono (ok' := fun k_ => some k_ ≠ (v119 : Value).ownBlock) ho18 (fun k_ hk_ => (Kd.fresh' (Kd.N_lt (by (with_reducible repeat (first | apply Kd.N_alloc | apply Kd.N_drewN | apply Kd.N_drew)); exact HO120.out)) k_ hk_))) (below_size (by repeat (first | (with_reducible first | exact HB.out | apply below_alloc | apply pw_below_drewN | apply below_drew1) | exact HB.out)))); have n3_ := Aside0.mk (below_step (by repeat (first | (with_reducible first | exact HB.out | apply below_alloc | apply pw_below_drewN | apply below_drew1) | exact HB.out)) hb); clear HO116; clear HO120; clear HB; have HO116 := n0_; have HO120 := n1_; have HO123 := n2_; have HB := n3_; clear n0_ n1_ n2_ n3_; clear hb ho18; obtain ⟨Ao19, co19, eo19⟩ := Kd.N_slice HO120.out; subst eo19; obtain ⟨Ao20, co20, eo20⟩ := Kd.V_slice HO123.out; subst eo20) | ((with_reducible refine gate_callee (f := 28) rfl ?_); refine goesL_ (some 20) rfl rfl Try.func28 (by kernel_rfl) rfl #[.slice Ao19 t117.length co19, .slice Ao20 y121.length co20] rfl (by (try simp only [List.map_toArray, List.map_cons, List.map_nil]); first | done | rfl | (simp only [List.length_drop, List.length_take]; rfl)) ?_; (with_reducible refine (net_Send.calls k _ _ t117 _ _ y121 t124 t125 _ ?side1 ?side2 ?side3 ?side4 A2.out).mono ?_); (case side1 => repeat (first | exact (Kd.N_reads' HO120.out).2.2 | (with_reducible refine Kd.C_alloc ?_ _) | (with_reducible refine Kd.C_drewN ?_ _) | (with_reducible refine Kd.C_drew ?_))); (case side2 => exact (Kd.N_reads' HO120.out).2.1); (case side3 => repeat (first | exact (Kd.V_reads' HO123.out).2.2 | (with_reducible refine Kd.C_alloc ?_ _) | (with_reducible refine Kd.C_drewN ?_ _) | (with_reducible refine Kd.C_drew ?_))); (case side4 => exact (Kd.V_reads' HO123.out).2.1); rintro e w21 ⟨v126, rfl, ho0, hb⟩; refine ⟨_, rfl, ?_⟩; have n0_ := Aside0.mk (Kd.V_elder' (by (with_reducible repeat (first | apply Kd.V_alloc | apply Kd.V_drewN | apply Kd.V_drew)); exact HO116.out) (Kd.N_base (Kd.S_N ho0)) hb); have n1_ := Aside0.mk (Kd.N_elder' (by (with_reducible repeat (first | apply Kd.N_alloc | apply Kd.N_drewN | apply Kd.N_drew)); exact HO120.out) (Kd.N_base (Kd.S_N ho0)) hb); have n2_ := Aside0.mk (Kd.V_elder' (by (with_reducible repeat (first | apply Kd.V_alloc | apply Kd.V_drewN | apply Kd.V_drew)); exact HO123.out) (Kd.N_base (Kd.S_N ho0)) hb); have n3_ := Aside0.mk (Kd.N_lower (Kd.N_mono (ok' := fun k_ => some k_ ≠ (.slice Ao19 t117.length co19 : Value).ownBlock) (Kd.S_N (Kd.S_bound ho0)) (fun k_ hk_ => (Kd.fresh' (Kd.N_lt (by (with_reducible repeat (first | apply Kd.N_alloc | apply Kd.N_drewN | apply Kd.N_drew)); exact HO120.out)) k_ hk_.2.1))) (below_size (by repeat (first | (with_reducible first | exact HB.out | apply below_alloc | apply pw_below_drewN | apply below_drew1) | exact HB.out)))); have n4_ := Aside0.mk (below_step (by repeat (first | (with_reducible first | exact HB.out | apply below_alloc | apply pw_below_drewN | apply below_drew1) | exact HB.out)) hb); clear HO116; clear HO120; clear HO123; clear HB; have HO116 := n0_; have HO120 := n1_; have HO123 := n2_; have HO127 := n3_; have HB := n4_; clear n0_ n1_ n2_ n3_ n4_; (try clear hb); (try clear hb2); (try clear hk); (try clear hi); (try clear ho0); obtain ⟨Ao22, co22, eo22⟩ := Kd.N_slice HO127.out; subst eo22) | ((with_reducible refine gate_callee (f := 29) rfl ?_); refine goesL_ (some 25) rfl rfl Try.func29 (by kernel_rfl) rfl #[.slice Ao22 t124.length co22, .int .i64 0] rfl (by (try simp only [List.map_toArray, List.map_cons, List.map_nil]); first | done | rfl | (simp only [List.length_drop, List.length_take]; rfl)) ?_; (with_reducible refine (net_Twice.calls k _ _ t124 0 t128 t129 _ ?side1 ?side2 A3.out).mono ?_); (case side1 => repeat (first | exact (Kd.N_reads' HO127.out).2.2 | (with_reducible refine Kd.C_alloc ?_ _) | (with_reducible refine Kd.C_drewN ?_ _) | (with_reducible refine Kd.C_drew ?_))); (case side2 => exact (Kd.N_reads' HO127.out).2.1); rintro e w23 ⟨v130, rfl, ho0, hb⟩; refine ⟨_, rfl, ?_⟩; have n0_ := Aside0.mk (Kd.V_elder' (by (with_reducible repeat (first | apply Kd.V_alloc | apply Kd.V_drewN | apply Kd.V_drew)); exact HO116.out) (Kd.N_base (Kd.S_N ho0)) hb); have n1_ := Aside0.mk (Kd.N_elder' (by (with_reducible repeat (first | apply Kd.N_alloc | apply Kd.N_drewN | apply Kd.N_drew)); exact HO120.out) (Kd.N_base (Kd.S_N ho0)) hb); have n2_ := Aside0.mk (Kd.V_elder' (by (with_reducible repeat (first | apply Kd.V_alloc | apply Kd.V_drewN | apply Kd.V_drew)); exact HO123.out) (Kd.N_base (Kd.S_N ho0)) hb); have n3_ := Aside0.mk (Kd.N_elder' (by (with_reducible repeat (first | apply Kd.N_alloc | apply Kd.N_drewN | apply Kd.N_drew)); exact HO127.out) (Kd.N_base (Kd.S_N ho0)) hb); have n4_ := Aside0.mk (Kd.N_lower (Kd.N_mono (ok' := fun k_ => some k_ ≠ (.slice Ao19 t117.length co19 : Value).ownBlock ∧ some k_ ≠ (.slice Ao22 t124.length co22 : Value).ownBlock) (Kd.S_N (Kd.S_bound ho0)) (fun k_ hk_ => ⟨(Kd.fresh' (Kd.N_lt (by (with_reducible repeat (first | apply Kd.N_alloc | apply Kd.N_drewN | apply Kd.N_drew)); exact HO120.out)) k_ hk_.2.1), (Kd.fresh' (Kd.N_lt (by (with_reducible repeat (first | apply Kd.N_alloc | apply Kd.N_drewN | apply Kd.N_drew)); exact HO127.out)) k_ hk_.2.1)⟩)) (below_size (by repeat (first | (with_reducible first | exact HB.out | apply below_alloc | apply pw_below_drewN | apply below_drew1) | exact HB.out)))); have n5_ := Aside0.mk (below_step (by repeat (first | (with_reducible first | exact HB.out | apply below_alloc | apply pw_below_drewN | apply below_drew1) | exact HB.out)) hb); clear HO116; clear HO120; clear HO123; clear HO127; clear HB; have HO116 := n0_; have HO120 := n1_; have HO123 := n2_; have HO127 := n3_; have HO131 := n4_; have HB := n5_; clear n0_ n1_ n2_ n3_ n4_ n5_; (try clear hb); (try clear hb2); (try clear hk); (try clear hi); (try clear ho0); obtain ⟨Ao24, co24, eo24⟩ := Kd.N_slice HO131.out; subst eo24) | ((with_reducible refine gate_callee (f := 30) rfl ?_); refine goesL_ (some 30) rfl rfl Try.func30 (by kernel_rfl) rfl #[.slice Ao24 t128.length co24, .int .i64 1] rfl (by (try simp only [List.map_toArray, List.map_cons, List.map_nil]); first | done | rfl | (simp only [List.length_drop, List.length_take]; rfl)) ?_; (with_reducible refine (net_Take.calls k _ _ t128 1 t132 t133 t134 _ ?side1 ?side2 A4.out).mono ?_); (case side1 => repeat (first | exact (Kd.N_reads' HO131.out).2.2 | (with_reducible refine Kd.C_alloc ?_ _) | (with_reducible refine Kd.C_drewN ?_ _) | (with_reducible refine Kd.C_drew ?_))); (case side2 => exact (Kd.N_reads' HO131.out).2.1); rintro e w25 ⟨v135, v137, rfl, ho0, ho1, hb⟩; refine ⟨_, rfl, ?_⟩; have n0_ := Aside0.mk (Kd.V_mono (Kd.V_told (Kd.V_told (Kd.V_old (by (with_reducible repeat (first | apply Kd.V_alloc | apply Kd.V_drewN | apply Kd.V_drew)); exact HO116.out) hb) (Kd.N_base (Kd.S_N ho0))) (Kd.R_base ho1)) (fun _ h_ => h_.1)); have n1_ := Aside0.mk (Kd.N_mono (Kd.N_told (Kd.N_told (Kd.N_old (by (with_reducible repeat (first | apply Kd.N_alloc | apply Kd.N_drewN | apply Kd.N_drew)); exact HO120.out) hb) (Kd.N_base (Kd.S_N ho0))) (Kd.R_base ho1)) (fun _ h_ => h_.1)); have n2_ := Aside0.mk (Kd.V_mono (Kd.V_told (Kd.V_told (Kd.V_old (by (with_reducible repeat (first | apply Kd.V_alloc | apply Kd.V_drewN | apply Kd.V_drew)); exact HO123.out) hb) (Kd.N_base (Kd.S_N ho0))) (Kd.R_base ho1)) (fun _ h_ => h_.1)); have n3_ := Aside0.mk (Kd.N_mono (Kd.N_told (Kd.N_told (Kd.N_old (by (with_reducible repeat (first | apply Kd.N_alloc | apply Kd.N_drewN | apply Kd.N_drew)); exact HO127.out) hb) (Kd.N_base (Kd.S_N ho0))) (Kd.R_base ho1)) (fun _ h_ => h_.1)); have n4_ := Aside0.mk (Kd.N_mono (Kd.N_told (Kd.N_told (Kd.N_old (by (with_reducible repeat (first | apply Kd.N_alloc | apply Kd.N_drewN | apply Kd.N_drew)); exact HO131.out) hb) (Kd.N_base (Kd.S_N ho0))) (Kd.R_base ho1)) (fun _ h_ => h_.1)); have n5_ := Aside0.mk (Kd.N_lower (Kd.N_mono (ok' := fun k_ => some k_ ≠ (v137 : Value).ownBlock ∧ some k_ ≠ (.slice Ao19 t117.length co19 : Value).ownBlock ∧ some k_ ≠ (.slice Ao22 t124.length co22 : Value).ownBlock ∧ some k_ ≠ (.slice Ao24 t128.length co24 : Value).ownBlock) (Kd.S_N (Kd.S_bound ho0)) (fun k_ hk_ => ⟨hk_.1, (Kd.fresh' (Kd.N_lt (by (with_reducible repeat (first | apply Kd.N_alloc | apply Kd.N_drewN | apply Kd.N_drew)); exact HO120.out)) k_ hk_.2.1), (Kd.fresh' (Kd.N_lt (by (with_reducible repeat (first | apply Kd.N_alloc | apply Kd.N_drewN | apply Kd.N_drew)); exact HO127.out)) k_ hk_.2.1), (Kd.fresh' (Kd.N_lt (by (with_reducible repeat (first | apply Kd.N_alloc | apply Kd.N_drewN | apply Kd.N_drew)); exact HO131.out)) k_ hk_.2.1)⟩)) (below_size (by repeat (first | (with_reducible first | exact HB.out | apply below_alloc | apply pw_below_drewN | apply below_drew1) | exact HB.out)))); have n6_ := Aside0.mk (Kd.R_lower ho1 (below_size (by repeat (first | (with_reducible first | exact HB.out | apply below_alloc | apply pw_below_drewN | apply below_drew1) | exact HB.out)))); have n7_ := Aside0.mk (below_step (by repeat (first | (with_reducible first | exact HB.out | apply below_alloc | apply pw_below_drewN | apply below_drew1) | exact HB.out)) hb); clear HO116; clear HO120; clear HO123; clear HO127; clear HO131; clear HB; have HO116 := n0_; have HO120 := n1_; have HO123 := n2_; have HO127 := n3_; have HO131 := n4_; have HO136 := n5_; have HO138 := n6_; have HB := n7_; clear n0_ n1_ n2_ n3_ n4_ n5_ n6_ n7_; (try clear hb); (try clear hb2); (try clear hk); (try clear hi); (try clear ho0); (try clear ho1)) | ((with_reducible refine gate_dst (N := 46) rfl ?_); (try (refine gate_guard (by rfl) ?_; dsimp only)); refine Kd.R_lit (Kd.int .u8) _ 5 ?hg (N := 46) ?hd (xs := ([97] : List Int)) (inner := [.int .u8 97]) (ok := fun _ => True) (okp := fun _ => True) ?hr ?hp (fun _ hk => hk) trivial (Below.refl _ _) (Nat.le_refl _) (by simp) ?_; (case hd => rfl); (case hg => rfl); (case hr => first | (go_simp; done) | (go_simp; rfl)); (case hp => exact (Reps.one (show Kd.M (Kd.int .u8) _ _ _ 97 [.int .u8 97] from rfl) (Reps.none _ _))); intro v140 w0_ ho0_ hb0_ hg0_ hn0_; clear hg0_; (try simp only [Act.put, List.setIfInBounds_toArray, List.set_cons_zero, List.set_cons_succ]); (try (refine gate_guard (by rfl) ?_; dsimp only)); refine Kd.V_mark (v := v140) rfl (N := 47) rfl rfl rfl Try.underlying35 Try.underlying5 ho0_ hb0_ hn0_ ?_; clear ho0_ hb0_ hn0_; intro w26 ho27 hb; (try simp only [Act.put, List.setIfInBounds_toArray, List.set_cons_zero, List.set_cons_succ]); rw [← Ny139.out] at ho27; have n0_ := Aside0.mk (Kd.V_below (by (with_reducible repeat (first | apply Kd.V_alloc | apply Kd.V_drewN | apply Kd.V_drew)); exact HO116.out) hb); have n1_ := Aside0.mk (Kd.N_below (by (with_reducible repeat (first | apply Kd.N_alloc | apply Kd.N_drewN | apply Kd.N_drew)); exact HO120.out) hb); have n2_ := Aside0.mk (Kd.V_below (by (with_reducible repeat (first | apply Kd.V_alloc | apply Kd.V_drewN | apply Kd.V_drew)); exact HO123.out) hb); have n3_ := Aside0.mk (Kd.N_below (by (with_reducible repeat (first | apply Kd.N_alloc | apply Kd.N_drewN | apply Kd.N_drew)); exact HO127.out) hb); have n4_ := Aside0.mk (Kd.N_below (by (with_reducible repeat (first | apply Kd.N_alloc | apply Kd.N_drewN | apply Kd.N_drew)); exact HO131.out) hb); have n5_ := Aside0.mk (Kd.N_below (by (with_reducible repeat (first | apply Kd.N_alloc | apply Kd.N_drewN | apply Kd.N_drew)); exact HO136.out) hb); have n6_ := Aside0.mk (Kd.R_below (by (with_reducible repeat (first | apply Kd.R_alloc | apply Kd.R_drewN | apply Kd.R_drew)); exact HO138.out) hb); have n7_ := Aside0.mk (Kd.V_lower (Kd.V_mono (ok' := fun k_ => some k_ ≠ (.slice Ao19 t117.length co19 : Value).ownBlock ∧ some k_ ≠ (.slice Ao22 t124.length co22 : Value).ownBlock ∧ some k_ ≠ (.slice Ao24 t128.length co24 : Value).ownBlock ∧ some k_ ≠ (v135 : Value).ownBlock ∧ some k_ ≠ (v137 : Value).ownBlock) ho27 (fun k_ hk_ => ⟨(Kd.fresh' (Kd.N_lt (by (with_reducible repeat (first | apply Kd.N_alloc | apply Kd.N_drewN | apply Kd.N_drew)); exact HO120.out)) k_ hk_), (Kd.fresh' (Kd.N_lt (by (with_reducible repeat (first | apply Kd.N_alloc | apply Kd.N_drewN | apply Kd.N_drew)); exact HO127.out)) k_ hk_), (Kd.fresh' (Kd.N_lt (by (with_reducible repeat (first | apply Kd.N_alloc | apply Kd.N_drewN | apply Kd.N_drew)); exact HO131.out)) k_ hk_), (Kd.fresh' (Kd.N_lt (by (with_reducible repeat (first | apply Kd.N_alloc | apply Kd.N_drewN | apply Kd.N_drew)); exact HO136.out)) k_ hk_), (Kd.fresh' (Kd.R_lt (by (with_reducible repeat (first | apply Kd.R_alloc | apply Kd.R_drewN | apply Kd.R_drew)); exact HO138.out)) k_ hk_)⟩)) (below_size (by repeat (first | (with_reducible first | exact HB.out | apply below_alloc | apply pw_below_drewN | apply below_drew1) | exact HB.out)))); have n8_ := Aside0.mk (below_step (by repeat (first | (with_reducible first | exact HB.out | apply below_alloc | apply pw_below_drewN | apply below_drew1) | exact HB.out)) hb); clear HO116; clear HO120; clear HO123; clear HO127; clear HO131; clear HO136; clear HO138; clear HB; have HO116 := n0_; have HO120 := n1_; have HO123 := n2_; have HO127 := n3_; have HO131 := n4_; have HO136 := n5_; have HO138 := n6_; have HO141 := n7_; have HB := n8_; clear n0_ n1_ n2_ n3_ n4_ n5_ n6_ n7_ n8_; clear hb ho27) | ((with_reducible refine gate_dst (N := 48) rfl ?_); (try (refine gate_guard (by rfl) ?_; dsimp only)); refine Kd.R_lit (Kd.int .u8) _ 5 ?hg (N := 48) ?hd (xs := ([98] : List Int)) (inner := [.int .u8 98]) (ok := fun _ => True) (okp := fun _ => True) ?hr ?hp (fun _ hk => hk) trivial (Below.refl _ _) (Nat.le_refl _) (by simp) ?_; (case hd => rfl); (case hg => rfl); (case hr => first | (go_simp; done) | (go_simp; rfl)); (case hp => exact (Reps.one (show Kd.M (Kd.int .u8) _ _ _ 98 [.int .u8 98] from rfl) (Reps.none _ _))); intro v143 w0_ ho0_ hb0_ hg0_ hn0_; clear hg0_; (try simp only [Act.put, List.setIfInBounds_toArray, List.set_cons_zero, List.set_cons_succ]); (try (refine gate_guard (by rfl) ?_; dsimp only)); refine Kd.V_mark (v := v143) rfl (N := 49) rfl rfl rfl Try.underlying35 Try.underlying5 ho0_ hb0_ hn0_ ?_; clear ho0_ hb0_ hn0_; intro w28 ho29 hb; (try simp only [Act.put, List.setIfInBounds_toArray, List.set_cons_zero, List.set_cons_succ]); rw [← Ny142.out] at ho29; have n0_ := Aside0.mk (Kd.V_below (by (with_reducible repeat (first | apply Kd.V_alloc | apply Kd.V_drewN | apply Kd.V_drew)); exact HO116.out) hb); have n1_ := Aside0.mk (Kd.N_below (by (with_reducible repeat (first | apply Kd.N_alloc | apply Kd.N_drewN | apply Kd.N_drew)); exact HO120.out) hb); have n2_ := Aside0.mk (Kd.V_below (by (with_reducible repeat (first | apply Kd.V_alloc | apply Kd.V_drewN | apply Kd.V_drew)); exact HO123.out) hb); have n3_ := Aside0.mk (Kd.N_below (by (with_reducible repeat (first | apply Kd.N_alloc | apply Kd.N_drewN | apply Kd.N_drew)); exact HO127.out) hb); have n4_ := Aside0.mk (Kd.N_below (by (with_reducible repeat (first | apply Kd.N_alloc | apply Kd.N_drewN | apply Kd.N_drew)); exact HO131.out) hb); have n5_ := Aside0.mk (Kd.N_below (by (with_reducible repeat (first | apply Kd.N_alloc | apply Kd.N_drewN | apply Kd.N_drew)); exact HO136.out) hb); have n6_ := Aside0.mk (Kd.R_below (by (with_reducible repeat (first | apply Kd.R_alloc | apply Kd.R_drewN | apply Kd.R_drew)); exact HO138.out) hb); have n7_ := Aside0.mk (Kd.V_below (by (with_reducible repeat (first | apply Kd.V_alloc | apply Kd.V_drewN | apply Kd.V_drew)); exact HO141.out) hb); have n8_ := Aside0.mk (Kd.V_lower (Kd.V_mono (ok' := fun k_ => some k_ ≠ (.slice Ao19 t117.length co19 : Value).ownBlock ∧ some k_ ≠ (.slice Ao22 t124.length co22 : Value).ownBlock ∧ some k_ ≠ (.slice Ao24 t128.length co24 : Value).ownBlock ∧ some k_ ≠ (v135 : Value).ownBlock ∧ some k_ ≠ (v137 : Value).ownBlock) ho29 (fun k_ hk_ => ⟨(Kd.fresh' (Kd.N_lt (by (with_reducible repeat (first | apply Kd.N_alloc | apply Kd.N_drewN | apply Kd.N_drew)); exact HO120.out)) k_ hk_), (Kd.fresh' (Kd.N_lt (by (with_reducible repeat (first | apply Kd.N_alloc | apply Kd.N_drewN | apply Kd.N_drew)); exact HO127.out)) k_ hk_), (Kd.fresh' (Kd.N_lt (by (with_reducible repeat (first | apply Kd.N_alloc | apply Kd.N_drewN | apply Kd.N_drew)); exact HO131.out)) k_ hk_), (Kd.fresh' (Kd.N_lt (by (with_reducible repeat (first | apply Kd.N_alloc | apply Kd.N_drewN | apply Kd.N_drew)); exact HO136.out)) k_ hk_), (Kd.fresh' (Kd.R_lt (by (with_reducible repeat (first | apply Kd.R_alloc | apply Kd.R_drewN | apply Kd.R_drew)); exact HO138.out)) k_ hk_)⟩)) (below_size (by repeat (first | (with_reducible first | exact HB.out | apply below_alloc | apply pw_below_drewN | apply below_drew1) | exact HB.out)))); have n9_ := Aside0.mk (below_step (by repeat (first | (with_reducible first | exact HB.out | apply below_alloc | apply pw_below_drewN | apply below_drew1) | exact HB.out)) hb); clear HO116; clear HO120; clear HO123; clear HO127; clear HO131; clear HO136; clear HO138; clear HO141; clear HB; have HO116 := n0_; have HO120 := n1_; have HO123 := n2_; have HO127 := n3_; have HO131 := n4_; have HO136 := n5_; have HO138 := n6_; have HO141 := n7_; have HO144 := n8_; have HB := n9_; clear n0_ n1_ n2_ n3_ n4_ n5_ n6_ n7_ n8_ n9_; clear hb ho29) | ((with_reducible refine gate_dst (N := 50) rfl ?_); (try (refine gate_guard (by rfl) ?_; dsimp only)); refine Kd.R_lit (Kd.int .u8) _ 5 ?hg (N := 50) ?hd (xs := ([97] : List Int)) (inner := [.int .u8 97]) (ok := fun _ => True) (okp := fun _ => True) ?hr ?hp (fun _ hk => hk) trivial (Below.refl _ _) (Nat.le_refl _) (by simp) ?_; (case hd => rfl); (case hg => rfl); (case hr => first | (go_simp; done) | (go_simp; rfl)); (case hp => exact (Reps.one (show Kd.M (Kd.int .u8) _ _ _ 97 [.int .u8 97] from rfl) (Reps.none _ _))); intro v146 w0_ ho0_ hb0_ hg0_ hn0_; clear hg0_; (try simp only [Act.put, List.setIfInBounds_toArray, List.set_cons_zero, List.set_cons_succ]); (try (refine gate_guard (by rfl) ?_; dsimp only)); refine Kd.V_mark (v := v146) rfl (N := 51) rfl rfl rfl Try.underlying35 Try.underlying5 ho0_ hb0_ hn0_ ?_; clear ho0_ hb0_ hn0_; intro w30 ho31 hb; (try simp only [Act.put, List.setIfInBounds_toArray, List.set_cons_zero, List.set_cons_succ]); rw [← Ny145.out] at ho31; have n0_ := Aside0.mk (Kd.V_below (by (with_reducible repeat (first | apply Kd.V_alloc | apply Kd.V_drewN | apply Kd.V_drew)); exact HO116.out) hb); have n1_ := Aside0.mk (Kd.N_below (by (with_reducible repeat (first | apply Kd.N_alloc | apply Kd.N_drewN | apply Kd.N_drew)); exact HO120.out) hb); have n2_ := Aside0.mk (Kd.V_below (by (with_reducible repeat (first | apply Kd.V_alloc | apply Kd.V_drewN | apply Kd.V_drew)); exact HO123.out) hb); have n3_ := Aside0.mk (Kd.N_below (by (with_reducible repeat (first | apply Kd.N_alloc | apply Kd.N_drewN | apply Kd.N_drew)); exact HO127.out) hb); have n4_ := Aside0.mk (Kd.N_below (by (with_reducible repeat (first | apply Kd.N_alloc | apply Kd.N_drewN | apply Kd.N_drew)); exact HO131.out) hb); have n5_ := Aside0.mk (Kd.N_below (by (with_reducible repeat (first | apply Kd.N_alloc | apply Kd.N_drewN | apply Kd.N_drew)); exact HO136.out) hb); have n6_ := Aside0.mk (Kd.R_below (by (with_reducible repeat (first | apply Kd.R_alloc | apply Kd.R_drewN | apply Kd.R_drew)); exact HO138.out) hb); have n7_ := Aside0.mk (Kd.V_below (by (with_reducible repeat (first | apply Kd.V_alloc | apply Kd.V_drewN | apply Kd.V_drew)); exact HO141.out) hb); have n8_ := Aside0.mk (Kd.V_below (by (with_reducible repeat (first | apply Kd.V_alloc | apply Kd.V_drewN | apply Kd.V_drew)); exact HO144.out) hb); have n9_ := Aside0.mk (Kd.V_lower (Kd.V_mono (ok' := fun k_ => some k_ ≠ (.slice Ao19 t117.length co19 : Value).ownBlock ∧ some k_ ≠ (.slice Ao22 t124.length co22 : Value).ownBlock ∧ some k_ ≠ (.slice Ao24 t128.length co24 : Value).ownBlock ∧ some k_ ≠ (v135 : Value).ownBlock ∧ some k_ ≠ (v137 : Value).ownBlock) ho31 (fun k_ hk_ => ⟨(Kd.fresh' (Kd.N_lt (by (with_reducible repeat (first | apply Kd.N_alloc | apply Kd.N_drewN | apply Kd.N_drew)); exact HO120.out)) k_ hk_), (Kd.fresh' (Kd.N_lt (by (with_reducible repeat (first | apply Kd.N_alloc | apply Kd.N_drewN | apply Kd.N_drew)); exact HO127.out)) k_ hk_), (Kd.fresh' (Kd.N_lt (by (with_reducible repeat (first | apply Kd.N_alloc | apply Kd.N_drewN | apply Kd.N_drew)); exact HO131.out)) k_ hk_), (Kd.fresh' (Kd.N_lt (by (with_reducible repeat (first | apply Kd.N_alloc | apply Kd.N_drewN | apply Kd.N_drew)); exact HO136.out)) k_ hk_), (Kd.fresh' (Kd.R_lt (by (with_reducible repeat (first | apply Kd.R_alloc | apply Kd.R_drewN | apply Kd.R_drew)); exact HO138.out)) k_ hk_)⟩)) (below_size (by repeat (first | (with_reducible first | exact HB.out | apply below_alloc | apply pw_below_drewN | apply below_drew1) | exact HB.out)))); have n10_ := Aside0.mk (below_step (by repeat (first | (with_reducible first | exact HB.out | apply below_alloc | apply pw_below_drewN | apply below_drew1) | exact HB.out)) hb); clear HO116; clear HO120; clear HO123; clear HO127; clear HO131; clear HO136; clear HO138; clear HO141; clear HO144; clear HB; have HO116 := n0_; have HO120 := n1_; have HO123 := n2_; have HO127 := n3_; have HO131 := n4_; have HO136 := n5_; have HO138 := n6_; have HO141 := n7_; have HO144 := n8_; have HO147 := n9_; have HB := n10_; clear n0_ n1_ n2_ n3_ n4_ n5_ n6_ n7_ n8_ n9_ n10_; clear hb ho31; obtain ⟨Ao32, co32, eo32⟩ := Kd.V_slice HO141.out; subst eo32; obtain ⟨Ao33, co33, eo33⟩ := Kd.V_slice HO144.out; subst eo33; obtain ⟨Ao34, co34, eo34⟩ := Kd.V_slice HO147.out; subst eo34) | ((with_reducible refine gate_dst (N := 52) rfl ?_); (try (refine gate_guard (by rfl) ?_; dsimp only)); refine Kd.N_lit (Kd.slice 5 (Kd.int .u8)) _ 35 ?hg (N' := 52) ?hd (xs := ([y139, y142, y145] : List (List Int))) (inner := [.slice Ao32 y139.length co32, .slice Ao33 y142.length co33, .slice Ao34 y145.length co34]) (ok := (fun k_ => some k_ ≠ (.slice Ao19 t117.length co19 : Value).ownBlock ∧ some k_ ≠ (.slice Ao22 t124.length co22 : Value).ownBlock ∧ some k_ ≠ (.slice Ao24 t128.length co24 : Value).ownBlock ∧ some k_ ≠ (v135 : Value).ownBlock ∧ some k_ ≠ (v137 : Value).ownBlock)) (okp := (fun k_ => some k_ ≠ (.slice Ao19 t117.length co19 : Value).ownBlock ∧ some k_ ≠ (.slice Ao22 t124.length co22 : Value).ownBlock ∧ some k_ ≠ (.slice Ao24 t128.length co24 : Value).ownBlock ∧ some k_ ≠ (v135 : Value).ownBlock ∧ some k_ ≠ (v137 : Value).ownBlock)) ?hr ?hp (fun _ hk => hk) ((show ∀ k_, w30.heap.size ≤ k_ → (fun k_ => some k_ ≠ (.slice Ao19 t117.length co19 : Value).ownBlock ∧ some k_ ≠ (.slice Ao22 t124.length co22 : Value).ownBlock ∧ some k_ ≠ (.slice Ao24 t128.length co24 : Value).ownBlock ∧ some k_ ≠ (v135 : Value).ownBlock ∧ some k_ ≠ (v137 : Value).ownBlock) k_ from fun k_ hk => ⟨Kd.fresh' (Kd.N_lt (by (with_reducible repeat (first | apply Kd.N_alloc | apply Kd.N_drewN | apply Kd.N_drew)); exact HO120.out)) k_ hk, Kd.fresh' (Kd.N_lt (by (with_reducible repeat (first | apply Kd.N_alloc | apply Kd.N_drewN | apply Kd.N_drew)); exact HO127.out)) k_ hk, Kd.fresh' (Kd.N_lt (by (with_reducible repeat (first | apply Kd.N_alloc | apply Kd.N_drewN | apply Kd.N_drew)); exact HO131.out)) k_ hk, Kd.fresh' (Kd.N_lt (by (with_reducible repeat (first | apply Kd.N_alloc | apply Kd.N_drewN | apply Kd.N_drew)); exact HO136.out)) k_ hk, Kd.fresh' (Kd.R_lt (by (with_reducible repeat (first | apply Kd.R_alloc | apply Kd.R_drewN | apply Kd.R_drew)); exact HO138.out)) k_ hk⟩) _ (Nat.le_refl _)) (Below.refl _ _) (Nat.le_refl _) (by simp) ?_; (case hd => rfl); (case hg => rfl); (case hr => first | (go_simp; done) | (go_simp; rfl)); (case hp => exact (Reps.one (show Kd.FK (Kd.slice 5 (Kd.int .u8)) _ _ y139 [.slice Ao32 y139.length co32] from (Kd.FK_slice_mk (Kd.V_reads' (have hQ_ := HO141.out; Kd.V_mono (ok' := (fun k_ => some k_ ≠ (.slice Ao19 t117.length co19 : Value).ownBlock ∧ some k_ ≠ (.slice Ao22 t124.length co22 : Value).ownBlock ∧ some k_ ≠ (.slice Ao24 t128.length co24 : Value).ownBlock ∧ some k_ ≠ (v135 : Value).ownBlock ∧ some k_ ≠ (v137 : Value).ownBlock)) hQ_ (fun k_ hk => ⟨hk.1, ⟨hk.2.1, ⟨hk.2.2.1, ⟨hk.2.2.2.1, hk.2.2.2.2⟩⟩⟩⟩))).2.1 (Kd.V_F (have hQ_ := HO141.out; Kd.V_mono (ok' := (fun k_ => some k_ ≠ (.slice Ao19 t117.length co19 : Value).ownBlock ∧ some k_ ≠ (.slice Ao22 t124.length co22 : Value).ownBlock ∧ some k_ ≠ (.slice Ao24 t128.length co24 : Value).ownBlock ∧ some k_ ≠ (v135 : Value).ownBlock ∧ some k_ ≠ (v137 : Value).ownBlock)) hQ_ (fun k_ hk => ⟨hk.1, ⟨hk.2.1, ⟨hk.2.2.1, ⟨hk.2.2.2.1, hk.2.2.2.2⟩⟩⟩⟩))))) (Reps.one (show Kd.FK (Kd.slice 5 (Kd.int .u8)) _ _ y142 [.slice Ao33 y142.length co33] from (Kd.FK_slice_mk (Kd.V_reads' (have hQ_ := HO144.out; Kd.V_mono (ok' := (fun k_ => some k_ ≠ (.slice Ao19 t117.length co19 : Value).ownBlock ∧ some k_ ≠ (.slice Ao22 t124.length co22 : Value).ownBlock ∧ some k_ ≠ (.slice Ao24 t128.length co24 : Value).ownBlock ∧ some k_ ≠ (v135 : Value).ownBlock ∧ some k_ ≠ (v137 : Value).ownBlock)) hQ_ (fun k_ hk => ⟨hk.1, ⟨hk.2.1, ⟨hk.2.2.1, ⟨hk.2.2.2.1, hk.2.2.2.2⟩⟩⟩⟩))).2.1 (Kd.V_F (have hQ_ := HO144.out; Kd.V_mono (ok' := (fun k_ => some k_ ≠ (.slice Ao19 t117.length co19 : Value).ownBlock ∧ some k_ ≠ (.slice Ao22 t124.length co22 : Value).ownBlock ∧ some k_ ≠ (.slice Ao24 t128.length co24 : Value).ownBlock ∧ some k_ ≠ (v135 : Value).ownBlock ∧ some k_ ≠ (v137 : Value).ownBlock)) hQ_ (fun k_ hk => ⟨hk.1, ⟨hk.2.1, ⟨hk.2.2.1, ⟨hk.2.2.2.1, hk.2.2.2.2⟩⟩⟩⟩))))) (Reps.one (show Kd.FK (Kd.slice 5 (Kd.int .u8)) _ _ y145 [.slice Ao34 y145.length co34] from (Kd.FK_slice_mk (Kd.V_reads' (have hQ_ := HO147.out; Kd.V_mono (ok' := (fun k_ => some k_ ≠ (.slice Ao19 t117.length co19 : Value).ownBlock ∧ some k_ ≠ (.slice Ao22 t124.length co22 : Value).ownBlock ∧ some k_ ≠ (.slice Ao24 t128.length co24 : Value).ownBlock ∧ some k_ ≠ (v135 : Value).ownBlock ∧ some k_ ≠ (v137 : Value).ownBlock)) hQ_ (fun k_ hk => ⟨hk.1, ⟨hk.2.1, ⟨hk.2.2.1, ⟨hk.2.2.2.1, hk.2.2.2.2⟩⟩⟩⟩))).2.1 (Kd.V_F (have hQ_ := HO147.out; Kd.V_mono (ok' := (fun k_ => some k_ ≠ (.slice Ao19 t117.length co19 : Value).ownBlock ∧ some k_ ≠ (.slice Ao22 t124.length co22 : Value).ownBlock ∧ some k_ ≠ (.slice Ao24 t128.length co24 : Value).ownBlock ∧ some k_ ≠ (v135 : Value).ownBlock ∧ some k_ ≠ (v137 : Value).ownBlock)) hQ_ (fun k_ hk => ⟨hk.1, ⟨hk.2.1, ⟨hk.2.2.1, ⟨hk.2.2.2.1, hk.2.2.2.2⟩⟩⟩⟩))))) (Reps.none _ _))))); intro v149 w35 ho36 hb hg_ hnew_; clear hg_ hnew_; (first | rw [← Ny148.out] at ho36 | (simp only [Int.reduceToNat] at ho36; rw [← Ny148.out] at ho36)); have n0_ := Aside0.mk (Kd.V_elder' (by (with_reducible repeat (first | apply Kd.V_alloc | apply Kd.V_drewN | apply Kd.V_drew)); exact HO116.out) (Kd.N_base ho36) hb); have n1_ := Aside0.mk (Kd.N_elder' (by (with_reducible repeat (first | apply Kd.N_alloc | apply Kd.N_drewN | apply Kd.N_drew)); exact HO120.out) (Kd.N_base ho36) hb); have n2_ := Aside0.mk (Kd.V_elder' (by (with_reducible repeat (first | apply Kd.V_alloc | apply Kd.V_drewN | apply Kd.V_drew)); exact HO123.out) (Kd.N_base ho36) hb); have n3_ := Aside0.mk (Kd.N_elder' (by (with_reducible repeat (first | apply Kd.N_alloc | apply Kd.N_drewN | apply Kd.N_drew)); exact HO127.out) (Kd.N_base ho36) hb); have n4_ := Aside0.mk (Kd.N_elder' (by (with_reducible repeat (first | apply Kd.N_alloc | apply Kd.N_drewN | apply Kd.N_drew)); exact HO131.out) (Kd.N_base ho36) hb); have n5_ := Aside0.mk (Kd.N_elder' (by (with_reducible repeat (first | apply Kd.N_alloc | apply Kd.N_drewN | apply Kd.N_drew)); exact HO136.out) (Kd.N_base ho36) hb); have n6_ := Aside0.mk (Kd.R_below (by (with_reducible repeat (first | apply Kd.R_alloc | apply Kd.R_drewN | apply Kd.R_drew)); exact HO138.out) hb); have n7_ := Aside0.mk (Kd.V_elder' (by (with_reducible repeat (first | apply Kd.V_alloc | apply Kd.V_drewN | apply Kd.V_drew)); exact HO141.out) (Kd.N_base ho36) hb); have n8_ := Aside0.mk (Kd.V_elder' (by (with_reducible repeat (first | apply Kd.V_alloc | apply Kd.V_drewN | apply Kd.V_drew)); exact HO144.out) (Kd.N_base ho36) hb); have n9_ := Aside0.mk (Kd.V_elder' (by (with_reducible repeat (first | apply Kd.V_alloc | apply Kd.V_drewN | apply Kd.V_drew)); exact HO147.out) (Kd.N_base ho36) hb); have n10_ := Aside0.mk (Kd.N_lower ho36 (below_size (by repeat (first | (with_reducible first | exact HB.out | apply below_alloc | apply pw_below_drewN | apply below_drew1) | exact HB.out)))); have n11_ := Aside0.mk (below_step (by repeat (first | (with_reducible first | exact HB.out | apply below_alloc | apply pw_below_drewN | apply below_drew1) | exact HB.out)) hb); clear HO116; clear HO120; clear HO123; clear HO127; clear HO131; clear HO136; clear HO138; clear HO141; clear HO144; clear HO147; clear HB; have HO116 := n0_; have HO120 := n1_; have HO123 := n2_; have HO127 := n3_; have HO131 := n4_; have HO136 := n5_; have HO138 := n6_; have HO141 := n7_; have HO144 := n8_; have HO147 := n9_; have HO150 := n10_; have HB := n11_; clear n0_ n1_ n2_ n3_ n4_ n5_ n6_ n7_ n8_ n9_ n10_ n11_; clear hb ho36; obtain ⟨Ao37, co37, eo37⟩ := Kd.N_slice HO150.out; subst eo37) | (go_at_call 26; (with_reducible refine (catamaranref04_SameAll.calls k _ _ t128 _ _ y148 true _ ?side1 ?side2 ?side3 ?side4 A8.out).mono ?_); (case side1 => repeat (first | exact (Kd.N_reads' HO131.out).2.2 | (with_reducible refine Kd.C_alloc ?_ _) | (with_reducible refine Kd.C_drewN ?_ _) | (with_reducible refine Kd.C_drew ?_))); (case side2 => exact (Kd.N_reads' HO131.out).2.1); (case side3 => repeat (first | exact (Kd.N_reads' HO150.out).2.2 | (with_reducible refine Kd.C_alloc ?_ _) | (with_reducible refine Kd.C_drewN ?_ _) | (with_reducible refine Kd.C_drew ?_))); (case side4 => exact (Kd.N_reads' HO150.out).2.1); rintro e w' ⟨rfl, ⟨nd, rfl⟩⟩; have hcv38 := own_string (P := Try.prog) Try.underlying35 Try.underlying5 Try.underlying9 (Kd.own_of_R HO138.out); have hcw38 := fun m_ => own_string (P := Try.prog) Try.underlying35 Try.underlying5 Try.underlying9 (Kd.own_of_R (Kd.R_drewN HO138.out m_))) | ((with_reducible refine gate_dst (N := 66) rfl ?_); (try (refine gate_guard (by rfl) ?_; dsimp only)); refine Kd.R_lit (Kd.int .u8) _ 5 ?hg (N := 66) ?hd (xs := ([97] : List Int)) (inner := [.int .u8 97]) (ok := fun _ => True) (okp := fun _ => True) ?hr ?hp (fun _ hk => hk) trivial (Below.refl _ _) (Nat.le_refl _) (by simp) ?_; (case hd => rfl); (case hg => rfl); (case hr => first | (go_simp; done) | (go_simp; rfl)); (case hp => exact (Reps.one (show Kd.M (Kd.int .u8) _ _ _ 97 [.int .u8 97] from rfl) (Reps.none _ _))); intro v153 w0_ ho0_ hb0_ hg0_ hn0_; clear hg0_; (try simp only [Act.put, List.setIfInBounds_toArray, List.set_cons_zero, List.set_cons_succ]); (try (refine gate_guard (by rfl) ?_; dsimp only)); refine Kd.V_mark (v := v153) rfl (N := 67) rfl rfl rfl Try.underlying35 Try.underlying5 ho0_ hb0_ hn0_ ?_; clear ho0_ hb0_ hn0_; intro w39 ho40 hb; (try simp only [Act.put, List.setIfInBounds_toArray, List.set_cons_zero, List.set_cons_succ]); rw [← Ny152.out] at ho40; have n0_ := Aside0.mk (Kd.V_below (by (with_reducible repeat (first | apply Kd.V_alloc | apply Kd.V_drewN | apply Kd.V_drew)); exact HO116.out) hb); have n1_ := Aside0.mk (Kd.N_below (by (with_reducible repeat (first | apply Kd.N_alloc | apply Kd.N_drewN | apply Kd.N_drew)); exact HO120.out) hb); have n2_ := Aside0.mk (Kd.V_below (by (with_reducible repeat (first | apply Kd.V_alloc | apply Kd.V_drewN | apply Kd.V_drew)); exact HO123.out) hb); have n3_ := Aside0.mk (Kd.N_below (by (with_reducible repeat (first | apply Kd.N_alloc | apply Kd.N_drewN | apply Kd.N_drew)); exact HO127.out) hb); have n4_ := Aside0.mk (Kd.N_below (by (with_reducible repeat (first | apply Kd.N_alloc | apply Kd.N_drewN | apply Kd.N_drew)); exact HO131.out) hb); have n5_ := Aside0.mk (Kd.N_below (by (with_reducible repeat (first | apply Kd.N_alloc | apply Kd.N_drewN | apply Kd.N_drew)); exact HO136.out) hb); have n6_ := Aside0.mk (Kd.R_below (by (with_reducible repeat (first | apply Kd.R_alloc | apply Kd.R_drewN | apply Kd.R_drew)); exact HO138.out) hb); have n7_ := Aside0.mk (Kd.V_below (by (with_reducible repeat (first | apply Kd.V_alloc | apply Kd.V_drewN | apply Kd.V_drew)); exact HO141.out) hb); have n8_ := Aside0.mk (Kd.V_below (by (with_reducible repeat (first | apply Kd.V_alloc | apply Kd.V_drewN | apply Kd.V_drew)); exact HO144.out) hb); have n9_ := Aside0.mk (Kd.V_below (by (with_reducible repeat (first | apply Kd.V_alloc | apply Kd.V_drewN | apply Kd.V_drew)); exact HO147.out) hb); have n10_ := Aside0.mk (Kd.N_below (by (with_reducible repeat (first | apply Kd.N_alloc | apply Kd.N_drewN | apply Kd.N_drew)); exact HO150.out) hb); have n11_ := Aside0.mk (Kd.V_lower (Kd.V_mono (ok' := fun k_ => some k_ ≠ (.slice Ao19 t117.length co19 : Value).ownBlock ∧ some k_ ≠ (.slice Ao22 t124.length co22 : Value).ownBlock ∧ some k_ ≠ (.slice Ao24 t128.length co24 : Value).ownBlock ∧ some k_ ≠ (v135 : Value).ownBlock ∧ some k_ ≠ (v137 : Value).ownBlock ∧ some k_ ≠ (.slice Ao37 y148.length co37 : Value).ownBlock) ho40 (fun k_ hk_ => ⟨(Kd.fresh' (Kd.N_lt (by (with_reducible repeat (first | apply Kd.N_alloc | apply Kd.N_drewN | apply Kd.N_drew)); exact HO120.out)) k_ hk_), (Kd.fresh' (Kd.N_lt (by (with_reducible repeat (first | apply Kd.N_alloc | apply Kd.N_drewN | apply Kd.N_drew)); exact HO127.out)) k_ hk_), (Kd.fresh' (Kd.N_lt (by (with_reducible repeat (first | apply Kd.N_alloc | apply Kd.N_drewN | apply Kd.N_drew)); exact HO131.out)) k_ hk_), (Kd.fresh' (Kd.N_lt (by (with_reducible repeat (first | apply Kd.N_alloc | apply Kd.N_drewN | apply Kd.N_drew)); exact HO136.out)) k_ hk_), (Kd.fresh' (Kd.R_lt (by (with_reducible repeat (first | apply Kd.R_alloc | apply Kd.R_drewN | apply Kd.R_drew)); exact HO138.out)) k_ hk_), (Kd.fresh' (Kd.N_lt (by (with_reducible repeat (first | apply Kd.N_alloc | apply Kd.N_drewN | apply Kd.N_drew)); exact HO150.out)) k_ hk_)⟩)) (below_size (by repeat (first | (with_reducible first | exact HB.out | apply below_alloc | apply pw_below_drewN | apply below_drew1) | exact HB.out)))); have n12_ := Aside0.mk (below_step (by repeat (first | (with_reducible first | exact HB.out | apply below_alloc | apply pw_below_drewN | apply below_drew1) | exact HB.out)) hb); clear HO116; clear HO120; clear HO123; clear HO127; clear HO131; clear HO136; clear HO138; clear HO141; clear HO144; clear HO147; clear HO150; clear HB; have HO116 := n0_; have HO120 := n1_; have HO123 := n2_; have HO127 := n3_; have HO131 := n4_; have HO136 := n5_; have HO138 := n6_; have HO141 := n7_; have HO144 := n8_; have HO147 := n9_; have HO150 := n10_; have HO154 := n11_; have HB := n12_; clear n0_ n1_ n2_ n3_ n4_ n5_ n6_ n7_ n8_ n9_ n10_ n11_ n12_; clear hb ho40) | ((with_reducible refine gate_dst (N := 68) rfl ?_); (try (refine gate_guard (by rfl) ?_; dsimp only)); refine Kd.R_lit (Kd.int .u8) _ 5 ?hg (N := 68) ?hd (xs := ([97] : List Int)) (inner := [.int .u8 97]) (ok := fun _ => True) (okp := fun _ => True) ?hr ?hp (fun _ hk => hk) trivial (Below.refl _ _) (Nat.le_refl _) (by simp) ?_; (case hd => rfl); (case hg => rfl); (case hr => first | (go_simp; done) | (go_simp; rfl)); (case hp => exact (Reps.one (show Kd.M (Kd.int .u8) _ _ _ 97 [.int .u8 97] from rfl) (Reps.none _ _))); intro v156 w0_ ho0_ hb0_ hg0_ hn0_; clear hg0_; (try simp only [Act.put, List.setIfInBounds_toArray, List.set_cons_zero, List.set_cons_succ]); (try (refine gate_guard (by rfl) ?_; dsimp only)); refine Kd.V_mark (v := v156) rfl (N := 69) rfl rfl rfl Try.underlying35 Try.underlying5 ho0_ hb0_ hn0_ ?_; clear ho0_ hb0_ hn0_; intro w41 ho42 hb; (try simp only [Act.put, List.setIfInBounds_toArray, List.set_cons_zero, List.set_cons_succ]); rw [← Ny155.out] at ho42; have n0_ := Aside0.mk (Kd.V_below (by (with_reducible repeat (first | apply Kd.V_alloc | apply Kd.V_drewN | apply Kd.V_drew)); exact HO116.out) hb); have n1_ := Aside0.mk (Kd.N_below (by (with_reducible repeat (first | apply Kd.N_alloc | apply Kd.N_drewN | apply Kd.N_drew)); exact HO120.out) hb); have n2_ := Aside0.mk (Kd.V_below (by (with_reducible repeat (first | apply Kd.V_alloc | apply Kd.V_drewN | apply Kd.V_drew)); exact HO123.out) hb); have n3_ := Aside0.mk (Kd.N_below (by (with_reducible repeat (first | apply Kd.N_alloc | apply Kd.N_drewN | apply Kd.N_drew)); exact HO127.out) hb); have n4_ := Aside0.mk (Kd.N_below (by (with_reducible repeat (first | apply Kd.N_alloc | apply Kd.N_drewN | apply Kd.N_drew)); exact HO131.out) hb); have n5_ := Aside0.mk (Kd.N_below (by (with_reducible repeat (first | apply Kd.N_alloc | apply Kd.N_drewN | apply Kd.N_drew)); exact HO136.out) hb); have n6_ := Aside0.mk (Kd.R_below (by (with_reducible repeat (first | apply Kd.R_alloc | apply Kd.R_drewN | apply Kd.R_drew)); exact HO138.out) hb); have n7_ := Aside0.mk (Kd.V_below (by (with_reducible repeat (first | apply Kd.V_alloc | apply Kd.V_drewN | apply Kd.V_drew)); exact HO141.out) hb); have n8_ := Aside0.mk (Kd.V_below (by (with_reducible repeat (first | apply Kd.V_alloc | apply Kd.V_drewN | apply Kd.V_drew)); exact HO144.out) hb); have n9_ := Aside0.mk (Kd.V_below (by (with_reducible repeat (first | apply Kd.V_alloc | apply Kd.V_drewN | apply Kd.V_drew)); exact HO147.out) hb); have n10_ := Aside0.mk (Kd.N_below (by (with_reducible repeat (first | apply Kd.N_alloc | apply Kd.N_drewN | apply Kd.N_drew)); exact HO150.out) hb); have n11_ := Aside0.mk (Kd.V_below (by (with_reducible repeat (first | apply Kd.V_alloc | apply Kd.V_drewN | apply Kd.V_drew)); exact HO154.out) hb); have n12_ := Aside0.mk (Kd.V_lower (Kd.V_mono (ok' := fun k_ => some k_ ≠ (.slice Ao19 t117.length co19 : Value).ownBlock ∧ some k_ ≠ (.slice Ao22 t124.length co22 : Value).ownBlock ∧ some k_ ≠ (.slice Ao24 t128.length co24 : Value).ownBlock ∧ some k_ ≠ (v135 : Value).ownBlock ∧ some k_ ≠ (v137 : Value).ownBlock ∧ some k_ ≠ (.slice Ao37 y148.length co37 : Value).ownBlock) ho42 (fun k_ hk_ => ⟨(Kd.fresh' (Kd.N_lt (by (with_reducible repeat (first | apply Kd.N_alloc | apply Kd.N_drewN | apply Kd.N_drew)); exact HO120.out)) k_ hk_), (Kd.fresh' (Kd.N_lt (by (with_reducible repeat (first | apply Kd.N_alloc | apply Kd.N_drewN | apply Kd.N_drew)); exact HO127.out)) k_ hk_), (Kd.fresh' (Kd.N_lt (by (with_reducible repeat (first | apply Kd.N_alloc | apply Kd.N_drewN | apply Kd.N_drew)); exact HO131.out)) k_ hk_), (Kd.fresh' (Kd.N_lt (by (with_reducible repeat (first | apply Kd.N_alloc | apply Kd.N_drewN | apply Kd.N_drew)); exact HO136.out)) k_ hk_), (Kd.fresh' (Kd.R_lt (by (with_reducible repeat (first | apply Kd.R_alloc | apply Kd.R_drewN | apply Kd.R_drew)); exact HO138.out)) k_ hk_), (Kd.fresh' (Kd.N_lt (by (with_reducible repeat (first | apply Kd.N_alloc | apply Kd.N_drewN | apply Kd.N_drew)); exact HO150.out)) k_ hk_)⟩)) (below_size (by repeat (first | (with_reducible first | exact HB.out | apply below_alloc | apply pw_below_drewN | apply below_drew1) | exact HB.out)))); have n13_ := Aside0.mk (below_step (by repeat (first | (with_reducible first | exact HB.out | apply below_alloc | apply pw_below_drewN | apply below_drew1) | exact HB.out)) hb); clear HO116; clear HO120; clear HO123; clear HO127; clear HO131; clear HO136; clear HO138; clear HO141; clear HO144; clear HO147; clear HO150; clear HO154; clear HB; have HO116 := n0_; have HO120 := n1_; have HO123 := n2_; have HO127 := n3_; have HO131 := n4_; have HO136 := n5_; have HO138 := n6_; have HO141 := n7_; have HO144 := n8_; have HO147 := n9_; have HO150 := n10_; have HO154 := n11_; have HO157 := n12_; have HB := n13_; clear n0_ n1_ n2_ n3_ n4_ n5_ n6_ n7_ n8_ n9_ n10_ n11_ n12_ n13_; clear hb ho42; obtain ⟨Ao43, co43, eo43⟩ := Kd.V_slice HO154.out; subst eo43; obtain ⟨Ao44, co44, eo44⟩ := Kd.V_slice HO157.out; subst eo44) | ((with_reducible refine gate_dst (N := 70) rfl ?_); (try (refine gate_guard (by rfl) ?_; dsimp only)); refine Kd.N_lit (Kd.slice 5 (Kd.int .u8)) _ 35 ?hg (N' := 70) ?hd (xs := ([y152, y155] : List (List Int))) (inner := [.slice Ao43 y152.length co43, .slice Ao44 y155.length co44]) (ok := (fun k_ => some k_ ≠ (.slice Ao19 t117.length co19 : Value).ownBlock ∧ some k_ ≠ (.slice Ao22 t124.length co22 : Value).ownBlock ∧ some k_ ≠ (.slice Ao24 t128.length co24 : Value).ownBlock ∧ some k_ ≠ (v135 : Value).ownBlock ∧ some k_ ≠ (v137 : Value).ownBlock ∧ some k_ ≠ (.slice Ao37 y148.length co37 : Value).ownBlock)) (okp := (fun k_ => some k_ ≠ (.slice Ao19 t117.length co19 : Value).ownBlock ∧ some k_ ≠ (.slice Ao22 t124.length co22 : Value).ownBlock ∧ some k_ ≠ (.slice Ao24 t128.length co24 : Value).ownBlock ∧ some k_ ≠ (v135 : Value).ownBlock ∧ some k_ ≠ (v137 : Value).ownBlock ∧ some k_ ≠ (.slice Ao37 y148.length co37 : Value).ownBlock)) ?hr ?hp (fun _ hk => hk) ((show ∀ k_, w41.heap.size ≤ k_ → (fun k_ => some k_ ≠ (.slice Ao19 t117.length co19 : Value).ownBlock ∧ some k_ ≠ (.slice Ao22 t124.length co22 : Value).ownBlock ∧ some k_ ≠ (.slice Ao24 t128.length co24 : Value).ownBlock ∧ some k_ ≠ (v135 : Value).ownBlock ∧ some k_ ≠ (v137 : Value).ownBlock ∧ some k_ ≠ (.slice Ao37 y148.length co37 : Value).ownBlock) k_ from fun k_ hk => ⟨Kd.fresh' (Kd.N_lt (by (with_reducible repeat (first | apply Kd.N_alloc | apply Kd.N_drewN | apply Kd.N_drew)); exact HO120.out)) k_ hk, Kd.fresh' (Kd.N_lt (by (with_reducible repeat (first | apply Kd.N_alloc | apply Kd.N_drewN | apply Kd.N_drew)); exact HO127.out)) k_ hk, Kd.fresh' (Kd.N_lt (by (with_reducible repeat (first | apply Kd.N_alloc | apply Kd.N_drewN | apply Kd.N_drew)); exact HO131.out)) k_ hk, Kd.fresh' (Kd.N_lt (by (with_reducible repeat (first | apply Kd.N_alloc | apply Kd.N_drewN | apply Kd.N_drew)); exact HO136.out)) k_ hk, Kd.fresh' (Kd.R_lt (by (with_reducible repeat (first | apply Kd.R_alloc | apply Kd.R_drewN | apply Kd.R_drew)); exact HO138.out)) k_ hk, Kd.fresh' (Kd.N_lt (by (with_reducible repeat (first | apply Kd.N_alloc | apply Kd.N_drewN | apply Kd.N_drew)); exact HO150.out)) k_ hk⟩) _ (Nat.le_refl _)) (Below.refl _ _) (Nat.le_refl _) (by simp) ?_; (case hd => rfl); (case hg => rfl); (case hr => first | (go_simp; done) | (go_simp; rfl)); (case hp => exact (Reps.one (show Kd.FK (Kd.slice 5 (Kd.int .u8)) _ _ y152 [.slice Ao43 y152.length co43] from (Kd.FK_slice_mk (Kd.V_reads' (have hQ_ := HO154.out; Kd.V_mono (ok' := (fun k_ => some k_ ≠ (.slice Ao19 t117.length co19 : Value).ownBlock ∧ some k_ ≠ (.slice Ao22 t124.length co22 : Value).ownBlock ∧ some k_ ≠ (.slice Ao24 t128.length co24 : Value).ownBlock ∧ some k_ ≠ (v135 : Value).ownBlock ∧ some k_ ≠ (v137 : Value).ownBlock ∧ some k_ ≠ (.slice Ao37 y148.length co37 : Value).ownBlock)) hQ_ (fun k_ hk => ⟨hk.1, ⟨hk.2.1, ⟨hk.2.2.1, ⟨hk.2.2.2.1, ⟨hk.2.2.2.2.1, hk.2.2.2.2.2⟩⟩⟩⟩⟩))).2.1 (Kd.V_F (have hQ_ := HO154.out; Kd.V_mono (ok' := (fun k_ => some k_ ≠ (.slice Ao19 t117.length co19 : Value).ownBlock ∧ some k_ ≠ (.slice Ao22 t124.length co22 : Value).ownBlock ∧ some k_ ≠ (.slice Ao24 t128.length co24 : Value).ownBlock ∧ some k_ ≠ (v135 : Value).ownBlock ∧ some k_ ≠ (v137 : Value).ownBlock ∧ some k_ ≠ (.slice Ao37 y148.length co37 : Value).ownBlock)) hQ_ (fun k_ hk => ⟨hk.1, ⟨hk.2.1, ⟨hk.2.2.1, ⟨hk.2.2.2.1, ⟨hk.2.2.2.2.1, hk.2.2.2.2.2⟩⟩⟩⟩⟩))))) (Reps.one (show Kd.FK (Kd.slice 5 (Kd.int .u8)) _ _ y155 [.slice Ao44 y155.length co44] from (Kd.FK_slice_mk (Kd.V_reads' (have hQ_ := HO157.out; Kd.V_mono (ok' := (fun k_ => some k_ ≠ (.slice Ao19 t117.length co19 : Value).ownBlock ∧ some k_ ≠ (.slice Ao22 t124.length co22 : Value).ownBlock ∧ some k_ ≠ (.slice Ao24 t128.length co24 : Value).ownBlock ∧ some k_ ≠ (v135 : Value).ownBlock ∧ some k_ ≠ (v137 : Value).ownBlock ∧ some k_ ≠ (.slice Ao37 y148.length co37 : Value).ownBlock)) hQ_ (fun k_ hk => ⟨hk.1, ⟨hk.2.1, ⟨hk.2.2.1, ⟨hk.2.2.2.1, ⟨hk.2.2.2.2.1, hk.2.2.2.2.2⟩⟩⟩⟩⟩))).2.1 (Kd.V_F (have hQ_ := HO157.out; Kd.V_mono (ok' := (fun k_ => some k_ ≠ (.slice Ao19 t117.length co19 : Value).ownBlock ∧ some k_ ≠ (.slice Ao22 t124.length co22 : Value).ownBlock ∧ some k_ ≠ (.slice Ao24 t128.length co24 : Value).ownBlock ∧ some k_ ≠ (v135 : Value).ownBlock ∧ some k_ ≠ (v137 : Value).ownBlock ∧ some k_ ≠ (.slice Ao37 y148.length co37 : Value).ownBlock)) hQ_ (fun k_ hk => ⟨hk.1, ⟨hk.2.1, ⟨hk.2.2.1, ⟨hk.2.2.2.1, ⟨hk.2.2.2.2.1, hk.2.2.2.2.2⟩⟩⟩⟩⟩))))) (Reps.none _ _)))); intro v159 w45 ho46 hb hg_ hnew_; clear hg_ hnew_; (first | rw [← Ny158.out] at ho46 | (simp only [Int.reduceToNat] at ho46; rw [← Ny158.out] at ho46)); have n0_ := Aside0.mk (Kd.V_elder' (by (with_reducible repeat (first | apply Kd.V_alloc | apply Kd.V_drewN | apply Kd.V_drew)); exact HO116.out) (Kd.N_base ho46) hb); have n1_ := Aside0.mk (Kd.N_elder' (by (with_reducible repeat (first | apply Kd.N_alloc | apply Kd.N_drewN | apply Kd.N_drew)); exact HO120.out) (Kd.N_base ho46) hb); have n2_ := Aside0.mk (Kd.V_elder' (by (with_reducible repeat (first | apply Kd.V_alloc | apply Kd.V_drewN | apply Kd.V_drew)); exact HO123.out) (Kd.N_base ho46) hb); have n3_ := Aside0.mk (Kd.N_elder' (by (with_reducible repeat (first | apply Kd.N_alloc | apply Kd.N_drewN | apply Kd.N_drew)); exact HO127.out) (Kd.N_base ho46) hb); have n4_ := Aside0.mk (Kd.N_elder' (by (with_reducible repeat (first | apply Kd.N_alloc | apply Kd.N_drewN | apply Kd.N_drew)); exact HO131.out) (Kd.N_base ho46) hb); have n5_ := Aside0.mk (Kd.N_elder' (by (with_reducible repeat (first | apply Kd.N_alloc | apply Kd.N_drewN | apply Kd.N_drew)); exact HO136.out) (Kd.N_base ho46) hb); have n6_ := Aside0.mk (Kd.R_below (by (with_reducible repeat (first | apply Kd.R_alloc | apply Kd.R_drewN | apply Kd.R_drew)); exact HO138.out) hb); have n7_ := Aside0.mk (Kd.V_elder' (by (with_reducible repeat (first | apply Kd.V_alloc | apply Kd.V_drewN | apply Kd.V_drew)); exact HO141.out) (Kd.N_base ho46) hb); have n8_ := Aside0.mk (Kd.V_elder' (by (with_reducible repeat (first | apply Kd.V_alloc | apply Kd.V_drewN | apply Kd.V_drew)); exact HO144.out) (Kd.N_base ho46) hb); have n9_ := Aside0.mk (Kd.V_elder' (by (with_reducible repeat (first | apply Kd.V_alloc | apply Kd.V_drewN | apply Kd.V_drew)); exact HO147.out) (Kd.N_base ho46) hb); have n10_ := Aside0.mk (Kd.N_elder' (by (with_reducible repeat (first | apply Kd.N_alloc | apply Kd.N_drewN | apply Kd.N_drew)); exact HO150.out) (Kd.N_base ho46) hb); have n11_ := Aside0.mk (Kd.V_elder' (by (with_reducible repeat (first | apply Kd.V_alloc | apply Kd.V_drewN | apply Kd.V_drew)); exact HO154.out) (Kd.N_base ho46) hb); have n12_ := Aside0.mk (Kd.V_elder' (by (with_reducible repeat (first | apply Kd.V_alloc | apply Kd.V_drewN | apply Kd.V_drew)); exact HO157.out) (Kd.N_base ho46) hb); have n13_ := Aside0.mk (Kd.N_lower ho46 (below_size (by repeat (first | (with_reducible first | exact HB.out | apply below_alloc | apply pw_below_drewN | apply below_drew1) | exact HB.out)))); have n14_ := Aside0.mk (below_step (by repeat (first | (with_reducible first | exact HB.out | apply below_alloc | apply pw_below_drewN | apply below_drew1) | exact HB.out)) hb); clear HO116; clear HO120; clear HO123; clear HO127; clear HO131; clear HO136; clear HO138; clear HO141; clear HO144; clear HO147; clear HO150; clear HO154; clear HO157; clear HB; have HO116 := n0_; have HO120 := n1_; have HO123 := n2_; have HO127 := n3_; have HO131 := n4_; have HO136 := n5_; have HO138 := n6_; have HO141 := n7_; have HO144 := n8_; have HO147 := n9_; have HO150 := n10_; have HO154 := n11_; have HO157 := n12_; have HO160 := n13_; have HB := n14_; clear n0_ n1_ n2_ n3_ n4_ n5_ n6_ n7_ n8_ n9_ n10_ n11_ n12_ n13_ n14_; clear hb ho46; obtain ⟨Ao47, co47, eo47⟩ := Kd.N_slice HO136.out; subst eo47; obtain ⟨Ao48, co48, eo48⟩ := Kd.N_slice HO160.out; subst eo48) | (go_at_call 26; (with_reducible refine (catamaranref04_SameAll.calls k _ _ t132 _ _ y158 t161 _ ?side1 ?side2 ?side3 ?side4 A12.out).mono ?_); (case side1 => repeat (first | exact (Kd.N_reads' HO136.out).2.2 | (with_reducible refine Kd.C_alloc ?_ _) | (with_reducible refine Kd.C_drewN ?_ _) | (with_reducible refine Kd.C_drew ?_))); (case side2 => exact (Kd.N_reads' HO136.out).2.1); (case side3 => repeat (first | exact (Kd.N_reads' HO160.out).2.2 | (with_reducible refine Kd.C_alloc ?_ _) | (with_reducible refine Kd.C_drewN ?_ _) | (with_reducible refine Kd.C_drew ?_))); (case side4 => exact (Kd.N_reads' HO160.out).2.1); rintro e w' ⟨rfl, ⟨nd, rfl⟩⟩))
              go_ret
              exact ⟨by first | rfl | (simp [errW_none, errW_some] <;> rfl) | (simp [*, errW_none, errW_some] <;> rfl), by repeat (first | (with_reducible first | exact HB.out | apply below_alloc | apply pw_below_drewN | apply below_drew1) | exact HB.out)⟩
            · rw [if_neg c11] at H
              have c11b0 : ((strOfNums t133).toList == ([98] : List UInt8)) = false := beq_eq_false_iff_ne.mpr c11
              have c11b1 : ((strOfNums t133).toList != ([98] : List UInt8)) = true := bne_iff_ne.mpr c11
              exact absurd ((Option.some.inj H).trans hT_.out) (by decide)
          · rw [if_neg c10] at H
            have c10b0 : (t134 == 0) = false := beq_eq_false_iff_ne.mpr c10
            have c10b1 : (t134 != 0) = true := bne_iff_ne.mpr c10
            exact absurd ((Option.some.inj H).trans hT_.out) (by decide)
        · replace c9 := Bool.eq_false_iff.mpr c9
          subst c9
          have H1 : (some false) = some r := by rw [if_neg (show ¬ (false = true) by decide)] at H; exact H
          clear H
          have H := H1
          clear H1
          exact absurd ((Option.some.inj H).trans hT_.out) (by decide)
      · rw [if_neg c7] at H
        have c7b0 : (t129 == 0) = false := beq_eq_false_iff_ne.mpr c7
        have c7b1 : (t129 != 0) = true := bne_iff_ne.mpr c7
        exact absurd ((Option.some.inj H).trans hT_.out) (by decide)
    · rw [if_neg c6] at H
      have c6b0 : (t125 == 0) = false := beq_eq_false_iff_ne.mpr c6
      have c6b1 : (t125 != 0) = true := bne_iff_ne.mpr c6
      exact absurd ((Option.some.inj H).trans hT_.out) (by decide)
  · rw [if_neg c5] at H
    have c5b0 : (t118 == 0) = false := beq_eq_false_iff_ne.mpr c5
    have c5b1 : (t118 != 0) = true := bne_iff_ne.mpr c5
    exact absurd ((Option.some.inj H).trans hT_.out) (by decide)

end Go.Proofs.Ytnphfekbnbnilaa.PNt
