-- written by wip/myprint.py out of the translation
import Derived.Test.YtanpdbdpphdblaaPRqx0
import Derived.Test.YtanpdbdpphdblaaPRqx1
import Derived.Test.YtanpdbdpphdblaaPRqx2
namespace Go.Proofs.Ytanpdbdpphdblaa.PRq
open Go.RowKit Go.Proofs.YtanpdbdpphdblaaW.PrintWords Go.Proofs.YtanpdbdpphdblaaW.PrintLast Go.Proofs.YtanpdbdpphdblaaW.PrintMore
open Go.Proofs.Ytanpdbdpphdblaa.Kit Go.Proofs.Ytanpdbdpphdblaa.NumMath Go.Proofs.Ytanpdbdpphdblaa.NumWalk
attribute [local go_sem] max2_int min2_int max_two min_two max_three min_three max_four min_four   -- for this text's walks alone
set_option linter.unusedVariables false
set_option linter.unusedSimpArgs false

/-! ### num_Read: function 36 -/
mutual
def num_Read.l0 : Nat → List Int → List Int → List Int → Int → Int → Option (List Int × Int)
  | 0, _, _, _, _, _ => none
  | k + 1, x0, x8, x28, x29, x30 => if x30 < x29 then (if 0 ≤ x30 then (if x30 < (x28.length : Int) then (if 0 ≤ (rd x28 x30) then (if (rd x28 x30) ≤ (x0.length : Int) then ((some (x0.take ((rd x28 x30) : Int).toNat : List Int)).bind fun y157 => (num_Read.l1 k x0 x8 x30 (rd x28 x30) x28 x29 x30 y157 (y157.length : Int) 0)) else (none)) else (none)) else (none)) else (none)) else (some (x8, 0))
def num_Read.l1 : Nat → List Int → List Int → Int → Int → List Int → Int → Int → List Int → Int → Int → Option (List Int × Int)
  | 0, _, _, _, _, _, _, _, _, _, _ => none
  | k + 1, x0, x8, x9, x10, x28, x29, x30, x38, x39, x40 => if x40 < x39 then (if 0 ≤ x40 then (if x40 < (x38.length : Int) then (if 0 ≤ x9 then (if x9 < (x8.length : Int) then (num_Read.l1 k x0 (x8.set (x9 : Int).toNat (Go.bits .or .u64 (IntKind.u64.wrap ((rd x8 x9) * 256)) (IntKind.u64.wrap (rd x38 x40)))) x9 x10 x28 x29 x30 x38 x39 (wrap64 (x40 + 1))) else (none)) else (none)) else (none)) else (none)) else (if 0 ≤ x10 then (if x10 ≤ (x0.length : Int) then (num_Read.l0 k (x0.drop (x10 : Int).toNat) x8 x28 x29 (wrap64 (x30 + 1))) else (none)) else (none))
end
def num_Read.f (k : Nat) (l0 : List Int) (l1 : List Int) : Option (List Int × Int) := (num_Size.f k l1).bind fun bt151 => (if bt151.2 = 0 then (if (l0.length : Int) = bt151.1 then (if 0 ≤ (l1.length : Int) then (if ((l1.length : Int) : Int).toNat ≤ 35184372088832 then (num_Read.l0 k l0 (List.replicate ((l1.length : Int) : Int).toNat 0) l1 (l1.length : Int) 0) else (none)) else (none)) else (some (([] : List Int), 10))) else (some (([] : List Int), bt151.2)))
theorem num_Read.mono_l : ∀ k, (∀ y0 y1 y2 y3 y4, LeO (num_Read.l0 k y0 y1 y2 y3 y4) (num_Read.l0 (k + 1) y0 y1 y2 y3 y4)) ∧ (∀ y0 y1 y2 y3 y4 y5 y6 y7 y8 y9, LeO (num_Read.l1 k y0 y1 y2 y3 y4 y5 y6 y7 y8 y9) (num_Read.l1 (k + 1) y0 y1 y2 y3 y4 y5 y6 y7 y8 y9))
  | 0 => ⟨fun _ _ _ _ _ r h => by simp [num_Read.l0] at h, fun _ _ _ _ _ _ _ _ _ _ r h => by simp [num_Read.l1] at h⟩
  | k + 1 => by
    obtain ⟨ih0, ih1⟩ := num_Read.mono_l k
    refine ⟨?_, ?_⟩
    · intro y0 y1 y2 y3 y4
      unfold num_Read.l0
      repeat' first
      | (with_reducible exact ih0 _ _ _ _ _)
      | (with_reducible exact ih1 _ _ _ _ _ _ _ _ _ _)
      | (with_reducible exact num_Size.mono _ _)
      | (with_reducible exact LeO.refl _)
      | (with_reducible exact LeO.none _)
      | (with_reducible refine LeO.ite ?_ ?_)
      | (with_reducible refine LeO.bind ?_ (fun _ => ?_))
      | exact ih0 _ _ _ _ _
      | exact ih1 _ _ _ _ _ _ _ _ _ _
      | exact num_Size.mono _ _
      | exact LeO.none _
      | refine LeO.ite ?_ ?_
      | refine LeO.bind ?_ (fun _ => ?_)
    · intro y0 y1 y2 y3 y4 y5 y6 y7 y8 y9
      unfold num_Read.l1
      repeat' first
      | (with_reducible exact ih0 _ _ _ _ _)
      | (with_reducible exact ih1 _ _ _ _ _ _ _ _ _ _)
      | (with_reducible exact num_Size.mono _ _)
      | (with_reducible exact LeO.refl _)
      | (with_reducible exact LeO.none _)
      | (with_reducible refine LeO.ite ?_ ?_)
      | (with_reducible refine LeO.bind ?_ (fun _ => ?_))
      | exact ih0 _ _ _ _ _
      | exact ih1 _ _ _ _ _ _ _ _ _ _
      | exact num_Size.mono _ _
      | exact LeO.none _
      | refine LeO.ite ?_ ?_
      | refine LeO.bind ?_ (fun _ => ?_)
theorem num_Read.mono : ∀ a0 a1 k, LeO (num_Read.f k a0 a1) (num_Read.f (k + 1) a0 a1) := by
  intro a0 a1 k
  obtain ⟨ih0, ih1⟩ := num_Read.mono_l k
  unfold num_Read.f
  repeat' first
      | (with_reducible exact ih0 _ _ _ _ _)
      | (with_reducible exact ih1 _ _ _ _ _ _ _ _ _ _)
      | (with_reducible exact num_Size.mono _ _)
      | (with_reducible exact LeO.refl _)
      | (with_reducible exact LeO.none _)
      | (with_reducible refine LeO.ite ?_ ?_)
      | (with_reducible refine LeO.bind ?_ (fun _ => ?_))
      | exact ih0 _ _ _ _ _
      | exact ih1 _ _ _ _ _ _ _ _ _ _
      | exact num_Size.mono _ _
      | exact LeO.none _
      | refine LeO.ite ?_ ?_
      | refine LeO.bind ?_ (fun _ => ?_)
set_option maxHeartbeats 8000000 in
set_option maxRecDepth 100000 in
theorem num_Read.callsV (k : Nat) (P0_ : Nat → Prop) (A0 : Option Addr) (c0 : Nat) (l0 : List Int) (A1 : Option Addr) (c1 : Nat) (l1 : List Int) (r1 : List Int) (r2 : Int) (w : World) (hs0 : Kd.V (Kd.int .u8) 5 w w.heap.size (fun k_ => P0_ k_) (.slice A0 l0.length c0) l0) (hr1 : Kd.C (Kd.int .i64) w A1 l1.length l1) (hc1 : l1.length ≤ c1) (h : num_Read.f k l0 l1 = some (r1, r2)) :
    Calls Try.prog 36 #[.slice A0 l0.length c0, .slice A1 l1.length c1] w fun e w' => ∃ v0_ : Value, e = .returned (.tuple #[v0_, .int .i64 r2]) ∧ Kd.R (Kd.int .u64) 63 w' w.heap.size (fun k_ => (w.heap.size ≤ k_)) v0_ r1 ∧ Below w.heap.size w w' := by
  have HO0 := Aside0.mk (show Kd.V (Kd.int .u8) 5 w w.heap.size (fun k_ => (P0_ k_ ∨ w.heap.size ≤ k_)) (.slice A0 l0.length c0) l0 from Kd.V_mono hs0 (fun k_ hk => .inl hk))
  have HR1 := Aside0.mk hr1
  have HC1 := Aside0.mk hc1
  clear hr1 hc1
  have HB := Aside0.mk (Below.refl w.heap.size w)
  have H : ((num_Size.f k l1).bind fun bt151 => (if bt151.2 = 0 then (if (l0.length : Int) = bt151.1 then (if 0 ≤ (l1.length : Int) then (if ((l1.length : Int) : Int).toNat ≤ 35184372088832 then (num_Read.l0 k l0 (List.replicate ((l1.length : Int) : Int).toNat 0) l1 (l1.length : Int) 0) else (none)) else (none)) else (some (([] : List Int), 10))) else (some (([] : List Int), bt151.2)))) = some (r1, r2) := h
  clear h
  replace H := Option.bind_eq_some_iff.mp H
  obtain ⟨⟨t151, t152⟩, A30, H⟩ := H
  replace H : (if t152 = 0 then (if (l0.length : Int) = t151 then (if 0 ≤ (l1.length : Int) then (if ((l1.length : Int) : Int).toNat ≤ 35184372088832 then (num_Read.l0 k l0 (List.replicate ((l1.length : Int) : Int).toNat 0) l1 (l1.length : Int) 0) else (none)) else (none)) else (some (([] : List Int), 10))) else (some (([] : List Int), t152))) = some (r1, r2) := H
  have A3 := Aside0.mk A30
  clear A30
  by_cases c4 : t152 = 0
  · rw [if_pos c4] at H
    have c4b0 : (t152 == 0) = true := beq_iff_eq.mpr c4
    have c4b1 : (t152 != 0) = false := bne_eq_false_iff_eq.mpr c4
    clear c4
    by_cases c5 : (l0.length : Int) = t151
    · rw [if_pos c5] at H
      have c5b0 : ((l0.length : Int) == t151) = true := beq_iff_eq.mpr c5
      have c5b1 : ((l0.length : Int) != t151) = false := bne_eq_false_iff_eq.mpr c5
      clear c5
      by_cases c6 : 0 ≤ (l1.length : Int)
      · rw [if_pos c6] at H
        have c6b0 := eq_true c6
        have c6b1 : decide (0 ≤ (l1.length : Int)) = true := decide_eq_true c6
        clear c6
        by_cases c7 : ((l1.length : Int) : Int).toNat ≤ 35184372088832
        · rw [if_pos c7] at H
          have c7b0 := eq_true c7
          have c7b1 : decide (((l1.length : Int) : Int).toNat ≤ 35184372088832) = true := decide_eq_true c7
          clear c7
          obtain ⟨y153, hy153⟩ : ∃ y_ : List Int, y_ = (List.replicate ((l1.length : Int) : Int).toNat 0) := ⟨_, rfl⟩
          replace H : (num_Read.l0 k l0 y153 l1 (l1.length : Int) 0) = some (r1, r2) := by first | (rw [hy153]; with_reducible exact H) | (have H2_ := (Option.bind_some _ _).symm.trans H; rw [hy153]; with_reducible exact H2_) | (have H2_ := (Option.bind_some _ _).symm.trans H; with_reducible exact H2_) | with_reducible exact H | (rw [hy153]; exact H) | exact H
          have Ny153 := Aside0.mk hy153
          clear hy153
          have H' := Aside0.mk H
          clear H
          go_enter Try.func36, Try.ntmps36
          go_wp2_with (first | ((with_reducible refine gate_callee (f := 49) rfl ?_); refine goesL_ (some 15) rfl rfl Try.func49 (by kernel_rfl) rfl #[.slice A1 l1.length c1] rfl (by (try simp only [List.map_toArray, List.map_cons, List.map_nil]); first | done | rfl | (simp only [List.length_drop, List.length_take]; rfl)) ?_; (with_reducible refine (num_Size.calls k _ _ l1 t151 t152 _ ?side1 ?side2 A3.out).mono ?_); (case side1 => repeat (first | exact HR1.out | (with_reducible refine Kd.C_alloc ?_ _) | (with_reducible refine Kd.C_drewN ?_ _) | (with_reducible refine Kd.C_drew ?_))); (case side2 => exact HC1.out); rintro e w' ⟨rfl, ⟨nd, rfl⟩⟩; refine ⟨_, rfl, ?_⟩) | ((with_reducible refine gate_dst (N := 27) rfl ?_); refine Kd.R_make (Kd.int .u64) _ 63 rfl (N := 27) rfl 64 _ _ rfl (l1.length : Int) rfl rfl Try.underlying64 (.int .u64 0) 8 info63 rfl (by decide) (by omega) 0 (ok := fun _ => True) (okp := fun _ => True) rfl (fun _ hk => hk) trivial (of_decide_eq_true (by first | (with_reducible assumption) | assumption)) (Nat.le_trans (Nat.mul_le_mul_right _ (of_decide_eq_true (by first | (with_reducible assumption) | assumption) : (l1.length : Int).toNat ≤ 35184372088832)) (by omega)) (Below.refl _ _) (Nat.le_refl _) ?_; intro v154 w8 ho9 hb hg_ hnew_; clear hg_ hnew_; (first | rw [← Ny153.out] at ho9 | (simp only [Int.reduceToNat] at ho9; rw [← Ny153.out] at ho9)); have n0_ := Aside0.mk (Kd.V_elder' (by (with_reducible repeat (first | apply Kd.V_alloc | apply Kd.V_drewN | apply Kd.V_drew)); exact HO0.out) (Kd.R_base ho9) hb); have n1_ := Aside0.mk (Kd.R_lower (Kd.R_newM (M := fun k_ => (w.heap.size ≤ k_)) ho9 (below_size (by repeat (first | (with_reducible first | exact HB.out | apply below_alloc | apply pw_below_drewN | apply below_drew1) | exact HB.out))) (fun k_ h_ => h_)) (below_size (by repeat (first | (with_reducible first | exact HB.out | apply below_alloc | apply pw_below_drewN | apply below_drew1) | exact HB.out)))); have n2_ := Aside0.mk (below_step (by repeat (first | (with_reducible first | exact HB.out | apply below_alloc | apply pw_below_drewN | apply below_drew1) | exact HB.out)) hb); clear HO0; clear HB; have HO0 := n0_; have HO155 := n1_; have HB := n2_; clear n0_ n1_ n2_; clear hb ho9))
          go_loopg [0, 30] k (fun kq v0 v30 w' => ∃ (x0_1 : List Int) (x8_1 : List Int) (x30_1 : Int), v30 = .int .i64 x30_1 ∧ Aside0 (num_Read.l0 kq x0_1 x8_1 l1 (l1.length : Int) x30_1 = some (r1, r2)) ∧ Aside0 (kq ≤ k) ∧ Aside0 (Kd.V (Kd.int .u8) 5 w' w.heap.size (fun k_ => (P0_ k_ ∨ w.heap.size ≤ k_) ∧ some k_ ≠ (v154 : Value).ownBlock) v0 x0_1) ∧ Aside0 (Kd.R (Kd.int .u64) 63 w' w.heap.size (fun k_ => (w.heap.size ≤ k_)) v154 x8_1) ∧ Aside0 (Below w.heap.size w w'))
          case atStart => exact ⟨(l0), (y153), (0), (by first | rfl | (simp; done) | (simp [*]; done)), H', ⟨Nat.le_refl _⟩, ⟨by (with_reducible repeat (first | apply Kd.V_alloc | apply Kd.V_drewN | apply Kd.V_drew)); exact HO0.out⟩, ⟨by (with_reducible repeat (first | apply Kd.R_alloc | apply Kd.R_drewN | apply Kd.R_drew)); exact Kd.R_mono HO155.out (fun _ hk => hk.1)⟩, ⟨by repeat (first | (with_reducible first | exact HB.out | apply below_alloc | apply pw_below_drewN | apply below_drew1) | exact HB.out)⟩⟩
          case round =>
            clear H'
            try clear c1
            try clear p2
            try clear c3
            try clear c4
            try clear c4b0
            try clear c4b1
            try clear c5
            try clear c5b0
            try clear c5b1
            try clear c6
            try clear c6b0
            try clear c6b1
            try clear c7
            try clear c7b0
            try clear c7b1
            obtain ⟨x0_1, x8_1, x30_1, rfl, HA, HK1, HO_0, HO_8, HB⟩ := hrel
            cases gk with
            | zero => exact absurd HA.out (by simp [num_Read.l0])
            | succ k1 =>
              have H := HA.out
              clear HA
              simp only [num_Read.l0] at H
              by_cases c10 : x30_1 < (l1.length : Int)
              · rw [if_pos c10] at H
                have c10b0 : decide (x30_1 < (l1.length : Int)) = true := decide_eq_true c10
                clear c10
                by_cases c11 : 0 ≤ x30_1
                · rw [if_pos c11] at H
                  have c11b0 : decide (0 ≤ x30_1) = true := decide_eq_true c11
                  clear c11
                  by_cases c12 : x30_1 < (l1.length : Int)
                  · rw [if_pos c12] at H
                    have c12b0 : decide (x30_1 < (l1.length : Int)) = true := decide_eq_true c12
                    clear c12
                    by_cases c13 : 0 ≤ (rd l1 x30_1)
                    · rw [if_pos c13] at H
                      have c13b0 := eq_true c13
                      have c13b1 : decide (0 ≤ (rd l1 x30_1)) = true := decide_eq_true c13
                      clear c13
                      by_cases c14 : (rd l1 x30_1) ≤ (x0_1.length : Int)
                      · rw [if_pos c14] at H
                        have c14b0 := eq_true c14
                        have c14b1 : decide ((rd l1 x30_1) ≤ (x0_1.length : Int)) = true := decide_eq_true c14
                        clear c14
                        obtain ⟨y157, hy157⟩ : ∃ y_ : List Int, y_ = (x0_1.take ((rd l1 x30_1) : Int).toNat) := ⟨_, rfl⟩
                        replace H : (num_Read.l1 k1 x0_1 x8_1 x30_1 (rd l1 x30_1) l1 (l1.length : Int) x30_1 y157 (y157.length : Int) 0) = some (r1, r2) := by first | (rw [hy157]; with_reducible exact H) | (have H2_ := (Option.bind_some _ _).symm.trans H; rw [hy157]; with_reducible exact H2_) | (have H2_ := (Option.bind_some _ _).symm.trans H; with_reducible exact H2_) | with_reducible exact H | (rw [hy157]; exact H) | exact H
                        have Ny157 := Aside0.mk hy157
                        clear hy157
                        have H' := Aside0.mk H
                        clear H
                        have p156 : 0 ≤ (x30_1 : Int) := of_decide_eq_true (by first | (with_reducible assumption) | assumption)
                        have q156 : x30_1 < (l1.length : Int) := of_decide_eq_true (by first | (with_reducible assumption) | assumption)
                        obtain ⟨ad156, e156, hx156_0⟩ := Kd.at_int HR1.out x30_1 p156 q156
                        cases e156
                        replace hx156_0 := (HB.out.cell (World.block_lt_of_cell? w _ hx156_0)).trans hx156_0
                        replace p156 := eq_true p156
                        replace q156 := eq_true q156
                        obtain ⟨Ao16, co16, eo16⟩ := Kd.V_slice HO_0.out
                        subst eo16
                        have q15 : ((rd l1 x30_1) : Int) ≤ ((x0_1.length : Int) : Int) := of_decide_eq_true (by first | (with_reducible assumption) | assumption)
                        obtain ⟨i015, hi015, _, hsz15, _⟩ := info_parts info5
                        have hroom15 : x0_1.length ≤ co16 := (Kd.V_reads' HO_0.out).2.1
                        have hC15 : Kd.F (Kd.int .u8) _ _ Ao16 x0_1.length x0_1 := (Kd.V_at (base := w.heap.size) HO_0.out).2.2
                        have hcut15 := cut_to3 (P := Try.prog) 23 5 .i64 Try.underlying23 hi015 Ao16 x0_1.length co16 (rd l1 x30_1) (of_decide_eq_true (by first | (with_reducible assumption) | assumption)) q15 hroom15
                        have hroom315 := hroom15
                        have hr15 := Kd.F_take (m := ((rd l1 x30_1) : Int).toNat) hC15 (by omega)
                        have hy15 : y157.length = ((rd l1 x30_1) : Int).toNat := (by rw [Ny157.out, List.length_take]; omega)
                        rw [← Ny157.out] at hr15
                        rw [← hy15] at hcut15
                        have HO161 := Aside0.mk (show Kd.V (Kd.int .u8) 5 _ w.heap.size _ (.slice Ao16 y157.length (y157.length)) y157 from Kd.V_mk (by omega) hr15)
                        have HC161 := Aside0.mk (show y157.length ≤ (y157.length) from by omega)
                        clear hr15 hC15 hroom15 hi015 hsz15 hroom315
                        have KY15 := Aside0.mk hy15
                        clear hy15
                        replace q15 := eq_true q15
                        go_wp2
                        go_loopg [40] k1 (fun kq v40 w' => ∃ (x8_2 : List Int) (x40_2 : Int), v40 = .int .i64 x40_2 ∧ Aside0 (num_Read.l1 kq x0_1 x8_2 x30_1 (rd l1 x30_1) l1 (l1.length : Int) x30_1 y157 (y157.length : Int) x40_2 = some (r1, r2)) ∧ Aside0 (kq ≤ k1) ∧ Aside0 (Kd.V (Kd.int .u8) 5 w' w.heap.size (fun k_ => (P0_ k_ ∨ w.heap.size ≤ k_) ∧ some k_ ≠ (v154 : Value).ownBlock) (.slice Ao16 x0_1.length co16) x0_1) ∧ Aside0 (Kd.R (Kd.int .u64) 63 w' w.heap.size (fun k_ => (w.heap.size ≤ k_)) v154 x8_2) ∧ Aside0 (Kd.V (Kd.int .u8) 5 w' w.heap.size (fun k_ => (P0_ k_ ∨ w.heap.size ≤ k_) ∧ some k_ ≠ (v154 : Value).ownBlock) (.slice Ao16 y157.length (y157.length)) y157) ∧ Aside0 (Below w.heap.size w w'))
                        case atStart => exact ⟨(x8_1), (0), (by first | rfl | (simp; done) | (simp [*]; done)), H', ⟨Nat.le_refl _⟩, ⟨by (with_reducible repeat (first | apply Kd.V_alloc | apply Kd.V_drewN | apply Kd.V_drew)); exact HO_0.out⟩, ⟨by (with_reducible repeat (first | apply Kd.R_alloc | apply Kd.R_drewN | apply Kd.R_drew)); exact HO_8.out⟩, ⟨by (with_reducible repeat (first | apply Kd.V_alloc | apply Kd.V_drewN | apply Kd.V_drew)); exact HO161.out⟩, ⟨by repeat (first | (with_reducible first | exact HB.out | apply below_alloc | apply pw_below_drewN | apply below_drew1) | exact HB.out)⟩⟩
                        case round =>
                          clear H'
                          try clear c1
                          try clear p1
                          try clear q1
                          try clear hx1
                          try clear p2
                          try clear c3
                          try clear c4
                          try clear c4b0
                          try clear c4b1
                          try clear c5
                          try clear c5b0
                          try clear c5b1
                          try clear c6
                          try clear c6b0
                          try clear c6b1
                          try clear c7
                          try clear c7b0
                          try clear c7b1
                          try clear c10
                          try clear c10b0
                          try clear c11
                          try clear c11b0
                          try clear c12
                          try clear c12b0
                          try clear c13
                          try clear c13b0
                          try clear c13b1
                          try clear c14
                          try clear c14b0
                          try clear c14b1
                          try clear p15
                          try clear q15
                          try clear hx15
                          try clear hx156_0
                          try clear p156
                          try clear p2
                          try clear q15
                          try clear q156
                          obtain ⟨x8_2, x40_2, rfl, HA, HK2, HO_0, HO_8, HO_38, HB⟩ := hrel
                          cases gk with
                          | zero => exact absurd HA.out (by simp [num_Read.l1])
                          | succ k2 =>
                            have H := HA.out
                            clear HA
                            simp only [num_Read.l1] at H
                            by_cases c17 : x40_2 < (y157.length : Int)
                            · rw [if_pos c17] at H
                              have c17b0 : decide (x40_2 < (y157.length : Int)) = true := decide_eq_true c17
                              clear c17
                              by_cases c18 : 0 ≤ x40_2
                              · rw [if_pos c18] at H
                                have c18b0 : decide (0 ≤ x40_2) = true := decide_eq_true c18
                                clear c18
                                by_cases c19 : x40_2 < (y157.length : Int)
                                · rw [if_pos c19] at H
                                  have c19b0 : decide (x40_2 < (y157.length : Int)) = true := decide_eq_true c19
                                  clear c19
                                  by_cases c20 : 0 ≤ x30_1
                                  · rw [if_pos c20] at H
                                    have c20b0 : decide (0 ≤ x30_1) = true := decide_eq_true c20
                                    clear c20
                                    by_cases c21 : x30_1 < (x8_2.length : Int)
                                    · rw [if_pos c21] at H
                                      have c21b0 : decide (x30_1 < (x8_2.length : Int)) = true := decide_eq_true c21
                                      clear c21
                                      obtain ⟨y164, hy164⟩ : ∃ y_ : List Int, y_ = (x8_2.set (x30_1 : Int).toNat (Go.bits .or .u64 (IntKind.u64.wrap ((rd x8_2 x30_1) * 256)) (IntKind.u64.wrap (rd y157 x40_2)))) := ⟨_, rfl⟩
                                      replace H : (num_Read.l1 k2 x0_1 y164 x30_1 (rd l1 x30_1) l1 (l1.length : Int) x30_1 y157 (y157.length : Int) (wrap64 (x40_2 + 1))) = some (r1, r2) := by first | (rw [hy164]; with_reducible exact H) | (have H2_ := (Option.bind_some _ _).symm.trans H; rw [hy164]; with_reducible exact H2_) | (have H2_ := (Option.bind_some _ _).symm.trans H; with_reducible exact H2_) | with_reducible exact H | (rw [hy164]; exact H) | exact H
                                      have Ny164 := Aside0.mk hy164
                                      clear hy164
                                      have H' := Aside0.mk H
                                      clear H
                                      have p162 : 0 ≤ (x40_2 : Int) := of_decide_eq_true (by first | (with_reducible assumption) | assumption)
                                      have q162 : x40_2 < (y157.length : Int) := of_decide_eq_true (by first | (with_reducible assumption) | assumption)
                                      obtain ⟨ad162, e162, hx162_0⟩ := Kd.at_int (Kd.V_reads' HO_38.out).2.2 x40_2 p162 q162
                                      cases e162
                                      replace p162 := eq_true p162
                                      replace q162 := eq_true q162
                                      obtain ⟨Ao23, co23, eo23⟩ := Kd.R_slice HO_8.out
                                      subst eo23
                                      have p163 : 0 ≤ (x30_1 : Int) := of_decide_eq_true (by first | (with_reducible assumption) | assumption)
                                      have q163 : x30_1 < (x8_2.length : Int) := of_decide_eq_true (by first | (with_reducible assumption) | assumption)
                                      obtain ⟨ad163, e163, hx163_0⟩ := Kd.at_int (Kd.R_reads' HO_8.out).2.2 x30_1 p163 q163
                                      cases e163
                                      replace p163 := eq_true p163
                                      replace q163 := eq_true q163
                                      have p22 : 0 ≤ (x30_1 : Int) := of_decide_eq_true (by first | (with_reducible assumption) | assumption)
                                      have q22 : (x30_1 : Int) < ((x8_2.length : Int) : Int) := of_decide_eq_true (by first | (with_reducible assumption) | assumption)
                                      obtain ⟨go22, co22, eo22, gb22, gl22, cl22, HG22⟩ := Kd.R_form HO_8.out (by omega)
                                      (first | cases eo22 | (injection eo22 with ea_ en_ ec_; (first | subst ea_ | (injection ea_ with ea_; subst ea_)); subst ec_; clear en_))
                                      have GB22 := Aside0.mk gb22
                                      have GG22 := Aside0.mk HG22
                                      clear gb22 gl22 HG22
                                      (first | simp only [add_plain] at hx163_0 | skip)
                                      obtain ⟨hx22_0, hf22_0⟩ := Kd.R_celln 0 HO_8.out (x30_1 : Int) p22 q22
                                      replace p22 := eq_true p22
                                      replace q22 := eq_true q22
                                      have HP24 := Kd.R_putg HO_8.out (x30_1 : Int) (Go.bits .or .u64 (IntKind.u64.wrap ((rd x8_2 x30_1) * 256)) (IntKind.u64.wrap (rd y157 x40_2)))
                                      go_wp2_with (first | ((with_reducible refine gate_store (t := 63) (p := 54) rfl ?_); refine store_event (t := 63) (p := 54) (v := ?vo_w25) (w1 := (wr.setCell ⟨go22, (x30_1 : Int).toNat, none⟩ (.int .u64 (Go.bits .or .u64 (IntKind.u64.wrap ((rd x8_2 x30_1) * 256)) (IntKind.u64.wrap (rd y157 x40_2)))))) ?hg ?ho ?hn ?hr ?_; (case ho => rfl); (case hg => rfl); (case hn => rfl); (case hr => first | (go_simp; done) | (go_simp; rfl)); intro w25 hw; have hg : wr.grownBy w25 (some go22) := (by rw [hw]; exact HP24.2); have hp_ : Kd.R (Kd.int .u64) 63 w25 w.heap.size (fun k_ => (w.heap.size ≤ k_)) (.slice (some ⟨go22, 0, none⟩) x8_2.length co23) y164 := (by rw [hw, Ny164.out]; exact HP24.1); clear HP24; have n0_ := Aside0.mk (Kd.V_afterv (v := (.slice (some ⟨go22, 0, none⟩) x8_2.length co23)) (v1 := (.slice (some ⟨go22, 0, none⟩) x8_2.length co23)) (ok := (fun k_ => (P0_ k_ ∨ w.heap.size ≤ k_))) (by (with_reducible repeat (first | apply Kd.V_alloc | apply Kd.V_drewN | apply Kd.V_drew)); exact HO_0.out) hg (.inl rfl)); have n1_ := Aside0.mk (hp_); have n2_ := Aside0.mk (Kd.V_afterv (v := (.slice (some ⟨go22, 0, none⟩) x8_2.length co23)) (v1 := (.slice (some ⟨go22, 0, none⟩) x8_2.length co23)) (ok := (fun k_ => (P0_ k_ ∨ w.heap.size ≤ k_))) (by (with_reducible repeat (first | apply Kd.V_alloc | apply Kd.V_drewN | apply Kd.V_drew)); exact HO_38.out) hg (.inl rfl)); have n3_ := Aside0.mk ((by rw [hw]; exact below_set (HB.out) GB22.out : Below w.heap.size w w25)); clear HO_0; clear HO_8; clear HO_38; clear HB; have HO_0 := n0_; have HO_8 := n1_; have HO_38 := n2_; have HB := n3_; clear n0_ n1_ n2_ n3_; clear hg hw hp_))
                                      go_roundg k2
                                      case measure => have := HK1.out; have := HK2.out; omega
                                      case rel => exact ⟨(y164), (wrap64 (x40_2 + 1)), (by first | rfl | (simp; done) | (simp [*]; done)), H', ⟨by have := HK1.out; have := HK2.out; omega⟩, ⟨by (with_reducible repeat (first | apply Kd.V_alloc | apply Kd.V_drewN | apply Kd.V_drew)); exact HO_0.out⟩, ⟨by (with_reducible repeat (first | apply Kd.R_alloc | apply Kd.R_drewN | apply Kd.R_drew)); exact HO_8.out⟩, ⟨by (with_reducible repeat (first | apply Kd.V_alloc | apply Kd.V_drewN | apply Kd.V_drew)); exact HO_38.out⟩, ⟨by repeat (first | (with_reducible first | exact HB.out | apply below_alloc | apply pw_below_drewN | apply below_drew1) | exact HB.out)⟩⟩
                                    · rw [if_neg c21] at H
                                      exact absurd H (by simp)
                                  · rw [if_neg c20] at H
                                    exact absurd H (by simp)
                                · rw [if_neg c19] at H
                                  exact absurd H (by simp)
                              · rw [if_neg c18] at H
                                exact absurd H (by simp)
                            · rw [if_neg c17] at H
                              have c17b0 : decide (x40_2 < (y157.length : Int)) = false := decide_eq_false c17
                              clear c17
                              by_cases c26 : 0 ≤ (rd l1 x30_1)
                              · rw [if_pos c26] at H
                                have c26b0 := eq_true c26
                                have c26b1 : decide (0 ≤ (rd l1 x30_1)) = true := decide_eq_true c26
                                clear c26
                                by_cases c27 : (rd l1 x30_1) ≤ (x0_1.length : Int)
                                · rw [if_pos c27] at H
                                  have c27b0 := eq_true c27
                                  have c27b1 : decide ((rd l1 x30_1) ≤ (x0_1.length : Int)) = true := decide_eq_true c27
                                  clear c27
                                  obtain ⟨y165, hy165⟩ : ∃ y_ : List Int, y_ = (x0_1.drop ((rd l1 x30_1) : Int).toNat) := ⟨_, rfl⟩
                                  replace H : (num_Read.l0 k2 y165 x8_2 l1 (l1.length : Int) (wrap64 (x30_1 + 1))) = some (r1, r2) := by first | (rw [hy165]; with_reducible exact H) | (have H2_ := (Option.bind_some _ _).symm.trans H; rw [hy165]; with_reducible exact H2_) | (have H2_ := (Option.bind_some _ _).symm.trans H; with_reducible exact H2_) | with_reducible exact H | (rw [hy165]; exact H) | exact H
                                  have Ny165 := Aside0.mk hy165
                                  clear hy165
                                  have H' := Aside0.mk H
                                  clear H
                                  have q28 : ((rd l1 x30_1) : Int) ≤ ((x0_1.length : Int) : Int) := of_decide_eq_true (by first | (with_reducible assumption) | assumption)
                                  obtain ⟨i028, hi028, _, hsz28, _⟩ := info_parts info5
                                  have hroom28 : x0_1.length ≤ co16 := (Kd.V_reads' HO_0.out).2.1
                                  have hC28 : Kd.F (Kd.int .u8) _ _ Ao16 x0_1.length x0_1 := (Kd.V_at (base := w.heap.size) HO_0.out).2.2
                                  have q028 : (0 : Int) ≤ ((rd l1 x30_1) : Int) := of_decide_eq_true (by first | (with_reducible assumption) | assumption)
                                  have hcut28 := cut_from (P := Try.prog) 23 5 .i64 Try.underlying23 hi028 1 hsz28 Ao16 x0_1.length co16 (rd l1 x30_1) q028 q28
                                  have hr28 := Kd.F_cut (m := ((rd l1 x30_1) : Int).toNat) (c := co16) hC28 (by omega) hroom28
                                  obtain ⟨A28, hA28⟩ : ∃ A1, A1 = (if co16 = ((rd l1 x30_1) : Int).toNat then Ao16 else (Ao16 : Option Addr).map (·.add (((rd l1 x30_1) : Int).toNat * 1))) := ⟨_, rfl⟩
                                  obtain ⟨c28, hc28⟩ : ∃ c1, c1 = co16 - ((rd l1 x30_1) : Int).toNat := ⟨_, rfl⟩
                                  have hy28 : y165.length = x0_1.length - ((rd l1 x30_1) : Int).toNat := (by rw [Ny165.out, List.length_drop] <;> omega)
                                  rw [show (x0_1).drop ((rd l1 x30_1) : Int).toNat = y165 from Ny165.out.symm] at hr28
                                  replace hr28 : Kd.F (Kd.int .u8) _ _ A28 y165.length y165 := (by rw [hA28]; exact hr28)
                                  rw [← hy28, ← hA28, ← hc28] at hcut28
                                  have HO169 := Aside0.mk (show Kd.V (Kd.int .u8) 5 _ w.heap.size _ (.slice A28 y165.length c28) y165 from Kd.V_mk (by rw [hy28, hc28]; exact Nat.sub_le_sub_right hroom28 _) hr28)
                                  have HC169 := Aside0.mk (show y165.length ≤ c28 from by rw [hy28, hc28]; exact Nat.sub_le_sub_right hroom28 _)
                                  clear hr28 hC28 hroom28 hi028 hsz28 hc28
                                  have KY28 := Aside0.mk hy28
                                  have KA28 := Aside0.mk hA28
                                  clear hy28 hA28
                                  replace q28 := eq_true q28
                                  go_wp2
                                  go_roundg k2
                                  case measure => have := HK1.out; have := HK2.out; omega
                                  case rel => exact ⟨(y165), (x8_2), (wrap64 (x30_1 + 1)), (by first | rfl | (simp; done) | (simp [*]; done)), H', ⟨by have := HK1.out; have := HK2.out; omega⟩, ⟨by (with_reducible repeat (first | apply Kd.V_alloc | apply Kd.V_drewN | apply Kd.V_drew)); exact HO169.out⟩, ⟨by (with_reducible repeat (first | apply Kd.R_alloc | apply Kd.R_drewN | apply Kd.R_drew)); exact HO_8.out⟩, ⟨by repeat (first | (with_reducible first | exact HB.out | apply below_alloc | apply pw_below_drewN | apply below_drew1) | exact HB.out)⟩⟩
                                · rw [if_neg c27] at H
                                  exact absurd H (by simp)
                              · rw [if_neg c26] at H
                                exact absurd H (by simp)
                      · rw [if_neg c14] at H
                        exact absurd H (by simp)
                    · rw [if_neg c13] at H
                      exact absurd H (by simp)
                  · rw [if_neg c12] at H
                    exact absurd H (by simp)
                · rw [if_neg c11] at H
                  exact absurd H (by simp)
              · rw [if_neg c10] at H
                have c10b0 : decide (x30_1 < (l1.length : Int)) = false := decide_eq_false c10
                clear c10
                simp only [Option.some.injEq, Prod.mk.injEq] at H
                obtain ⟨rfl, rfl⟩ := H
                go_wp2
                go_ret2
                exact ⟨_, by first | rfl | (simp [errW_none, errW_some] <;> rfl) | (simp [*, errW_none, errW_some] <;> rfl), by (with_reducible repeat (first | apply Kd.R_alloc | apply Kd.R_drewN | apply Kd.R_drew)); exact HO_8.out, by repeat (first | (with_reducible first | exact HB.out | apply below_alloc | apply pw_below_drewN | apply below_drew1) | exact HB.out)⟩
        · rw [if_neg c7] at H
          exact absurd H (by simp)
      · rw [if_neg c6] at H
        exact absurd H (by simp)
    · rw [if_neg c5] at H
      have c5b0 : ((l0.length : Int) == t151) = false := beq_eq_false_iff_ne.mpr c5
      have c5b1 : ((l0.length : Int) != t151) = true := bne_iff_ne.mpr c5
      simp only [Option.some.injEq, Prod.mk.injEq] at H
      obtain ⟨rfl, rfl⟩ := H
      go_enter Try.func36, Try.ntmps36
      go_wp2_with (first | ((with_reducible refine gate_callee (f := 49) rfl ?_); refine goesL_ (some 15) rfl rfl Try.func49 (by kernel_rfl) rfl #[.slice A1 l1.length c1] rfl (by (try simp only [List.map_toArray, List.map_cons, List.map_nil]); first | done | rfl | (simp only [List.length_drop, List.length_take]; rfl)) ?_; (with_reducible refine (num_Size.calls k _ _ l1 t151 t152 _ ?side1 ?side2 A3.out).mono ?_); (case side1 => repeat (first | exact HR1.out | (with_reducible refine Kd.C_alloc ?_ _) | (with_reducible refine Kd.C_drewN ?_ _) | (with_reducible refine Kd.C_drew ?_))); (case side2 => exact HC1.out); rintro e w' ⟨rfl, ⟨nd, rfl⟩⟩; refine ⟨_, rfl, ?_⟩))
      go_ret2
      exact ⟨_, by first | rfl | (simp [errW_none, errW_some] <;> rfl) | (simp [*, errW_none, errW_some] <;> rfl), by first | exact Kd.R_nil _ _ _ _ _ | exact Kd.N_nil _ _ _ _ _ | exact Kd.V_nil _ _ _ _ _ | exact Kd.Q_nil _ _ _ _ _ | exact Kd.S_nil _ _ _ _ _, by repeat (first | (with_reducible first | exact HB.out | apply below_alloc | apply pw_below_drewN | apply below_drew1) | exact HB.out)⟩
  · rw [if_neg c4] at H
    have c4b0 : (t152 == 0) = false := beq_eq_false_iff_ne.mpr c4
    have c4b1 : (t152 != 0) = true := bne_iff_ne.mpr c4
    simp only [Option.some.injEq, Prod.mk.injEq] at H
    obtain ⟨rfl, rfl⟩ := H
    go_enter Try.func36, Try.ntmps36
    go_wp2_with (first | ((with_reducible refine gate_callee (f := 49) rfl ?_); refine goesL_ (some 15) rfl rfl Try.func49 (by kernel_rfl) rfl #[.slice A1 l1.length c1] rfl (by (try simp only [List.map_toArray, List.map_cons, List.map_nil]); first | done | rfl | (simp only [List.length_drop, List.length_take]; rfl)) ?_; (with_reducible refine (num_Size.calls k _ _ l1 t151 t152 _ ?side1 ?side2 A3.out).mono ?_); (case side1 => repeat (first | exact HR1.out | (with_reducible refine Kd.C_alloc ?_ _) | (with_reducible refine Kd.C_drewN ?_ _) | (with_reducible refine Kd.C_drew ?_))); (case side2 => exact HC1.out); rintro e w' ⟨rfl, ⟨nd, rfl⟩⟩; refine ⟨_, rfl, ?_⟩))
    go_ret2
    exact ⟨_, by first | rfl | (simp [errW_none, errW_some] <;> rfl) | (simp [*, errW_none, errW_some] <;> rfl), by first | exact Kd.R_nil _ _ _ _ _ | exact Kd.N_nil _ _ _ _ _ | exact Kd.V_nil _ _ _ _ _ | exact Kd.Q_nil _ _ _ _ _ | exact Kd.S_nil _ _ _ _ _, by repeat (first | (with_reducible first | exact HB.out | apply below_alloc | apply pw_below_drewN | apply below_drew1) | exact HB.out)⟩
set_option maxHeartbeats 8000000 in
set_option maxRecDepth 100000 in
theorem num_Read.calls (k : Nat) (A0 : Option Addr) (c0 : Nat) (l0 : List Int) (A1 : Option Addr) (c1 : Nat) (l1 : List Int) (r1 : List Int) (r2 : Int) (w : World) (hr0 : Kd.C (Kd.int .u8) w A0 l0.length l0) (hc0 : l0.length ≤ c0) (hr1 : Kd.C (Kd.int .i64) w A1 l1.length l1) (hc1 : l1.length ≤ c1) (h : num_Read.f k l0 l1 = some (r1, r2)) :
    Calls Try.prog 36 #[.slice A0 l0.length c0, .slice A1 l1.length c1] w fun e w' => ∃ v0_ : Value, e = .returned (.tuple #[v0_, .int .i64 r2]) ∧ Kd.R (Kd.int .u64) 63 w' w.heap.size (fun _ => True) v0_ r1 ∧ Below w.heap.size w w' := by
  have hF := Kd.C_F (Kd.heap_int .u8) hr0
  exact (num_Read.callsV k _ A0 c0 l0 A1 c1 l1 r1 r2 w (Kd.V_mk hc0 hF) hr1 hc1 h).mono fun e w' ⟨v, h1, h2, h3⟩ => ⟨v, h1, Kd.R_mono h2 (fun _ _ => trivial), h3⟩



/-! ### req_Told: function 18 -/
def req_Told.f (k : Nat) (t : List Int) : Option (Int × Int × Int × List Int × Int) :=
  if (t.length : Int) < 8 then some (0, 0, 0, [], 10) else if (t.length : Int) > 72 then some (0, 0, 0, [], 4) else (crc_Open.f k t).bind fun p => if p.2 = 0 then (if 4 ≤ p.1.length ∧ p.1.length ≤ 4096 then ((num_Read.f k (p.1.take 4) [2, 1, 1]).bind fun q => if q.1.length = 3 ∧ 0 ≤ rd q.1 0 ∧ rd q.1 0 < 65536 then (if rd q.1 2 = (p.1.length : Int) - 4 then some (0, rd q.1 0, rd q.1 1 % 256, p.1.drop 4, 0) else some (0, 0, 0, [], 280)) else none) else none) else some (0, 0, 0, [], p.2)
theorem req_Told.mono : ∀ a0 k, LeO (req_Told.f k a0) (req_Told.f (k + 1) a0) := by
  intro a0 k
  unfold req_Told.f
  refine LeO.ite (LeO.refl _) (LeO.ite (LeO.refl _) (LeO.bind (crc_Open.mono _ _) fun p => LeO.ite (LeO.ite (LeO.bind (num_Read.mono _ _ _) fun q => LeO.refl _) (LeO.refl _)) (LeO.refl _)))
set_option maxHeartbeats 8000000 in
set_option maxRecDepth 100000 in
theorem req_Told.calls (k : Nat) (A0 : Option Addr) (c0 : Nat) (l0 : List Int) (r1 : Int) (r2 : Int) (r3 : Int) (r4 : List Int) (r5 : Int) (w : World) (hr0 : Kd.C (Kd.int .u8) w A0 l0.length l0) (hc0 : l0.length ≤ c0) (h : req_Told.f k l0 = some (r1, r2, r3, r4, r5)) :
    Calls Try.prog 18 #[.slice A0 l0.length c0] w fun e w' => ∃ v3_ : Value, e = .returned (.tuple #[.agg #[.int .i64 r1, .int .i64 r2, .int .u8 r3, v3_], .int .i64 r5]) ∧ Kd.V (Kd.int .u8) 5 w' w.heap.size (fun k_ => (w.heap.size ≤ k_)) v3_ r4 ∧ Below w.heap.size w w' := by
  unfold req_Told.f at h
  have hB0 : Below w.heap.size w w := Below.refl _ _
  by_cases h1 : (l0.length : Int) < 8
  · rw [if_pos h1] at h
    have hw := Option.some.inj h
    simp only [Prod.mk.injEq] at hw
    obtain ⟨rfl, rfl, rfl, rfl, rfl⟩ := hw
    clear h hr0 hc0
    go_enter Try.func18, Try.ntmps18
    go_wp2
    refine bodyPost_ret (results_ct rfl _ _ w.heap.size 41 #[.int .i64 0, .int .i64 0, .int .u8 0, .slice none 0 0] (0, 0) _ rfl (by exact blk_new _ _) Try.underlying41 rfl (by kernel_rfl)) rfl ?_
    exact ⟨_, rfl, Kd.V_nil _ _ _ _ _, by repeat (first | exact hB0 | apply below_alloc | refine below_set ?_ (Nat.le_refl _))⟩
  · rw [if_neg h1] at h
    by_cases h2 : (l0.length : Int) > 72
    · rw [if_pos h2] at h
      have hw := Option.some.inj h
      simp only [Prod.mk.injEq] at hw
      obtain ⟨rfl, rfl, rfl, rfl, rfl⟩ := hw
      clear h hr0 hc0
      go_enter Try.func18, Try.ntmps18
      go_wp2
      refine bodyPost_ret (results_ct rfl _ _ w.heap.size 41 #[.int .i64 0, .int .i64 0, .int .u8 0, .slice none 0 0] (0, 0) _ rfl (by exact blk_new _ _) Try.underlying41 rfl (by kernel_rfl)) rfl ?_
      exact ⟨_, rfl, Kd.V_nil _ _ _ _ _, by repeat (first | exact hB0 | apply below_alloc | refine below_set ?_ (Nat.le_refl _))⟩
    · rw [if_neg h2] at h
      obtain ⟨p, hp, h⟩ := Option.bind_eq_some_iff.mp h
      obtain ⟨b, e⟩ := p
      simp only at h hp
      by_cases h3 : e = 0
      · subst h3
        rw [if_pos rfl] at h
        by_cases h4 : 4 ≤ b.length ∧ b.length ≤ 4096
        · rw [if_pos h4] at h
          obtain ⟨h4, h4b⟩ := h4
          obtain ⟨q, hq, h⟩ := Option.bind_eq_some_iff.mp h
          obtain ⟨l, e2⟩ := q
          simp only at h hq
          by_cases h5 : l.length = 3 ∧ 0 ≤ rd l 0 ∧ rd l 0 < 65536
          · rw [if_pos h5] at h
            obtain ⟨h5, h5a, h5b⟩ := h5
            have hl16 : (b.take 4).length = 4 := by rw [List.length_take]; omega
            have hbd : (b.drop 4).length = b.length - 4 := List.length_drop
            obtain ⟨i0, hi, hz0, hz1, hz2⟩ := info_parts info5
            have hRead : ∀ (Ab As : Option Addr) (cb cs : Nat) (W : World), Kd.C (Kd.int .u8) W Ab 4 (b.take 4) → 4 ≤ cb → Kd.C (Kd.int .i64) W As 3 [2, 1, 1] → 3 ≤ cs → Calls Try.prog 36 #[.slice Ab 4 cb, .slice As 3 cs] W fun e w' => ∃ v0_ : Value, e = .returned (.tuple #[v0_, .int .i64 e2]) ∧ Kd.R (Kd.int .u64) 63 w' W.heap.size (fun _ => True) v0_ l ∧ Below W.heap.size W w' := by
              intro Ab As cb cs W g1 g0 g2 g3
              have := num_Read.calls k Ab cb (b.take 4) As cs [2, 1, 1] l e2 W (by rw [hl16]; exact g1) (by omega) g2 g3 hq
              rw [hl16] at this
              exact this
            go_enter Try.func18, Try.ntmps18
            go_wp2_with (first
              | (go_at_call 35; (with_reducible refine (crc_Open.calls k A0 c0 l0 b 0 _ (Kd.C_below hr0 (below_alloc hB0 _)) hc0 hp).mono ?_); rintro en wa ⟨vb, rfl, hoA, hbA⟩; obtain ⟨Ab, cb, rfl⟩ := Kd.R_slice hoA; have hbk1 := blk_below (blk_new w _) hbA; have hbW := below_step (below_alloc hB0 _) hbA; have hCb := (Kd.R_reads' hoA).2.2; have hcb := (Kd.R_reads' hoA).2.1; have hFb : Kd.F (Kd.int .u8) wa (fun k_ => w.heap.size + 1 ≤ k_) Ab b.length b := Kd.R_F (Kd.R_mono (Kd.R_tight rfl hoA) (fun k hk => Nat.le_trans (Nat.le_of_eq (Array.size_push (xs := w.heap) _).symm) (Kd.R_base hoA k hk.symm))); have hcut1 := cut_to (P := Try.prog) 23 5 .i64 Try.underlying23 hi Ab b.length cb 4 (by omega) (by omega) hcb; have hcut2 := cut_from (P := Try.prog) 23 5 .i64 Try.underlying23 hi 1 hz1 Ab b.length cb 4 (by omega) (by omega); have hC16 := Kd.C_take (m := 4) hCb h4; have hCd := Kd.C_drop (m := 4) (c := cb) hCb h4 hcb; have hFd := Kd.F_cut (m := 4) hFb h4 hcb))
            obtain ⟨A16, hA16⟩ : ∃ A1, A1 = (if cb = 4 then Ab else Ab.map (·.add (4 * 1))) := ⟨_, rfl⟩
            obtain ⟨c16, hc16⟩ : ∃ c1, c1 = cb - 4 := ⟨_, rfl⟩
            replace hcut1 : ∀ W : World, (Instr.slice 23 (.slice Ab b.length cb) none (some (.int .i64 4)) none).run Try.prog W = .ok (.slice Ab 4 cb) W := hcut1
            replace hcut2 : ∀ W : World, (Instr.slice 23 (.slice Ab b.length cb) (some (.int .i64 4)) none none).run Try.prog W = .ok (.slice A16 (b.drop 4).length c16) W := by rw [hA16, hbd, hc16]; exact hcut2
            replace hCd : Kd.C (Kd.int .u8) wa A16 (b.drop 4).length (b.drop 4) := by rw [hA16]; exact hCd
            replace hFd : Kd.F (Kd.int .u8) wa (fun k_ => w.heap.size + 1 ≤ k_) A16 (b.drop 4).length (b.drop 4) := by rw [hA16]; exact hFd
            have hcd : (b.drop 4).length ≤ c16 := by omega
            have hcb4 : 4 ≤ cb := by omega
            rw [hl16] at hC16
            clear hA16 hc16
            obtain ⟨d, hd⟩ : ∃ d, d = b.drop 4 := ⟨_, rfl⟩
            rw [← hd] at hcut2 hCd hFd h hcd
            clear hbd hd
            go_region_held3 (fun W => Below wa.heap.size wa W) (first | exact Below.refl _ _ | exact below_drew (Below.refl _ _) | assumption) (first | (go_at_call 39; (with_reducible refine (req_sizes.calls [2, 1, 1] _ rfl).mono ?_); rintro en wb ⟨vs, rfl, hoS, hbS⟩; obtain ⟨As, cs, rfl⟩ : ∃ A c, vs = .slice A 3 c := Kd.R_slice hoS; have hbB := below_step (below_drew (Below.refl wa.heap.size wa)) hbS) | (go_at_call 36; (with_reducible refine (hRead Ab As cb cs _ (Kd.C_below hC16 (by assumption)) hcb4 (Kd.R_reads' hoS).2.2 (Kd.R_reads' hoS).2.1).mono ?_); rintro en wc ⟨vl, rfl, hoL, hbL⟩; have hbC := below_step hbB hbL; obtain ⟨Al, cl, rfl⟩ := Kd.R_slice hoL))
            obtain ⟨ad, ea, hx0⟩ := Kd.at_int (Kd.R_reads' hoL).2.2 0 (by omega) (by omega)
            obtain ⟨ad1, ea1, hx1⟩ := Kd.at_int (Kd.R_reads' hoL).2.2 1 (by omega) (by omega)
            obtain ⟨ad2, ea2, hx2⟩ := Kd.at_int (Kd.R_reads' hoL).2.2 2 (by omega) (by omega)
            cases ea
            cases ea1
            cases ea2
            obtain ⟨y0, hy0⟩ : ∃ y, y = rd l 0 := ⟨_, rfl⟩
            obtain ⟨y1, hy1⟩ : ∃ y, y = rd l 1 := ⟨_, rfl⟩
            obtain ⟨y2, hy2⟩ : ∃ y, y = rd l 2 := ⟨_, rfl⟩
            rw [← hy0] at hx0 h5a h5b
            rw [← hy1] at hx1
            rw [← hy2] at hx2
            rw [← hy0, ← hy1, ← hy2] at h
            have hlw : w.heap.size < wa.heap.size := blk_lt hbk1
            clear hy0 hy1 hy2 hq hp hRead hl16 hcb hcb4
            have hx0' : wc.cell? ad = some (.int .u64 y0) := by first | exact hx0 | simpa using hx0
            have hx1' : wc.cell? ⟨ad.block, ad.off + 1, none⟩ = some (.int .u64 y1) := by first | exact hx1 | simpa using hx1 | simpa [add_plain] using hx1
            have hx2' : wc.cell? ⟨ad.block, ad.off + 2, none⟩ = some (.int .u64 y2) := by first | exact hx2 | simpa using hx2 | simpa [add_plain] using hx2
            clear hx0 hx1 hx2
            have hm1 : ((b.length : Int) - 4) % 18446744073709551616 = (b.length : Int) - 4 := Int.emod_eq_of_lt (by omega) (by omega)
            have hm0 : IntKind.i64.wrap ((b.length : Int) - 4) = (b.length : Int) - 4 := IntWalk.i64_in _ (by omega)
            have hm2 : IntKind.i64.wrap y0 = y0 := IntWalk.i64_in _ (by omega)
            have hkR := blk_below hbk1 hbC
            obtain ⟨q0, q1, q2, q3, f0, f1, f2, f3⟩ := blkc4 hkR
            have hnb : ad.block ≠ w.heap.size := by
              have h_ := Kd.R_base hoL ad.block (by simp [Value.ownBlock])
              have h2_ := hbB.size
              omega
            by_cases h6 : y2 = (b.length : Int) - 4
            · rw [if_pos h6] at h
              have hw := Option.some.inj h
              simp only [Prod.mk.injEq] at hw
              obtain ⟨rfl, rfl, rfl, rfl, rfl⟩ := hw
              clear h
              have h7 : (y2 != (b.length : Int) - 4) = false := by simpa using h6
              go_wp2_with (fail)
              go_region_held3 (fun W => W.cell? ad = some (.int .u64 y0) ∧ W.cell? ⟨ad.block, ad.off + 1, none⟩ = some (.int .u64 y1) ∧ W.cell? ⟨ad.block, ad.off + 2, none⟩ = some (.int .u64 y2)) (first | exact ⟨hx0', hx1', hx2'⟩ | exact ⟨ReqWalk.far4 hx0' hnb _ _ _ _, ReqWalk.far4 hx1' hnb _ _ _ _, ReqWalk.far4 hx2' hnb _ _ _ _⟩ | go_keep) (fail)
              go_wp2_with (fail)
              have h8 : IntKind.u8.wrap y1 = y1 % 256 := rfl
              refine bodyPost_ret (results_ct rfl _ _ w.heap.size 41 #[.int .i64 0, .int .i64 y0, .int .u8 (y1 % 256), .slice A16 d.length c16] (0, 0) _ rfl (by exact blk_set (blk_set (blk_set (blk_set hkR 0 _) 1 _) 2 _) 3 _) Try.underlying41 rfl (by kernel_rfl)) rfl ?_
              have hFe := Kd.F_below hFd hbC
              have hne : ∀ k_, w.heap.size + 1 ≤ k_ → k_ ≠ w.heap.size := fun _ _ => by omega
              exact ⟨_, rfl, Kd.V_mk hcd (Kd.F_mono (Kd.F_drew (Kd.F_far (Kd.F_far (Kd.F_far (Kd.F_far hFe hne _) hne _) hne _) hne _)) (fun _ _ => by omega)), by repeat (first | exact below_then hbW hbW.size hbC | apply below_drew | refine below_set ?_ (Nat.le_refl _))⟩
            · rw [if_neg h6] at h
              have hw := Option.some.inj h
              simp only [Prod.mk.injEq] at hw
              obtain ⟨rfl, rfl, rfl, rfl, rfl⟩ := hw
              clear h
              have h7 : (y2 != (b.length : Int) - 4) = true := by simpa using h6
              go_wp2_with (fail)
              refine bodyPost_ret (results_ct rfl _ _ w.heap.size 41 #[.int .i64 0, .int .i64 0, .int .u8 0, .slice none 0 0] (0, 0) _ rfl (by exact blk_set (blk_set (blk_set (blk_set hkR 0 _) 1 _) 2 _) 3 _) Try.underlying41 rfl (by kernel_rfl)) rfl ?_
              exact ⟨_, rfl, Kd.V_nil _ _ _ _ _, by repeat (first | exact below_then hbW hbW.size hbC | refine below_set ?_ (Nat.le_refl _))⟩
          · rw [if_neg h5] at h; cases h
        · rw [if_neg h4] at h; cases h
      · rw [if_neg h3] at h
        have hw := Option.some.inj h
        simp only [Prod.mk.injEq] at hw
        obtain ⟨rfl, rfl, rfl, rfl, rfl⟩ := hw
        have hne : (e != 0) = true := by simpa using h3
        go_enter Try.func18, Try.ntmps18
        go_wp2_with (first
          | (go_at_call 35; (with_reducible refine (crc_Open.calls k A0 c0 l0 b e _ (Kd.C_below hr0 (below_alloc hB0 _)) hc0 hp).mono ?_); rintro en wa ⟨vb, rfl, hoA, hbA⟩; have hbk1 := blk_below (blk_new w _) hbA; have hbW := below_step (below_alloc hB0 _) hbA; obtain ⟨hz0, hz1, hz2, hz3, hf0, hf1, hf2, hf3⟩ := blkc4 hbk1))
        refine bodyPost_ret (results_ct rfl _ _ w.heap.size 41 #[.int .i64 0, .int .i64 0, .int .u8 0, .slice none 0 0] (0, 0) _ rfl (by exact blk_set (blk_set (blk_set (blk_set hbk1 0 _) 1 _) 2 _) 3 _) Try.underlying41 rfl (by kernel_rfl)) rfl ?_
        exact ⟨_, rfl, Kd.V_nil _ _ _ _ _, by repeat (first | exact hbW | apply below_alloc | refine below_set ?_ (Nat.le_refl _))⟩



/-! ### req_Write: function 19 -/
def req_Write.f (k : Nat) (a0 a1 : Int) : Option (List Int) := (crc_Seal.f k [199, 1, a0, a1]).bind fun p => some p.1
theorem req_Write.mono : ∀ a0 a1 k, LeO (req_Write.f k a0 a1) (req_Write.f (k + 1) a0 a1) := by
  intro a0 a1 k
  exact LeO.bind (crc_Seal.mono _ _) fun p => LeO.refl _
set_option maxHeartbeats 8000000 in
set_option maxRecDepth 100000 in
theorem req_Write.calls (k : Nat) (a0 : Int) (a1 : Int) (r : List Int) (w : World) (h : req_Write.f k a0 a1 = some r) :
    Calls Try.prog 19 #[.int .u8 a0, .int .u8 a1] w fun e w' => ∃ v0_ : Value, e = .returned (v0_) ∧ Kd.R (Kd.int .u8) 5 w' w.heap.size (fun _ => True) v0_ r ∧ Below w.heap.size w w' := by
  unfold req_Write.f at h
  obtain ⟨p, hp, h⟩ := Option.bind_eq_some_iff.mp h
  obtain ⟨b, e⟩ := p
  obtain rfl := Option.some.inj h
  dsimp only at hp ⊢
  clear h
  obtain ⟨l, hl⟩ : ∃ l, l = [199, 1, a0, a1] := ⟨_, rfl⟩
  rw [← hl] at hp
  have hl4 : l.length = 4 := by rw [hl]; rfl
  have hSeal : ∀ (A : Option Addr) (c : Nat) (W : World), Kd.C (Kd.int .u8) W A 4 l → 4 ≤ c → Calls Try.prog 13 #[.slice A 4 c] W fun en w' => ∃ v0_ : Value, en = .returned (.tuple #[v0_, .int .i64 e]) ∧ Kd.R (Kd.int .u8) 5 w' W.heap.size (fun _ => True) v0_ b ∧ Below W.heap.size W w' := by
    intro A c W g1 g2
    have := crc_Seal.calls k A c l b e W (by rw [hl4]; exact g1) (by omega) hp
    rw [hl4] at this
    exact this
  have HB := Aside0.mk (Below.refl w.heap.size w)
  go_enter Try.func19, Try.ntmps19
  go_wp2_with (first
    | (go_at_call 40; (with_reducible refine (ReqWalk.head_any _).mono ?_); rintro en wa ⟨rfl, rfl⟩)
    | ((with_reducible refine gate_dst (N := 16) rfl ?_); refine Kd.R_lit (Kd.int .u8) _ 5 ?hg (N := 16) ?hd (xs := [199, 1, a0, a1]) (inner := [.int .u8 199, .int .u8 1, .int .u8 a0, .int .u8 a1]) (ok := fun _ => True) (okp := fun _ => True) ?hr ?hp (fun _ hk => hk) trivial (Below.refl _ _) (Nat.le_refl _) (by simp) ?_; (case hd => rfl); (case hg => rfl); (case hr => first | (go_simp; done) | (go_simp; rfl)); (case hp => exact (Reps.one (show Kd.M (Kd.int .u8) _ _ _ 199 [.int .u8 199] from rfl) (Reps.one (show Kd.M (Kd.int .u8) _ _ _ 1 [.int .u8 1] from rfl) (Reps.one (show Kd.M (Kd.int .u8) _ _ _ a0 [.int .u8 a0] from rfl) (Reps.one (show Kd.M (Kd.int .u8) _ _ _ a1 [.int .u8 a1] from rfl) (Reps.none _ _)))))); intro v1 w1 ho1 hb1 hg_ hnew_; clear hg_ hnew_; rw [← hl] at ho1; obtain ⟨A1, c1, rfl⟩ := Kd.R_slice ho1; rw [hl4] at ho1)
    | (go_at_call 13; (with_reducible refine (hSeal _ _ _ (by have h_ := (Kd.R_reads' ho1).2.2; rw [hl4] at h_; exact h_) (by have h_ := (Kd.R_reads' ho1).2.1; omega)).mono ?_); rintro en w2 ⟨v2, rfl, ho2, hb2⟩))
  go_ret
  have hb3 : Below w.heap.size w w1 := by
    refine below_step ?_ hb1
    repeat (first | exact HB.out | apply below_alloc | refine below_set ?_ (by simp))
  exact ⟨v2, rfl, Kd.R_lower ho2 (below_size hb3), below_step hb3 hb2⟩



/-! ### req_Read: function 20 -/
def req_Read.f (k : Nat) (t : List Int) : Option (Int × Int × Int) :=
  if (t.length : Int) < 8 then some (0, 0, 10) else if (t.length : Int) > 8 then some (0, 0, 4) else (crc_Open.f k t).bind fun p => if p.2 = 0 then (if p.1.length = 4 then some (if rd p.1 0 = 199 then (if rd p.1 1 = 1 then (rd p.1 2, rd p.1 3, 0) else (0, 0, 281)) else (0, 0, 280)) else none) else some (0, 0, p.2)
theorem req_Read.mono : ∀ a0 k, LeO (req_Read.f k a0) (req_Read.f (k + 1) a0) := by
  intro a0 k
  unfold req_Read.f
  exact LeO.ite (LeO.refl _) (LeO.ite (LeO.refl _) (LeO.bind (crc_Open.mono _ _) fun p => LeO.refl _))
set_option maxHeartbeats 8000000 in
set_option maxRecDepth 100000 in
theorem req_Read.calls (k : Nat) (A0 : Option Addr) (c0 : Nat) (l0 : List Int) (r1 : Int) (r2 : Int) (r3 : Int) (w : World) (hr0 : Kd.C (Kd.int .u8) w A0 l0.length l0) (hc0 : l0.length ≤ c0) (h : req_Read.f k l0 = some (r1, r2, r3)) :
    Calls Try.prog 20 #[.slice A0 l0.length c0] w fun e w' => e = .returned (.tuple #[.int .u8 r1, .int .u8 r2, .int .i64 r3]) ∧ Below w.heap.size w w' := by
  unfold req_Read.f at h
  have hB0 : Below w.heap.size w w := Below.refl _ _
  by_cases h1 : (l0.length : Int) < 8
  · rw [if_pos h1] at h
    have hw := Option.some.inj h
    simp only [Prod.mk.injEq] at hw
    obtain ⟨rfl, rfl, rfl⟩ := hw
    clear h hr0 hc0
    go_enter Try.func20, Try.ntmps20
    go_wp2
    go_ret3
    exact ⟨rfl, hB0⟩
  · rw [if_neg h1] at h
    by_cases h2 : (l0.length : Int) > 8
    · rw [if_pos h2] at h
      have hw := Option.some.inj h
      simp only [Prod.mk.injEq] at hw
      obtain ⟨rfl, rfl, rfl⟩ := hw
      clear h hr0 hc0
      go_enter Try.func20, Try.ntmps20
      go_wp2
      go_ret3
      exact ⟨rfl, hB0⟩
    · rw [if_neg h2] at h
      obtain ⟨p, hp, h⟩ := Option.bind_eq_some_iff.mp h
      obtain ⟨b, e⟩ := p
      simp only at h hp
      by_cases h3 : e = 0
      · subst h3
        rw [if_pos rfl] at h
        by_cases h4 : b.length = 4
        · rw [if_pos h4] at h
          have hw := Option.some.inj h
          clear h
          obtain ⟨i0, hi, hz0, hz1, hz2⟩ := info_parts info5
          by_cases g0 : rd b 0 = 199
          · by_cases g1 : rd b 1 = 1
            · rw [if_pos g0, if_pos g1] at hw
              go_enter Try.func20, Try.ntmps20
              go_wp2_with (first
                | (go_at_call 35; (with_reducible refine (crc_Open.calls k A0 c0 l0 b 0 _ hr0 hc0 hp).mono ?_); rintro en wa ⟨vb, rfl, hoA, hbA⟩; obtain ⟨Ab, cb, rfl⟩ := Kd.R_slice hoA; have hCb := (Kd.R_reads' hoA).2.2; have hcb := (Kd.R_reads' hoA).2.1; have harr := fun (ad : Addr) W => ReqWalk.arr2 ad cb W; have hcut1 := cut_to (P := Try.prog) 23 5 .i64 Try.underlying23 hi Ab b.length cb 2 (by omega) (by omega) hcb; obtain ⟨ad, ea, hx0⟩ := Kd.at_int hCb 0 (by omega) (by omega); obtain ⟨ad1, ea1, hx1⟩ := Kd.at_int hCb 1 (by omega) (by omega); obtain ⟨ad2, ea2, hx2⟩ := Kd.at_int hCb 2 (by omega) (by omega); obtain ⟨ad3, ea3, hx3⟩ := Kd.at_int hCb 3 (by omega) (by omega); cases ea; cases ea1; cases ea2; cases ea3; obtain ⟨y0, hy0⟩ : ∃ y, y = rd b 0 := ⟨_, rfl⟩; obtain ⟨y1, hy1⟩ : ∃ y, y = rd b 1 := ⟨_, rfl⟩; obtain ⟨y2, hy2⟩ : ∃ y, y = rd b 2 := ⟨_, rfl⟩; obtain ⟨y3, hy3⟩ : ∃ y, y = rd b 3 := ⟨_, rfl⟩; rw [← hy0] at hx0; rw [← hy1] at hx1; rw [← hy2] at hx2; rw [← hy3] at hx3; rw [← hy2, ← hy3] at hw; rw [← hy0] at g0; rw [← hy1] at g1; clear hy0 hy1 hy2 hy3; have hx0' : wa.cell? ad = some (.int .u8 y0) := (by first | exact hx0 | simpa using hx0); have hx1' : wa.cell? ⟨ad.block, ad.off + 1, none⟩ = some (.int .u8 y1) := (by first | exact hx1 | simpa using hx1 | simpa [add_plain] using hx1); have hx2' : wa.cell? ⟨ad.block, ad.off + 2, none⟩ = some (.int .u8 y2) := (by first | exact hx2 | simpa using hx2 | simpa [add_plain] using hx2); have hx3' : wa.cell? ⟨ad.block, ad.off + 3, none⟩ = some (.int .u8 y3) := (by first | exact hx3 | simpa using hx3 | simpa [add_plain] using hx3); clear hx0 hx1 hx2 hx3; subst g0; subst g1; have heq : ∀ W : World, (Op.equalIn 10000 74 (.agg #[.int .u8 199, .int .u8 1]) (.agg #[.int .u8 199, .int .u8 1])).run Try.prog W = .ok true W := (fun W => ReqWalk.eq2 199 1 199 1 W)))
              go_region_held3 (fun W => W.cell? ⟨wa.heap.size, 0, none⟩ = some (.int .u8 199) ∧ W.cell? ⟨wa.heap.size, 1, none⟩ = some (.int .u8 1)) (go_keep) (first | (go_at_call 40; (refine (ReqWalk.head_any _).mono ?_); rintro e w1 ⟨rfl, rfl⟩))
              go_wp2_with (fail)
              go_region_held3 (fun W => W.cell? ⟨ad.block, ad.off + 2, none⟩ = some (.int .u8 y2) ∧ W.cell? ⟨ad.block, ad.off + 3, none⟩ = some (.int .u8 y3)) (first | go_keep) (fail)
              go_wp2_with (fail)
              go_ret3
              simp only [Prod.mk.injEq] at hw
              obtain ⟨rfl, rfl, rfl⟩ := hw
              exact ⟨rfl, by repeat (first | exact hbA | apply below_alloc | apply below_drew | refine below_set ?_ hbA.size)⟩
            · rw [if_pos g0, if_neg g1] at hw
              go_enter Try.func20, Try.ntmps20
              go_wp2_with (first
                | (go_at_call 35; (with_reducible refine (crc_Open.calls k A0 c0 l0 b 0 _ hr0 hc0 hp).mono ?_); rintro en wa ⟨vb, rfl, hoA, hbA⟩; obtain ⟨Ab, cb, rfl⟩ := Kd.R_slice hoA; have hCb := (Kd.R_reads' hoA).2.2; have hcb := (Kd.R_reads' hoA).2.1; have harr := fun (ad : Addr) W => ReqWalk.arr2 ad cb W; have hcut1 := cut_to (P := Try.prog) 23 5 .i64 Try.underlying23 hi Ab b.length cb 2 (by omega) (by omega) hcb; obtain ⟨ad, ea, hx0⟩ := Kd.at_int hCb 0 (by omega) (by omega); obtain ⟨ad1, ea1, hx1⟩ := Kd.at_int hCb 1 (by omega) (by omega); obtain ⟨ad2, ea2, hx2⟩ := Kd.at_int hCb 2 (by omega) (by omega); obtain ⟨ad3, ea3, hx3⟩ := Kd.at_int hCb 3 (by omega) (by omega); cases ea; cases ea1; cases ea2; cases ea3; obtain ⟨y0, hy0⟩ : ∃ y, y = rd b 0 := ⟨_, rfl⟩; obtain ⟨y1, hy1⟩ : ∃ y, y = rd b 1 := ⟨_, rfl⟩; obtain ⟨y2, hy2⟩ : ∃ y, y = rd b 2 := ⟨_, rfl⟩; obtain ⟨y3, hy3⟩ : ∃ y, y = rd b 3 := ⟨_, rfl⟩; rw [← hy0] at hx0; rw [← hy1] at hx1; rw [← hy2] at hx2; rw [← hy3] at hx3; rw [← hy0] at g0; rw [← hy1] at g1; clear hy0 hy1 hy2 hy3; have hx0' : wa.cell? ad = some (.int .u8 y0) := (by first | exact hx0 | simpa using hx0); have hx1' : wa.cell? ⟨ad.block, ad.off + 1, none⟩ = some (.int .u8 y1) := (by first | exact hx1 | simpa using hx1 | simpa [add_plain] using hx1); have hx2' : wa.cell? ⟨ad.block, ad.off + 2, none⟩ = some (.int .u8 y2) := (by first | exact hx2 | simpa using hx2 | simpa [add_plain] using hx2); have hx3' : wa.cell? ⟨ad.block, ad.off + 3, none⟩ = some (.int .u8 y3) := (by first | exact hx3 | simpa using hx3 | simpa [add_plain] using hx3); clear hx0 hx1 hx2 hx3; subst g0; have hg1 := beq_eq_false_iff_ne.2 g1; have heq : ∀ W : World, (Op.equalIn 10000 74 (.agg #[.int .u8 199, .int .u8 y1]) (.agg #[.int .u8 199, .int .u8 1])).run Try.prog W = .ok false W := (fun W => by rw [ReqWalk.eq2, beq_eq_false_iff_ne.2 g1, Bool.and_false])))
              go_region_held3 (fun W => W.cell? ⟨wa.heap.size, 0, none⟩ = some (.int .u8 199) ∧ W.cell? ⟨wa.heap.size, 1, none⟩ = some (.int .u8 y1)) (go_keep) (first | (go_at_call 40; (refine (ReqWalk.head_any _).mono ?_); rintro e w1 ⟨rfl, rfl⟩))
              go_wp2_with (first | (go_at_call 40; (refine (ReqWalk.head_any _).mono ?_); rintro e w1 ⟨rfl, rfl⟩))
              have ix0 : ∀ W : World, (Instr.index 74 (.agg #[.int .u8 199, .int .u8 1]) (.int .i64 0)).run Try.prog W = .ok (.int .u8 199) W := fun _ => by kernel_rfl
              have ix1 : ∀ W : World, (Instr.index 74 (.agg #[.int .u8 199, .int .u8 1]) (.int .i64 1)).run Try.prog W = .ok (.int .u8 1) W := fun _ => by kernel_rfl
              refine wp_loop_rounds 3 ?_
              rw [rounds_succ]
              go_wp2_with (fail)
              rw [rounds_succ]
              go_wp2_with (fail)
              go_region_held3 (fun W => W.cell? ⟨wa.heap.size + 2, 0, none⟩ = some (.int .i64 280) ∧ W.cell? ⟨wa.heap.size + 2, 1, none⟩ = some (.int .i64 281)) (first | exact ReqWalk.wrong_cells _ _ _ _ | go_keep) (fail)
              go_wp2_with (fail)
              go_ret3
              simp only [Prod.mk.injEq] at hw
              obtain ⟨rfl, rfl, rfl⟩ := hw
              exact ⟨rfl, by repeat (first | exact hbA | apply below_alloc | apply below_drew | refine below_set ?_ hbA.size)⟩
          · rw [if_neg g0] at hw
            go_enter Try.func20, Try.ntmps20
            go_wp2_with (first
              | (go_at_call 35; (with_reducible refine (crc_Open.calls k A0 c0 l0 b 0 _ hr0 hc0 hp).mono ?_); rintro en wa ⟨vb, rfl, hoA, hbA⟩; obtain ⟨Ab, cb, rfl⟩ := Kd.R_slice hoA; have hCb := (Kd.R_reads' hoA).2.2; have hcb := (Kd.R_reads' hoA).2.1; have harr := fun (ad : Addr) W => ReqWalk.arr2 ad cb W; have hcut1 := cut_to (P := Try.prog) 23 5 .i64 Try.underlying23 hi Ab b.length cb 2 (by omega) (by omega) hcb; obtain ⟨ad, ea, hx0⟩ := Kd.at_int hCb 0 (by omega) (by omega); obtain ⟨ad1, ea1, hx1⟩ := Kd.at_int hCb 1 (by omega) (by omega); obtain ⟨ad2, ea2, hx2⟩ := Kd.at_int hCb 2 (by omega) (by omega); obtain ⟨ad3, ea3, hx3⟩ := Kd.at_int hCb 3 (by omega) (by omega); cases ea; cases ea1; cases ea2; cases ea3; obtain ⟨y0, hy0⟩ : ∃ y, y = rd b 0 := ⟨_, rfl⟩; obtain ⟨y1, hy1⟩ : ∃ y, y = rd b 1 := ⟨_, rfl⟩; obtain ⟨y2, hy2⟩ : ∃ y, y = rd b 2 := ⟨_, rfl⟩; obtain ⟨y3, hy3⟩ : ∃ y, y = rd b 3 := ⟨_, rfl⟩; rw [← hy0] at hx0; rw [← hy1] at hx1; rw [← hy2] at hx2; rw [← hy3] at hx3; rw [← hy0] at g0; clear hy0 hy1 hy2 hy3; have hx0' : wa.cell? ad = some (.int .u8 y0) := (by first | exact hx0 | simpa using hx0); have hx1' : wa.cell? ⟨ad.block, ad.off + 1, none⟩ = some (.int .u8 y1) := (by first | exact hx1 | simpa using hx1 | simpa [add_plain] using hx1); have hx2' : wa.cell? ⟨ad.block, ad.off + 2, none⟩ = some (.int .u8 y2) := (by first | exact hx2 | simpa using hx2 | simpa [add_plain] using hx2); have hx3' : wa.cell? ⟨ad.block, ad.off + 3, none⟩ = some (.int .u8 y3) := (by first | exact hx3 | simpa using hx3 | simpa [add_plain] using hx3); clear hx0 hx1 hx2 hx3; have hg0 := beq_eq_false_iff_ne.2 g0; have heq : ∀ W : World, (Op.equalIn 10000 74 (.agg #[.int .u8 y0, .int .u8 y1]) (.agg #[.int .u8 199, .int .u8 1])).run Try.prog W = .ok false W := (fun W => by rw [ReqWalk.eq2, beq_eq_false_iff_ne.2 g0]; rfl)))
            go_region_held3 (fun W => W.cell? ⟨wa.heap.size, 0, none⟩ = some (.int .u8 y0) ∧ W.cell? ⟨wa.heap.size, 1, none⟩ = some (.int .u8 y1)) (go_keep) (first | (go_at_call 40; (refine (ReqWalk.head_any _).mono ?_); rintro e w1 ⟨rfl, rfl⟩))
            go_wp2_with (first | (go_at_call 40; (refine (ReqWalk.head_any _).mono ?_); rintro e w1 ⟨rfl, rfl⟩))
            have ix0 : ∀ W : World, (Instr.index 74 (.agg #[.int .u8 199, .int .u8 1]) (.int .i64 0)).run Try.prog W = .ok (.int .u8 199) W := fun _ => by kernel_rfl
            have ix1 : ∀ W : World, (Instr.index 74 (.agg #[.int .u8 199, .int .u8 1]) (.int .i64 1)).run Try.prog W = .ok (.int .u8 1) W := fun _ => by kernel_rfl
            refine wp_loop_rounds 3 ?_
            rw [rounds_succ]
            go_wp2_with (fail)
            go_region_held3 (fun W => W.cell? ⟨wa.heap.size + 2, 0, none⟩ = some (.int .i64 280) ∧ W.cell? ⟨wa.heap.size + 2, 1, none⟩ = some (.int .i64 281)) (first | exact ReqWalk.wrong_cells _ _ _ _ | go_keep) (fail)
            go_wp2_with (fail)
            go_ret3
            simp only [Prod.mk.injEq] at hw
            obtain ⟨rfl, rfl, rfl⟩ := hw
            exact ⟨rfl, by repeat (first | exact hbA | apply below_alloc | apply below_drew | refine below_set ?_ hbA.size)⟩
        · rw [if_neg h4] at h; cases h
      · rw [if_neg h3] at h
        have hw := Option.some.inj h
        simp only [Prod.mk.injEq] at hw
        obtain ⟨rfl, rfl, rfl⟩ := hw
        have hne : (e != 0) = true := by simpa using h3
        go_enter Try.func20, Try.ntmps20
        go_wp2_with (first
          | (go_at_call 35; (with_reducible refine (crc_Open.calls k A0 c0 l0 b e _ hr0 hc0 hp).mono ?_); rintro en wa ⟨vb, rfl, hoA, hbA⟩))
        go_ret3
        exact ⟨rfl, hbA⟩



/-! ### catamaranlaw28_alive: function 21 -/
def catamaranlaw28_alive.g (k : Nat)  : Option (Bool) := (req_Write.f k 11 1).bind fun t151 => ((req_Read.f k t151).bind fun bt154 => (if 7 ≤ 281474976710656 then ((req_Read.f k (List.replicate 7 0)).bind fun bt160 => (if 9 ≤ 281474976710656 then ((req_Read.f k (List.replicate 9 0)).bind fun bt166 => (if (t151.length : Int) = 8 then (if 4 ≤ (t151.length : Int) then (if (strOfNums (t151.take 4)).toList = ([199, 1, 11, 1] : List UInt8) then (if bt154.2.2 = 0 then (if bt154.1 = 11 then (if bt154.2.1 = 1 then (if bt160.2.2 = 10 then (some (bt166.2.2 == 4)) else (some false)) else (some false)) else (some false)) else (some false)) else (some false)) else (none)) else (some false))) else (none))) else (none)))
theorem catamaranlaw28_alive.mono_g : ∀ k, LeO (catamaranlaw28_alive.g k ) (catamaranlaw28_alive.g (k + 1) ) := by
  intro  k
  unfold catamaranlaw28_alive.g
  repeat' first
      | (with_reducible exact req_Read.mono _ _)
      | (with_reducible exact req_Write.mono _ _ _)
      | (with_reducible exact LeO.refl _)
      | (with_reducible exact LeO.none _)
      | (with_reducible refine LeO.ite ?_ ?_)
      | (with_reducible refine LeO.bind ?_ (fun _ => ?_))
      | exact req_Read.mono _ _
      | exact req_Write.mono _ _ _
      | exact LeO.none _
      | refine LeO.ite ?_ ?_
      | refine LeO.bind ?_ (fun _ => ?_)
def catamaranlaw28_alive.f (k : Nat)  : Option (Bool) := if catamaranlaw28_alive.g k  = some true then some true else none
theorem catamaranlaw28_alive.mono : ∀ k, LeO (catamaranlaw28_alive.f k ) (catamaranlaw28_alive.f (k + 1) ) :=
  fun  k => leO_only (catamaranlaw28_alive.mono_g  k)
set_option maxHeartbeats 8000000 in
set_option maxRecDepth 100000 in
theorem catamaranlaw28_alive.calls (k : Nat)  (r : Bool) (w : World) (h : catamaranlaw28_alive.f k  = some r) :
    Calls Try.prog 21 #[] w fun e w' => e = .returned (.bool r) ∧ Below w.heap.size w w' := by
  have hT_ : Aside0 (r = true) := ⟨(only_to (a := catamaranlaw28_alive.g k ) h).1⟩
  replace h := (only_to (a := catamaranlaw28_alive.g k ) h).2
  have HB := Aside0.mk (Below.refl w.heap.size w)
  have H : ((req_Write.f k 11 1).bind fun t151 => ((req_Read.f k t151).bind fun bt154 => (if 7 ≤ 281474976710656 then ((req_Read.f k (List.replicate 7 0)).bind fun bt160 => (if 9 ≤ 281474976710656 then ((req_Read.f k (List.replicate 9 0)).bind fun bt166 => (if (t151.length : Int) = 8 then (if 4 ≤ (t151.length : Int) then (if (strOfNums (t151.take 4)).toList = ([199, 1, 11, 1] : List UInt8) then (if bt154.2.2 = 0 then (if bt154.1 = 11 then (if bt154.2.1 = 1 then (if bt160.2.2 = 10 then (some (bt166.2.2 == 4)) else (some false)) else (some false)) else (some false)) else (some false)) else (some false)) else (none)) else (some false))) else (none))) else (none)))) = some r := h
  clear h
  replace H := Option.bind_eq_some_iff.mp H
  obtain ⟨t151, A10, H⟩ := H
  replace H : ((req_Read.f k t151).bind fun bt154 => (if 7 ≤ 281474976710656 then ((req_Read.f k (List.replicate 7 0)).bind fun bt160 => (if 9 ≤ 281474976710656 then ((req_Read.f k (List.replicate 9 0)).bind fun bt166 => (if (t151.length : Int) = 8 then (if 4 ≤ (t151.length : Int) then (if (strOfNums (t151.take 4)).toList = ([199, 1, 11, 1] : List UInt8) then (if bt154.2.2 = 0 then (if bt154.1 = 11 then (if bt154.2.1 = 1 then (if bt160.2.2 = 10 then (some (bt166.2.2 == 4)) else (some false)) else (some false)) else (some false)) else (some false)) else (some false)) else (none)) else (some false))) else (none))) else (none))) = some r := H
  have A1 := Aside0.mk A10
  clear A10
  replace H := Option.bind_eq_some_iff.mp H
  obtain ⟨⟨t154, t155, t156⟩, A20, H⟩ := H
  replace H : (if 7 ≤ 281474976710656 then ((req_Read.f k (List.replicate 7 0)).bind fun bt160 => (if 9 ≤ 281474976710656 then ((req_Read.f k (List.replicate 9 0)).bind fun bt166 => (if (t151.length : Int) = 8 then (if 4 ≤ (t151.length : Int) then (if (strOfNums (t151.take 4)).toList = ([199, 1, 11, 1] : List UInt8) then (if t156 = 0 then (if t154 = 11 then (if t155 = 1 then (if bt160.2.2 = 10 then (some (bt166.2.2 == 4)) else (some false)) else (some false)) else (some false)) else (some false)) else (some false)) else (none)) else (some false))) else (none))) else (none)) = some r := H
  have A2 := Aside0.mk A20
  clear A20
  by_cases c3 : 7 ≤ 281474976710656
  · rw [if_pos c3] at H
    have c3b0 := eq_true c3
    have c3b1 : decide (7 ≤ 281474976710656) = true := decide_eq_true c3
    clear c3
    obtain ⟨y157, hy157⟩ : ∃ y_ : List Int, y_ = (List.replicate 7 0) := ⟨_, rfl⟩
    replace H : ((req_Read.f k y157).bind fun bt160 => (if 9 ≤ 281474976710656 then ((req_Read.f k (List.replicate 9 0)).bind fun bt166 => (if (t151.length : Int) = 8 then (if 4 ≤ (t151.length : Int) then (if (strOfNums (t151.take 4)).toList = ([199, 1, 11, 1] : List UInt8) then (if t156 = 0 then (if t154 = 11 then (if t155 = 1 then (if bt160.2.2 = 10 then (some (bt166.2.2 == 4)) else (some false)) else (some false)) else (some false)) else (some false)) else (some false)) else (none)) else (some false))) else (none))) = some r := by first | (rw [hy157]; with_reducible exact H) | (have H2_ := (Option.bind_some _ _).symm.trans H; rw [hy157]; with_reducible exact H2_) | (have H2_ := (Option.bind_some _ _).symm.trans H; with_reducible exact H2_) | with_reducible exact H | (rw [hy157]; exact H) | exact H
    have Ny157 := Aside0.mk hy157
    clear hy157
    replace H := Option.bind_eq_some_iff.mp H
    obtain ⟨⟨t160, t161, t162⟩, A40, H⟩ := H
    replace H : (if 9 ≤ 281474976710656 then ((req_Read.f k (List.replicate 9 0)).bind fun bt166 => (if (t151.length : Int) = 8 then (if 4 ≤ (t151.length : Int) then (if (strOfNums (t151.take 4)).toList = ([199, 1, 11, 1] : List UInt8) then (if t156 = 0 then (if t154 = 11 then (if t155 = 1 then (if t162 = 10 then (some (bt166.2.2 == 4)) else (some false)) else (some false)) else (some false)) else (some false)) else (some false)) else (none)) else (some false))) else (none)) = some r := H
    have A4 := Aside0.mk A40
    clear A40
    by_cases c5 : 9 ≤ 281474976710656
    · rw [if_pos c5] at H
      have c5b0 := eq_true c5
      have c5b1 : decide (9 ≤ 281474976710656) = true := decide_eq_true c5
      clear c5
      obtain ⟨y163, hy163⟩ : ∃ y_ : List Int, y_ = (List.replicate 9 0) := ⟨_, rfl⟩
      replace H : ((req_Read.f k y163).bind fun bt166 => (if (t151.length : Int) = 8 then (if 4 ≤ (t151.length : Int) then (if (strOfNums (t151.take 4)).toList = ([199, 1, 11, 1] : List UInt8) then (if t156 = 0 then (if t154 = 11 then (if t155 = 1 then (if t162 = 10 then (some (bt166.2.2 == 4)) else (some false)) else (some false)) else (some false)) else (some false)) else (some false)) else (none)) else (some false))) = some r := by first | (rw [hy163]; with_reducible exact H) | (have H2_ := (Option.bind_some _ _).symm.trans H; rw [hy163]; with_reducible exact H2_) | (have H2_ := (Option.bind_some _ _).symm.trans H; with_reducible exact H2_) | with_reducible exact H | (rw [hy163]; exact H) | exact H
      have Ny163 := Aside0.mk hy163
      clear hy163
      replace H := Option.bind_eq_some_iff.mp H
      obtain ⟨⟨t166, t167, t168⟩, A60, H⟩ := H
      replace H : (if (t151.length : Int) = 8 then (if 4 ≤ (t151.length : Int) then (if (strOfNums (t151.take 4)).toList = ([199, 1, 11, 1] : List UInt8) then (if t156 = 0 then (if t154 = 11 then (if t155 = 1 then (if t162 = 10 then (some (t168 == 4)) else (some false)) else (some false)) else (some false)) else (some false)) else (some false)) else (none)) else (some false)) = some r := H
      have A6 := Aside0.mk A60
      clear A60
      by_cases c7 : (t151.length : Int) = 8
      · rw [if_pos c7] at H
        have c7b0 : ((t151.length : Int) == 8) = true := beq_iff_eq.mpr c7
        have c7b1 : ((t151.length : Int) != 8) = false := bne_eq_false_iff_eq.mpr c7
        clear c7
        by_cases c8 : 4 ≤ (t151.length : Int)
        · rw [if_pos c8] at H
          have c8b0 := eq_true c8
          have c8b1 : decide (4 ≤ (t151.length : Int)) = true := decide_eq_true c8
          clear c8
          obtain ⟨y169, hy169⟩ : ∃ y_ : List Int, y_ = (t151.take 4) := ⟨_, rfl⟩
          replace H : (if (strOfNums y169).toList = ([199, 1, 11, 1] : List UInt8) then (if t156 = 0 then (if t154 = 11 then (if t155 = 1 then (if t162 = 10 then (some (t168 == 4)) else (some false)) else (some false)) else (some false)) else (some false)) else (some false)) = some r := by first | (rw [hy169]; with_reducible exact H) | (have H2_ := (Option.bind_some _ _).symm.trans H; rw [hy169]; with_reducible exact H2_) | (have H2_ := (Option.bind_some _ _).symm.trans H; with_reducible exact H2_) | with_reducible exact H | (rw [hy169]; exact H) | exact H
          have Ny169 := Aside0.mk hy169
          clear hy169
          by_cases c9 : (strOfNums y169).toList = ([199, 1, 11, 1] : List UInt8)
          · rw [if_pos c9] at H
            have c9b0 : ((strOfNums y169).toList == ([199, 1, 11, 1] : List UInt8)) = true := beq_iff_eq.mpr c9
            have c9b1 : ((strOfNums y169).toList != ([199, 1, 11, 1] : List UInt8)) = false := bne_eq_false_iff_eq.mpr c9
            clear c9
            by_cases c10 : t156 = 0
            · rw [if_pos c10] at H
              have c10b0 : (t156 == 0) = true := beq_iff_eq.mpr c10
              have c10b1 : (t156 != 0) = false := bne_eq_false_iff_eq.mpr c10
              clear c10
              by_cases c11 : t154 = 11
              · rw [if_pos c11] at H
                have c11b0 : (t154 == 11) = true := beq_iff_eq.mpr c11
                have c11b1 : (t154 != 11) = false := bne_eq_false_iff_eq.mpr c11
                clear c11
                by_cases c12 : t155 = 1
                · rw [if_pos c12] at H
                  have c12b0 : (t155 == 1) = true := beq_iff_eq.mpr c12
                  have c12b1 : (t155 != 1) = false := bne_eq_false_iff_eq.mpr c12
                  clear c12
                  by_cases c13 : t162 = 10
                  · rw [if_pos c13] at H
                    have c13b0 : (t162 == 10) = true := beq_iff_eq.mpr c13
                    have c13b1 : (t162 != 10) = false := bne_eq_false_iff_eq.mpr c13
                    clear c13
                    obtain rfl := Option.some.inj H
                    go_enter Try.func21, Try.ntmps21
                    go_wp2_with (first | ((with_reducible refine gate_callee (f := 19) rfl ?_); refine goesL_ (some 11) rfl rfl Try.func19 (by kernel_rfl) rfl #[.int .u8 11, .int .u8 1] rfl (by (try simp only [List.map_toArray, List.map_cons, List.map_nil]); first | done | rfl | (simp only [List.length_drop, List.length_take]; rfl)) ?_; (with_reducible refine (req_Write.calls k 11 1 t151 _ A1.out).mono ?_); rintro e w14 ⟨v152, rfl, ho0, hb⟩; refine ⟨_, rfl, ?_⟩; have n0_ := Aside0.mk (Kd.R_lower ho0 (below_size (by repeat (first | (with_reducible first | exact HB.out | apply below_alloc | apply pw_below_drewN | apply below_drew1) | exact HB.out)))); have n1_ := Aside0.mk (below_step (by repeat (first | (with_reducible first | exact HB.out | apply below_alloc | apply pw_below_drewN | apply below_drew1) | exact HB.out)) hb); clear HB; have HO153 := n0_; have HB := n1_; clear n0_ n1_; (try clear hb); (try clear hb2); (try clear hk); (try clear hi); (try clear ho0); obtain ⟨Ao15, co15, eo15⟩ := Kd.R_slice HO153.out; subst eo15) | ((with_reducible refine gate_callee (f := 20) rfl ?_); refine goesL_ (some 14) rfl rfl Try.func20 (by kernel_rfl) rfl #[.slice Ao15 t151.length co15] rfl (by (try simp only [List.map_toArray, List.map_cons, List.map_nil]); first | done | rfl | (simp only [List.length_drop, List.length_take]; rfl)) ?_; (with_reducible refine (req_Read.calls k _ _ t151 t154 t155 t156 _ ?side1 ?side2 A2.out).mono ?_); (case side1 => repeat (first | exact (Kd.R_reads' HO153.out).2.2 | (with_reducible refine Kd.C_alloc ?_ _) | (with_reducible refine Kd.C_drewN ?_ _) | (with_reducible refine Kd.C_drew ?_))); (case side2 => exact (Kd.R_reads' HO153.out).2.1); rintro e w16 ⟨rfl, hb⟩; refine ⟨_, rfl, ?_⟩; have n0_ := Aside0.mk (Kd.R_below (by (with_reducible repeat (first | apply Kd.R_alloc | apply Kd.R_drewN | apply Kd.R_drew)); exact HO153.out) hb); have n1_ := Aside0.mk (below_step (by repeat (first | (with_reducible first | exact HB.out | apply below_alloc | apply pw_below_drewN | apply below_drew1) | exact HB.out)) hb); clear HO153; clear HB; have HO153 := n0_; have HB := n1_; clear n0_ n1_; (try clear hb); (try clear hb2); (try clear hk); (try clear hi)) | ((with_reducible refine gate_dst (N := 19) rfl ?_); refine Kd.R_make (Kd.int .u8) _ 5 rfl (N := 19) rfl 23 _ _ rfl 7 rfl rfl Try.underlying23 (.int .u8 0) 1 info5 rfl (by decide) (by omega) 0 (ok := fun _ => True) (okp := fun _ => True) rfl (fun _ hk => hk) trivial (by omega) (by omega) (Below.refl _ _) (Nat.le_refl _) ?_; intro v158 w17 ho18 hb hg_ hnew_; clear hg_ hnew_; (first | rw [← Ny157.out] at ho18 | (simp only [Int.reduceToNat] at ho18; rw [← Ny157.out] at ho18)); have n0_ := Aside0.mk (Kd.R_elder' (by (with_reducible repeat (first | apply Kd.R_alloc | apply Kd.R_drewN | apply Kd.R_drew)); exact HO153.out) (Kd.R_base ho18) hb); have n1_ := Aside0.mk (Kd.R_lower (Kd.R_new' ho18 (Kd.R_lt (by (with_reducible repeat (first | apply Kd.R_alloc | apply Kd.R_drewN | apply Kd.R_drew)); exact HO153.out))) (below_size (by repeat (first | (with_reducible first | exact HB.out | apply below_alloc | apply pw_below_drewN | apply below_drew1) | exact HB.out)))); have n2_ := Aside0.mk (below_step (by repeat (first | (with_reducible first | exact HB.out | apply below_alloc | apply pw_below_drewN | apply below_drew1) | exact HB.out)) hb); clear HO153; clear HB; have HO153 := n0_; have HO159 := n1_; have HB := n2_; clear n0_ n1_ n2_; clear hb ho18; obtain ⟨Ao19, co19, eo19⟩ := Kd.R_slice HO159.out; subst eo19) | ((with_reducible refine gate_callee (f := 20) rfl ?_); refine goesL_ (some 20) rfl rfl Try.func20 (by kernel_rfl) rfl #[.slice Ao19 y157.length co19] rfl (by (try simp only [List.map_toArray, List.map_cons, List.map_nil]); first | done | rfl | (simp only [List.length_drop, List.length_take]; rfl)) ?_; (with_reducible refine (req_Read.calls k _ _ y157 t160 t161 t162 _ ?side1 ?side2 A4.out).mono ?_); (case side1 => repeat (first | exact (Kd.R_reads' HO159.out).2.2 | (with_reducible refine Kd.C_alloc ?_ _) | (with_reducible refine Kd.C_drewN ?_ _) | (with_reducible refine Kd.C_drew ?_))); (case side2 => exact (Kd.R_reads' HO159.out).2.1); rintro e w20 ⟨rfl, hb⟩; refine ⟨_, rfl, ?_⟩; have n0_ := Aside0.mk (Kd.R_below (by (with_reducible repeat (first | apply Kd.R_alloc | apply Kd.R_drewN | apply Kd.R_drew)); exact HO153.out) hb); have n1_ := Aside0.mk (Kd.R_below (by (with_reducible repeat (first | apply Kd.R_alloc | apply Kd.R_drewN | apply Kd.R_drew)); exact HO159.out) hb); have n2_ := Aside0.mk (below_step (by repeat (first | (with_reducible first | exact HB.out | apply below_alloc | apply pw_below_drewN | apply below_drew1) | exact HB.out)) hb); clear HO153; clear HO159; clear HB; have HO153 := n0_; have HO159 := n1_; have HB := n2_; clear n0_ n1_ n2_; (try clear hb); (try clear hb2); (try clear hk); (try clear hi)) | ((with_reducible refine gate_dst (N := 25) rfl ?_); refine Kd.R_make (Kd.int .u8) _ 5 rfl (N := 25) rfl 23 _ _ rfl 9 rfl rfl Try.underlying23 (.int .u8 0) 1 info5 rfl (by decide) (by omega) 0 (ok := fun _ => True) (okp := fun _ => True) rfl (fun _ hk => hk) trivial (by omega) (by omega) (Below.refl _ _) (Nat.le_refl _) ?_; intro v164 w21 ho22 hb hg_ hnew_; clear hg_ hnew_; (first | rw [← Ny163.out] at ho22 | (simp only [Int.reduceToNat] at ho22; rw [← Ny163.out] at ho22)); have n0_ := Aside0.mk (Kd.R_elder' (by (with_reducible repeat (first | apply Kd.R_alloc | apply Kd.R_drewN | apply Kd.R_drew)); exact HO153.out) (Kd.R_base ho22) hb); have n1_ := Aside0.mk (Kd.R_elder' (by (with_reducible repeat (first | apply Kd.R_alloc | apply Kd.R_drewN | apply Kd.R_drew)); exact HO159.out) (Kd.R_base ho22) hb); have n2_ := Aside0.mk (Kd.R_lower (Kd.R_new' (Kd.R_new' ho22 (Kd.R_lt (by (with_reducible repeat (first | apply Kd.R_alloc | apply Kd.R_drewN | apply Kd.R_drew)); exact HO153.out))) (Kd.R_lt (by (with_reducible repeat (first | apply Kd.R_alloc | apply Kd.R_drewN | apply Kd.R_drew)); exact HO159.out))) (below_size (by repeat (first | (with_reducible first | exact HB.out | apply below_alloc | apply pw_below_drewN | apply below_drew1) | exact HB.out)))); have n3_ := Aside0.mk (below_step (by repeat (first | (with_reducible first | exact HB.out | apply below_alloc | apply pw_below_drewN | apply below_drew1) | exact HB.out)) hb); clear HO153; clear HO159; clear HB; have HO153 := n0_; have HO159 := n1_; have HO165 := n2_; have HB := n3_; clear n0_ n1_ n2_ n3_; clear hb ho22; obtain ⟨Ao23, co23, eo23⟩ := Kd.R_slice HO165.out; subst eo23) | ((with_reducible refine gate_callee (f := 20) rfl ?_); refine goesL_ (some 26) rfl rfl Try.func20 (by kernel_rfl) rfl #[.slice Ao23 y163.length co23] rfl (by (try simp only [List.map_toArray, List.map_cons, List.map_nil]); first | done | rfl | (simp only [List.length_drop, List.length_take]; rfl)) ?_; (with_reducible refine (req_Read.calls k _ _ y163 t166 t167 t168 _ ?side1 ?side2 A6.out).mono ?_); (case side1 => repeat (first | exact (Kd.R_reads' HO165.out).2.2 | (with_reducible refine Kd.C_alloc ?_ _) | (with_reducible refine Kd.C_drewN ?_ _) | (with_reducible refine Kd.C_drew ?_))); (case side2 => exact (Kd.R_reads' HO165.out).2.1); rintro e w24 ⟨rfl, hb⟩; refine ⟨_, rfl, ?_⟩; have n0_ := Aside0.mk (Kd.R_below (by (with_reducible repeat (first | apply Kd.R_alloc | apply Kd.R_drewN | apply Kd.R_drew)); exact HO153.out) hb); have n1_ := Aside0.mk (Kd.R_below (by (with_reducible repeat (first | apply Kd.R_alloc | apply Kd.R_drewN | apply Kd.R_drew)); exact HO159.out) hb); have n2_ := Aside0.mk (Kd.R_below (by (with_reducible repeat (first | apply Kd.R_alloc | apply Kd.R_drewN | apply Kd.R_drew)); exact HO165.out) hb); have n3_ := Aside0.mk (below_step (by repeat (first | (with_reducible first | exact HB.out | apply below_alloc | apply pw_below_drewN | apply below_drew1) | exact HB.out)) hb); clear HO153; clear HO159; clear HO165; clear HB; have HO153 := n0_; have HO159 := n1_; have HO165 := n2_; have HB := n3_; clear n0_ n1_ n2_ n3_; (try clear hb); (try clear hb2); (try clear hk); (try clear hi); have q25 : (4 : Int) ≤ ((t151.length : Int) : Int) := of_decide_eq_true (by first | (with_reducible assumption) | assumption); obtain ⟨i025, hi025, _, hsz25, _⟩ := info_parts info5; have hroom25 : t151.length ≤ co15 := (Kd.R_reads' HO153.out).2.1; have hC25 : Kd.C (Kd.int .u8) _ Ao15 t151.length t151 := (Kd.R_reads' HO153.out).2.2; have hcut25 := cut_to (P := Try.prog) 23 5 .i64 Try.underlying23 hi025 Ao15 t151.length co15 4 (by omega) q25 hroom25; have hr25 := Kd.C_take (m := 4) hC25 (by omega); have hy25 : y169.length = (4 : Int).toNat := (by rw [Ny169.out, List.length_take]; omega); rw [← Ny169.out] at hr25; rw [← hy25] at hcut25; have HR172 := Aside0.mk hr25; have HC172 := Aside0.mk (show y169.length ≤ co15 from by omega); clear hr25 hC25 hroom25 hi025 hsz25; have KY25 := Aside0.mk hy25; clear hy25; have KL25 := Aside0.mk (show 4 ≤ t151.length from by omega); replace q25 := eq_true q25; have hcv26 := Kd.C_string (P := Try.prog) (A := Ao15) (c := co15) Try.underlying23 Try.underlying5 Try.underlying9 (by repeat (first | (with_reducible exact HR172.out) | (with_reducible refine Kd.C_alloc ?_ _) | (with_reducible refine Kd.C_drewN ?_ _) | (with_reducible refine Kd.C_drew ?_) | exact HR172.out)); have hcw26 := fun m_ => Kd.C_string (P := Try.prog) (A := Ao15) (c := co15) Try.underlying23 Try.underlying5 Try.underlying9 (Kd.C_drewN (by repeat (first | (with_reducible exact HR172.out) | (with_reducible refine Kd.C_alloc ?_ _) | (with_reducible refine Kd.C_drewN ?_ _) | (with_reducible refine Kd.C_drew ?_) | exact HR172.out)) m_)))
                    go_ret
                    exact ⟨by first | rfl | (simp [errW_none, errW_some] <;> rfl) | (simp [*, errW_none, errW_some] <;> rfl), by repeat (first | (with_reducible first | exact HB.out | apply below_alloc | apply pw_below_drewN | apply below_drew1) | exact HB.out)⟩
                  · rw [if_neg c13] at H
                    have c13b0 : (t162 == 10) = false := beq_eq_false_iff_ne.mpr c13
                    have c13b1 : (t162 != 10) = true := bne_iff_ne.mpr c13
                    exact absurd ((Option.some.inj H).trans hT_.out) (by decide)
                · rw [if_neg c12] at H
                  have c12b0 : (t155 == 1) = false := beq_eq_false_iff_ne.mpr c12
                  have c12b1 : (t155 != 1) = true := bne_iff_ne.mpr c12
                  exact absurd ((Option.some.inj H).trans hT_.out) (by decide)
              · rw [if_neg c11] at H
                have c11b0 : (t154 == 11) = false := beq_eq_false_iff_ne.mpr c11
                have c11b1 : (t154 != 11) = true := bne_iff_ne.mpr c11
                exact absurd ((Option.some.inj H).trans hT_.out) (by decide)
            · rw [if_neg c10] at H
              have c10b0 : (t156 == 0) = false := beq_eq_false_iff_ne.mpr c10
              have c10b1 : (t156 != 0) = true := bne_iff_ne.mpr c10
              exact absurd ((Option.some.inj H).trans hT_.out) (by decide)
          · rw [if_neg c9] at H
            have c9b0 : ((strOfNums y169).toList == ([199, 1, 11, 1] : List UInt8)) = false := beq_eq_false_iff_ne.mpr c9
            have c9b1 : ((strOfNums y169).toList != ([199, 1, 11, 1] : List UInt8)) = true := bne_iff_ne.mpr c9
            exact absurd ((Option.some.inj H).trans hT_.out) (by decide)
        · rw [if_neg c8] at H
          exact absurd H (by simp)
      · rw [if_neg c7] at H
        have c7b0 : ((t151.length : Int) == 8) = false := beq_eq_false_iff_ne.mpr c7
        have c7b1 : ((t151.length : Int) != 8) = true := bne_iff_ne.mpr c7
        exact absurd ((Option.some.inj H).trans hT_.out) (by decide)
    · rw [if_neg c5] at H
      exact absurd H (by simp)
  · rw [if_neg c3] at H
    exact absurd H (by simp)

/-! ### catamaranref21_SameReply: function 22 -/
def catamaranref21_SameReply.f (a0_0 : Int) (a0_1 : Int) (a0_2 : Int) (l0_3 : List Int) (a1_0 : Int) (a1_1 : Int) (a1_2 : Int) (l1_3 : List Int) : Option (Bool) := if a0_0 = a1_0 then (if a0_1 = a1_1 then (if a0_2 = a1_2 then (some ((strOfNums l0_3).toList == (strOfNums l1_3).toList)) else (some false)) else (some false)) else (some false)
set_option maxHeartbeats 8000000 in
set_option maxRecDepth 100000 in
theorem catamaranref21_SameReply.calls (a0_0 : Int) (a0_1 : Int) (a0_2 : Int) (A0_3 : Option Addr) (c0_3 : Nat) (l0_3 : List Int) (a1_0 : Int) (a1_1 : Int) (a1_2 : Int) (A1_3 : Option Addr) (c1_3 : Nat) (l1_3 : List Int) (r : Bool) (w : World) (hr0_3 : Kd.C (Kd.int .u8) w A0_3 l0_3.length l0_3) (hc0_3 : l0_3.length ≤ c0_3) (hr1_3 : Kd.C (Kd.int .u8) w A1_3 l1_3.length l1_3) (hc1_3 : l1_3.length ≤ c1_3) (h : catamaranref21_SameReply.f a0_0 a0_1 a0_2 l0_3 a1_0 a1_1 a1_2 l1_3 = some r) :
    Calls Try.prog 22 #[.agg #[.int .i64 a0_0, .int .i64 a0_1, .int .u8 a0_2, .slice A0_3 l0_3.length c0_3], .agg #[.int .i64 a1_0, .int .i64 a1_1, .int .u8 a1_2, .slice A1_3 l1_3.length c1_3]] w fun e w' => e = .returned (.bool r) ∧ Below w.heap.size w w' := by
  have hu41 := Try.underlying41
  have HR0_3 := Aside0.mk hr0_3
  have HC0_3 := Aside0.mk hc0_3
  clear hr0_3 hc0_3
  have HR1_3 := Aside0.mk hr1_3
  have HC1_3 := Aside0.mk hc1_3
  clear hr1_3 hc1_3
  have HB := Aside0.mk (Below.refl w.heap.size w)
  have H : (if a0_0 = a1_0 then (if a0_1 = a1_1 then (if a0_2 = a1_2 then (some ((strOfNums l0_3).toList == (strOfNums l1_3).toList)) else (some false)) else (some false)) else (some false)) = some r := h
  clear h
  by_cases c3 : a0_0 = a1_0
  · rw [if_pos c3] at H
    have c3b0 : (a0_0 == a1_0) = true := beq_iff_eq.mpr c3
    have c3b1 : (a0_0 != a1_0) = false := bne_eq_false_iff_eq.mpr c3
    clear c3
    by_cases c4 : a0_1 = a1_1
    · rw [if_pos c4] at H
      have c4b0 : (a0_1 == a1_1) = true := beq_iff_eq.mpr c4
      have c4b1 : (a0_1 != a1_1) = false := bne_eq_false_iff_eq.mpr c4
      clear c4
      by_cases c5 : a0_2 = a1_2
      · rw [if_pos c5] at H
        have c5b0 : (a0_2 == a1_2) = true := beq_iff_eq.mpr c5
        have c5b1 : (a0_2 != a1_2) = false := bne_eq_false_iff_eq.mpr c5
        clear c5
        obtain rfl := Option.some.inj H
        go_enter Try.func22, Try.ntmps22
        go_wp2_with (first | ((with_reducible refine gate_dst (N := 2) rfl ?_); refine box_event ?hg (N := 2) ?hd (cs := #[.int .i64 a0_0, .int .i64 a0_1, .int .u8 a0_2, .slice A0_3 l0_3.length c0_3]) (t := 41) ?hr ?_; (case hd => rfl); (case hg => rfl); (case hr => first | (go_simp; done) | (go_simp; rfl)); intro gb173 hg w6 hbox hb; have n0_ := Aside0.mk (below_step (by repeat (first | (with_reducible first | exact HB.out | apply below_alloc | apply pw_below_drewN | apply below_drew1) | exact HB.out)) hb); have n1_ := Aside0.mk (hbox); have n2_ := Aside0.mk ((by rw [hg]; exact (below_size (by repeat (first | (with_reducible first | exact HB.out | apply below_alloc | apply pw_below_drewN | apply below_drew1) | exact HB.out))) : w.heap.size ≤ gb173)); have n3_ := Aside0.mk ((by rw [hg]; exact (below_size (by repeat (first | (with_reducible first | exact HB.out | apply below_alloc | apply pw_below_drewN | apply below_drew1) | exact HB.out))) : w.heap.size ≤ gb173)); clear HB; have HB := n0_; have BK173 := n1_; have GW173 := n2_; have GE173 := n3_; clear n0_ n1_ n2_ n3_; clear hb hbox hg) | ((with_reducible refine gate_dst (N := 3) rfl ?_); refine box_event ?hg (N := 3) ?hd (cs := #[.int .i64 a1_0, .int .i64 a1_1, .int .u8 a1_2, .slice A1_3 l1_3.length c1_3]) (t := 41) ?hr ?_; (case hd => rfl); (case hg => rfl); (case hr => first | (go_simp; done) | (go_simp; rfl)); intro gb174 hg w7 hbox hb; have n0_ := Aside0.mk (blk_below (g := gb173) (o := .cells #[.int .i64 a0_0, .int .i64 a0_1, .int .u8 a0_2, .slice A0_3 l0_3.length c0_3] 41 (0, 0)) (by (with_reducible repeat (first | refine blk_drewN ?_ _ | refine blk_drew ?_ | refine blk_alloc ?_ _)); exact BK173.out) hb); have n1_ := Aside0.mk (below_step (by repeat (first | (with_reducible first | exact HB.out | apply below_alloc | apply pw_below_drewN | apply below_drew1 | refine below_set ?_ GE173.out) | exact HB.out)) hb); have n2_ := Aside0.mk (hbox); have n3_ := Aside0.mk ((by rw [hg]; exact (below_size (by repeat (first | (with_reducible first | exact HB.out | apply below_alloc | apply pw_below_drewN | apply below_drew1 | refine below_set ?_ GE173.out) | exact HB.out))) : w.heap.size ≤ gb174)); have n4_ := Aside0.mk ((by rw [hg]; exact (below_size (by repeat (first | (with_reducible first | exact HB.out | apply below_alloc | apply pw_below_drewN | apply below_drew1 | refine below_set ?_ GE173.out) | exact HB.out))) : w.heap.size ≤ gb174)); have n5_ := Aside0.mk ((by rw [hg]; exact Nat.ne_of_lt (blk_lt (g := gb173) (o := .cells #[.int .i64 a0_0, .int .i64 a0_1, .int .u8 a0_2, .slice A0_3 l0_3.length c0_3] 41 (0, 0)) (by (with_reducible repeat (first | refine blk_drewN ?_ _ | refine blk_drew ?_ | refine blk_alloc ?_ _)); exact BK173.out)) : gb173 ≠ gb174)); have n6_ := Aside0.mk ((by rw [hg]; exact Nat.ne_of_gt (blk_lt (g := gb173) (o := .cells #[.int .i64 a0_0, .int .i64 a0_1, .int .u8 a0_2, .slice A0_3 l0_3.length c0_3] 41 (0, 0)) (by (with_reducible repeat (first | refine blk_drewN ?_ _ | refine blk_drew ?_ | refine blk_alloc ?_ _)); exact BK173.out)) : gb174 ≠ gb173)); clear BK173; clear HB; have BK173 := n0_; have HB := n1_; have BK174 := n2_; have GW174 := n3_; have GE174 := n4_; have NB173_174 := n5_; have NB174_173 := n6_; clear n0_ n1_ n2_ n3_ n4_ n5_ n6_; clear hb hbox hg; have hnb8 := NB173_174.out; have hnc8 := NB174_173.out; obtain ⟨hcz9_0, hcz9_1, hcz9_2, hcz9_3, hfz9_0, hfz9_1, hfz9_2, hfz9_3⟩ := blkc4 BK173.out; obtain ⟨hcz10_0, hcz10_1, hcz10_2, hcz10_3, hfz10_0, hfz10_1, hfz10_2, hfz10_3⟩ := blkc4 BK174.out; have hcv11 := Kd.C_string (P := Try.prog) (A := A0_3) (c := c0_3) Try.underlying23 Try.underlying5 Try.underlying9 (Kd.C_below HR0_3.out HB.out); have hcw11 := fun m_ => Kd.C_string (P := Try.prog) (A := A0_3) (c := c0_3) Try.underlying23 Try.underlying5 Try.underlying9 (Kd.C_drewN (Kd.C_below HR0_3.out HB.out) m_); have hcv12 := Kd.C_string (P := Try.prog) (A := A1_3) (c := c1_3) Try.underlying23 Try.underlying5 Try.underlying9 (Kd.C_below HR1_3.out HB.out); have hcw12 := fun m_ => Kd.C_string (P := Try.prog) (A := A1_3) (c := c1_3) Try.underlying23 Try.underlying5 Try.underlying9 (Kd.C_drewN (Kd.C_below HR1_3.out HB.out) m_)))
        go_ret
        exact ⟨by first | rfl | (simp [errW_none, errW_some] <;> rfl) | (simp [*, errW_none, errW_some] <;> rfl), by repeat (first | (with_reducible first | exact HB.out | apply below_alloc | apply pw_below_drewN | apply below_drew1 | refine below_set ?_ GE173.out | refine below_set ?_ GE174.out) | exact HB.out)⟩
      · rw [if_neg c5] at H
        have c5b0 : (a0_2 == a1_2) = false := beq_eq_false_iff_ne.mpr c5
        have c5b1 : (a0_2 != a1_2) = true := bne_iff_ne.mpr c5
        obtain rfl := Option.some.inj H
        go_enter Try.func22, Try.ntmps22
        go_wp2_with (first | ((with_reducible refine gate_dst (N := 2) rfl ?_); refine box_event ?hg (N := 2) ?hd (cs := #[.int .i64 a0_0, .int .i64 a0_1, .int .u8 a0_2, .slice A0_3 l0_3.length c0_3]) (t := 41) ?hr ?_; (case hd => rfl); (case hg => rfl); (case hr => first | (go_simp; done) | (go_simp; rfl)); intro gb173 hg w13 hbox hb; have n0_ := Aside0.mk (below_step (by repeat (first | (with_reducible first | exact HB.out | apply below_alloc | apply pw_below_drewN | apply below_drew1) | exact HB.out)) hb); have n1_ := Aside0.mk (hbox); have n2_ := Aside0.mk ((by rw [hg]; exact (below_size (by repeat (first | (with_reducible first | exact HB.out | apply below_alloc | apply pw_below_drewN | apply below_drew1) | exact HB.out))) : w.heap.size ≤ gb173)); have n3_ := Aside0.mk ((by rw [hg]; exact (below_size (by repeat (first | (with_reducible first | exact HB.out | apply below_alloc | apply pw_below_drewN | apply below_drew1) | exact HB.out))) : w.heap.size ≤ gb173)); clear HB; have HB := n0_; have BK173 := n1_; have GW173 := n2_; have GE173 := n3_; clear n0_ n1_ n2_ n3_; clear hb hbox hg) | ((with_reducible refine gate_dst (N := 3) rfl ?_); refine box_event ?hg (N := 3) ?hd (cs := #[.int .i64 a1_0, .int .i64 a1_1, .int .u8 a1_2, .slice A1_3 l1_3.length c1_3]) (t := 41) ?hr ?_; (case hd => rfl); (case hg => rfl); (case hr => first | (go_simp; done) | (go_simp; rfl)); intro gb174 hg w14 hbox hb; have n0_ := Aside0.mk (blk_below (g := gb173) (o := .cells #[.int .i64 a0_0, .int .i64 a0_1, .int .u8 a0_2, .slice A0_3 l0_3.length c0_3] 41 (0, 0)) (by (with_reducible repeat (first | refine blk_drewN ?_ _ | refine blk_drew ?_ | refine blk_alloc ?_ _)); exact BK173.out) hb); have n1_ := Aside0.mk (below_step (by repeat (first | (with_reducible first | exact HB.out | apply below_alloc | apply pw_below_drewN | apply below_drew1 | refine below_set ?_ GE173.out) | exact HB.out)) hb); have n2_ := Aside0.mk (hbox); have n3_ := Aside0.mk ((by rw [hg]; exact (below_size (by repeat (first | (with_reducible first | exact HB.out | apply below_alloc | apply pw_below_drewN | apply below_drew1 | refine below_set ?_ GE173.out) | exact HB.out))) : w.heap.size ≤ gb174)); have n4_ := Aside0.mk ((by rw [hg]; exact (below_size (by repeat (first | (with_reducible first | exact HB.out | apply below_alloc | apply pw_below_drewN | apply below_drew1 | refine below_set ?_ GE173.out) | exact HB.out))) : w.heap.size ≤ gb174)); have n5_ := Aside0.mk ((by rw [hg]; exact Nat.ne_of_lt (blk_lt (g := gb173) (o := .cells #[.int .i64 a0_0, .int .i64 a0_1, .int .u8 a0_2, .slice A0_3 l0_3.length c0_3] 41 (0, 0)) (by (with_reducible repeat (first | refine blk_drewN ?_ _ | refine blk_drew ?_ | refine blk_alloc ?_ _)); exact BK173.out)) : gb173 ≠ gb174)); have n6_ := Aside0.mk ((by rw [hg]; exact Nat.ne_of_gt (blk_lt (g := gb173) (o := .cells #[.int .i64 a0_0, .int .i64 a0_1, .int .u8 a0_2, .slice A0_3 l0_3.length c0_3] 41 (0, 0)) (by (with_reducible repeat (first | refine blk_drewN ?_ _ | refine blk_drew ?_ | refine blk_alloc ?_ _)); exact BK173.out)) : gb174 ≠ gb173)); clear BK173; clear HB; have BK173 := n0_; have HB := n1_; have BK174 := n2_; have GW174 := n3_; have GE174 := n4_; have NB173_174 := n5_; have NB174_173 := n6_; clear n0_ n1_ n2_ n3_ n4_ n5_ n6_; clear hb hbox hg; have hnb15 := NB173_174.out; have hnc15 := NB174_173.out; obtain ⟨hcz16_0, hcz16_1, hcz16_2, hcz16_3, hfz16_0, hfz16_1, hfz16_2, hfz16_3⟩ := blkc4 BK173.out; obtain ⟨hcz17_0, hcz17_1, hcz17_2, hcz17_3, hfz17_0, hfz17_1, hfz17_2, hfz17_3⟩ := blkc4 BK174.out))
        go_ret
        exact ⟨by first | rfl | (simp [errW_none, errW_some] <;> rfl) | (simp [*, errW_none, errW_some] <;> rfl), by repeat (first | (with_reducible first | exact HB.out | apply below_alloc | apply pw_below_drewN | apply below_drew1 | refine below_set ?_ GE173.out | refine below_set ?_ GE174.out) | exact HB.out)⟩
    · rw [if_neg c4] at H
      have c4b0 : (a0_1 == a1_1) = false := beq_eq_false_iff_ne.mpr c4
      have c4b1 : (a0_1 != a1_1) = true := bne_iff_ne.mpr c4
      obtain rfl := Option.some.inj H
      go_enter Try.func22, Try.ntmps22
      go_wp2_with (first | ((with_reducible refine gate_dst (N := 2) rfl ?_); refine box_event ?hg (N := 2) ?hd (cs := #[.int .i64 a0_0, .int .i64 a0_1, .int .u8 a0_2, .slice A0_3 l0_3.length c0_3]) (t := 41) ?hr ?_; (case hd => rfl); (case hg => rfl); (case hr => first | (go_simp; done) | (go_simp; rfl)); intro gb173 hg w18 hbox hb; have n0_ := Aside0.mk (below_step (by repeat (first | (with_reducible first | exact HB.out | apply below_alloc | apply pw_below_drewN | apply below_drew1) | exact HB.out)) hb); have n1_ := Aside0.mk (hbox); have n2_ := Aside0.mk ((by rw [hg]; exact (below_size (by repeat (first | (with_reducible first | exact HB.out | apply below_alloc | apply pw_below_drewN | apply below_drew1) | exact HB.out))) : w.heap.size ≤ gb173)); have n3_ := Aside0.mk ((by rw [hg]; exact (below_size (by repeat (first | (with_reducible first | exact HB.out | apply below_alloc | apply pw_below_drewN | apply below_drew1) | exact HB.out))) : w.heap.size ≤ gb173)); clear HB; have HB := n0_; have BK173 := n1_; have GW173 := n2_; have GE173 := n3_; clear n0_ n1_ n2_ n3_; clear hb hbox hg) | ((with_reducible refine gate_dst (N := 3) rfl ?_); refine box_event ?hg (N := 3) ?hd (cs := #[.int .i64 a1_0, .int .i64 a1_1, .int .u8 a1_2, .slice A1_3 l1_3.length c1_3]) (t := 41) ?hr ?_; (case hd => rfl); (case hg => rfl); (case hr => first | (go_simp; done) | (go_simp; rfl)); intro gb174 hg w19 hbox hb; have n0_ := Aside0.mk (blk_below (g := gb173) (o := .cells #[.int .i64 a0_0, .int .i64 a0_1, .int .u8 a0_2, .slice A0_3 l0_3.length c0_3] 41 (0, 0)) (by (with_reducible repeat (first | refine blk_drewN ?_ _ | refine blk_drew ?_ | refine blk_alloc ?_ _)); exact BK173.out) hb); have n1_ := Aside0.mk (below_step (by repeat (first | (with_reducible first | exact HB.out | apply below_alloc | apply pw_below_drewN | apply below_drew1 | refine below_set ?_ GE173.out) | exact HB.out)) hb); have n2_ := Aside0.mk (hbox); have n3_ := Aside0.mk ((by rw [hg]; exact (below_size (by repeat (first | (with_reducible first | exact HB.out | apply below_alloc | apply pw_below_drewN | apply below_drew1 | refine below_set ?_ GE173.out) | exact HB.out))) : w.heap.size ≤ gb174)); have n4_ := Aside0.mk ((by rw [hg]; exact (below_size (by repeat (first | (with_reducible first | exact HB.out | apply below_alloc | apply pw_below_drewN | apply below_drew1 | refine below_set ?_ GE173.out) | exact HB.out))) : w.heap.size ≤ gb174)); have n5_ := Aside0.mk ((by rw [hg]; exact Nat.ne_of_lt (blk_lt (g := gb173) (o := .cells #[.int .i64 a0_0, .int .i64 a0_1, .int .u8 a0_2, .slice A0_3 l0_3.length c0_3] 41 (0, 0)) (by (with_reducible repeat (first | refine blk_drewN ?_ _ | refine blk_drew ?_ | refine blk_alloc ?_ _)); exact BK173.out)) : gb173 ≠ gb174)); have n6_ := Aside0.mk ((by rw [hg]; exact Nat.ne_of_gt (blk_lt (g := gb173) (o := .cells #[.int .i64 a0_0, .int .i64 a0_1, .int .u8 a0_2, .slice A0_3 l0_3.length c0_3] 41 (0, 0)) (by (with_reducible repeat (first | refine blk_drewN ?_ _ | refine blk_drew ?_ | refine blk_alloc ?_ _)); exact BK173.out)) : gb174 ≠ gb173)); clear BK173; clear HB; have BK173 := n0_; have HB := n1_; have BK174 := n2_; have GW174 := n3_; have GE174 := n4_; have NB173_174 := n5_; have NB174_173 := n6_; clear n0_ n1_ n2_ n3_ n4_ n5_ n6_; clear hb hbox hg; have hnb20 := NB173_174.out; have hnc20 := NB174_173.out; obtain ⟨hcz21_0, hcz21_1, hcz21_2, hcz21_3, hfz21_0, hfz21_1, hfz21_2, hfz21_3⟩ := blkc4 BK173.out; obtain ⟨hcz22_0, hcz22_1, hcz22_2, hcz22_3, hfz22_0, hfz22_1, hfz22_2, hfz22_3⟩ := blkc4 BK174.out))
      go_ret
      exact ⟨by first | rfl | (simp [errW_none, errW_some] <;> rfl) | (simp [*, errW_none, errW_some] <;> rfl), by repeat (first | (with_reducible first | exact HB.out | apply below_alloc | apply pw_below_drewN | apply below_drew1 | refine below_set ?_ GE173.out | refine below_set ?_ GE174.out) | exact HB.out)⟩
  · rw [if_neg c3] at H
    have c3b0 : (a0_0 == a1_0) = false := beq_eq_false_iff_ne.mpr c3
    have c3b1 : (a0_0 != a1_0) = true := bne_iff_ne.mpr c3
    obtain rfl := Option.some.inj H
    go_enter Try.func22, Try.ntmps22
    go_wp2_with (first | ((with_reducible refine gate_dst (N := 2) rfl ?_); refine box_event ?hg (N := 2) ?hd (cs := #[.int .i64 a0_0, .int .i64 a0_1, .int .u8 a0_2, .slice A0_3 l0_3.length c0_3]) (t := 41) ?hr ?_; (case hd => rfl); (case hg => rfl); (case hr => first | (go_simp; done) | (go_simp; rfl)); intro gb173 hg w23 hbox hb; have n0_ := Aside0.mk (below_step (by repeat (first | (with_reducible first | exact HB.out | apply below_alloc | apply pw_below_drewN | apply below_drew1) | exact HB.out)) hb); have n1_ := Aside0.mk (hbox); have n2_ := Aside0.mk ((by rw [hg]; exact (below_size (by repeat (first | (with_reducible first | exact HB.out | apply below_alloc | apply pw_below_drewN | apply below_drew1) | exact HB.out))) : w.heap.size ≤ gb173)); have n3_ := Aside0.mk ((by rw [hg]; exact (below_size (by repeat (first | (with_reducible first | exact HB.out | apply below_alloc | apply pw_below_drewN | apply below_drew1) | exact HB.out))) : w.heap.size ≤ gb173)); clear HB; have HB := n0_; have BK173 := n1_; have GW173 := n2_; have GE173 := n3_; clear n0_ n1_ n2_ n3_; clear hb hbox hg) | ((with_reducible refine gate_dst (N := 3) rfl ?_); refine box_event ?hg (N := 3) ?hd (cs := #[.int .i64 a1_0, .int .i64 a1_1, .int .u8 a1_2, .slice A1_3 l1_3.length c1_3]) (t := 41) ?hr ?_; (case hd => rfl); (case hg => rfl); (case hr => first | (go_simp; done) | (go_simp; rfl)); intro gb174 hg w24 hbox hb; have n0_ := Aside0.mk (blk_below (g := gb173) (o := .cells #[.int .i64 a0_0, .int .i64 a0_1, .int .u8 a0_2, .slice A0_3 l0_3.length c0_3] 41 (0, 0)) (by (with_reducible repeat (first | refine blk_drewN ?_ _ | refine blk_drew ?_ | refine blk_alloc ?_ _)); exact BK173.out) hb); have n1_ := Aside0.mk (below_step (by repeat (first | (with_reducible first | exact HB.out | apply below_alloc | apply pw_below_drewN | apply below_drew1 | refine below_set ?_ GE173.out) | exact HB.out)) hb); have n2_ := Aside0.mk (hbox); have n3_ := Aside0.mk ((by rw [hg]; exact (below_size (by repeat (first | (with_reducible first | exact HB.out | apply below_alloc | apply pw_below_drewN | apply below_drew1 | refine below_set ?_ GE173.out) | exact HB.out))) : w.heap.size ≤ gb174)); have n4_ := Aside0.mk ((by rw [hg]; exact (below_size (by repeat (first | (with_reducible first | exact HB.out | apply below_alloc | apply pw_below_drewN | apply below_drew1 | refine below_set ?_ GE173.out) | exact HB.out))) : w.heap.size ≤ gb174)); have n5_ := Aside0.mk ((by rw [hg]; exact Nat.ne_of_lt (blk_lt (g := gb173) (o := .cells #[.int .i64 a0_0, .int .i64 a0_1, .int .u8 a0_2, .slice A0_3 l0_3.length c0_3] 41 (0, 0)) (by (with_reducible repeat (first | refine blk_drewN ?_ _ | refine blk_drew ?_ | refine blk_alloc ?_ _)); exact BK173.out)) : gb173 ≠ gb174)); have n6_ := Aside0.mk ((by rw [hg]; exact Nat.ne_of_gt (blk_lt (g := gb173) (o := .cells #[.int .i64 a0_0, .int .i64 a0_1, .int .u8 a0_2, .slice A0_3 l0_3.length c0_3] 41 (0, 0)) (by (with_reducible repeat (first | refine blk_drewN ?_ _ | refine blk_drew ?_ | refine blk_alloc ?_ _)); exact BK173.out)) : gb174 ≠ gb173)); clear BK173; clear HB; have BK173 := n0_; have HB := n1_; have BK174 := n2_; have GW174 := n3_; have GE174 := n4_; have NB173_174 := n5_; have NB174_173 := n6_; clear n0_ n1_ n2_ n3_ n4_ n5_ n6_; clear hb hbox hg; have hnb25 := NB173_174.out; have hnc25 := NB174_173.out; obtain ⟨hcz26_0, hcz26_1, hcz26_2, hcz26_3, hfz26_0, hfz26_1, hfz26_2, hfz26_3⟩ := blkc4 BK173.out; obtain ⟨hcz27_0, hcz27_1, hcz27_2, hcz27_3, hfz27_0, hfz27_1, hfz27_2, hfz27_3⟩ := blkc4 BK174.out))
    go_ret
    exact ⟨by first | rfl | (simp [errW_none, errW_some] <;> rfl) | (simp [*, errW_none, errW_some] <;> rfl), by repeat (first | (with_reducible first | exact HB.out | apply below_alloc | apply pw_below_drewN | apply below_drew1 | refine below_set ?_ GE173.out | refine below_set ?_ GE174.out) | exact HB.out)⟩

end Go.Proofs.Ytanpdbdpphdblaa.PRq
