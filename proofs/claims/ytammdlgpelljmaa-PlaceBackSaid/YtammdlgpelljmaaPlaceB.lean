/- What the package place's find and Sectors compute. -/
import Derived.LoopN
import Derived.Test.YtammdlgpelljmaaPlaceA
namespace Go.Proofs.Ytammdlgpelljmaa.PlaceWalk
open Go.RowKit Go.Proofs.YtammdlgpelljmaaW.PrintWords
theorem size_any (k x y z s : Int) (w : World) (h : wrap64 (wrap64 (x * y) * z) = s) :
    Calls Try.prog 60 #[.agg #[.int .u8 k, .int .i64 x, .int .i64 y, .int .i64 z]] w fun en w' => en = .returned (.int .i64 s) ∧ Below w.heap.size w w' := by
  have H := Aside0.mk h
  clear h
  go_enter Try.func60, Try.ntmps60
  go_wp2
  go_ret
  exact ⟨ret_i64 H.out, below_alloc (Below.refl _ _) _⟩
theorem pgs_in {b : Int} (h1 : 1 ≤ b) (h2 : b ≤ 16) : pgs b = (b + 7) / 8 := by
  unfold pgs
  rw [show wrap64 (b + 8) = b + 8 by unfold wrap64; omega, show wrap64 (b + 8 - 1) = b + 7 by unfold wrap64; omega, Int.tdiv_eq_ediv_of_nonneg (by omega)]
  unfold wrap64
  omega
theorem pOk_of {a b c d e f : Int} (h : pOk a b c d e f = true) : 1 ≤ a ∧ a ≤ 3 ∧ 1 ≤ b ∧ b ≤ 16 ∧ a + 2 ≤ c ∧ c ≤ 32 ∧ 1 ≤ d ∧ d ≤ a ∧ 1 ≤ e ∧ e ≤ 4 ∧ 4 ≤ f ∧ f ≤ 64 := of_decide_eq_true h
theorem cfg_cells {a b c d e f : Int} {w w1 : World} (hb : Below (w.alloc (.cells #[.int .i64 a, .int .i64 b, .int .i64 c, .int .i64 d, .int .i64 e, .int .i64 f] 23)).heap.size (w.alloc (.cells #[.int .i64 a, .int .i64 b, .int .i64 c, .int .i64 d, .int .i64 e, .int .i64 f] 23)) w1) :
    w1.cell? ⟨w.heap.size, 0, none⟩ = some (.int .i64 a) ∧ w1.cell? ⟨w.heap.size, 1, none⟩ = some (.int .i64 b) ∧ w1.cell? ⟨w.heap.size, 2, none⟩ = some (.int .i64 c) ∧ w1.cell? ⟨w.heap.size, 3, none⟩ = some (.int .i64 d) ∧ w1.cell? ⟨w.heap.size, 4, none⟩ = some (.int .i64 e) ∧ w1.cell? ⟨w.heap.size, 5, none⟩ = some (.int .i64 f) :=
  ⟨pw_cell_below hb ((cell_of_row _ _ 0 _ _ _ (heap_alloc_new w _)).trans rfl), pw_cell_below hb ((cell_of_row _ _ 1 _ _ _ (heap_alloc_new w _)).trans rfl), pw_cell_below hb ((cell_of_row _ _ 2 _ _ _ (heap_alloc_new w _)).trans rfl), pw_cell_below hb ((cell_of_row _ _ 3 _ _ _ (heap_alloc_new w _)).trans rfl), pw_cell_below hb ((cell_of_row _ _ 4 _ _ _ (heap_alloc_new w _)).trans rfl), pw_cell_below hb ((cell_of_row _ _ 5 _ _ _ (heap_alloc_new w _)).trans rfl)⟩
def pg (b : Int) : Int := (b + 7) / 8
def secR (a b c d e f : Int) : Int × Int := if pOk a b c d e f then (2 + 2 * c + a * pg b + 4 * (a * b), 0) else (0, 8)
theorem mul_bd {a b m n : Int} (h1 : 1 ≤ a) (h2 : a ≤ m) (h3 : 1 ≤ b) (h4 : b ≤ n) : 1 ≤ a * b ∧ a * b ≤ m * n := by
  have h5 := Int.mul_le_mul h1 h3 (by omega) (by omega)
  have h6 := Int.mul_le_mul h2 h4 (by omega) (by omega)
  omega
theorem part_at0 (a b c p : Int) (W : World) : (Instr.index 80 (.agg #[.int .u8 1, .int .i64 1, .int .i64 1, .int .i64 2, .int .u8 2, .int .i64 2, .int .i64 c, .int .i64 1, .int .u8 3, .int .i64 a, .int .i64 p, .int .i64 1, .int .u8 4, .int .i64 a, .int .i64 b, .int .i64 4]) (.int .i64 0)).run Try.prog W = .ok (.agg #[.int .u8 1, .int .i64 1, .int .i64 1, .int .i64 2]) W := by kernel_rfl
theorem part_at1 (a b c p : Int) (W : World) : (Instr.index 80 (.agg #[.int .u8 1, .int .i64 1, .int .i64 1, .int .i64 2, .int .u8 2, .int .i64 2, .int .i64 c, .int .i64 1, .int .u8 3, .int .i64 a, .int .i64 p, .int .i64 1, .int .u8 4, .int .i64 a, .int .i64 b, .int .i64 4]) (.int .i64 1)).run Try.prog W = .ok (.agg #[.int .u8 2, .int .i64 2, .int .i64 c, .int .i64 1]) W := by kernel_rfl
theorem part_at2 (a b c p : Int) (W : World) : (Instr.index 80 (.agg #[.int .u8 1, .int .i64 1, .int .i64 1, .int .i64 2, .int .u8 2, .int .i64 2, .int .i64 c, .int .i64 1, .int .u8 3, .int .i64 a, .int .i64 p, .int .i64 1, .int .u8 4, .int .i64 a, .int .i64 b, .int .i64 4]) (.int .i64 2)).run Try.prog W = .ok (.agg #[.int .u8 3, .int .i64 a, .int .i64 p, .int .i64 1]) W := by kernel_rfl
theorem part_at3 (a b c p : Int) (W : World) : (Instr.index 80 (.agg #[.int .u8 1, .int .i64 1, .int .i64 1, .int .i64 2, .int .u8 2, .int .i64 2, .int .i64 c, .int .i64 1, .int .u8 3, .int .i64 a, .int .i64 p, .int .i64 1, .int .u8 4, .int .i64 a, .int .i64 b, .int .i64 4]) (.int .i64 3)).run Try.prog W = .ok (.agg #[.int .u8 4, .int .i64 a, .int .i64 b, .int .i64 4]) W := by kernel_rfl
set_option maxRecDepth 100000 in
set_option maxHeartbeats 4000000 in
theorem sectors_any (a b c d e f : Int) (w : World) :
    Calls Try.prog 20 #[.agg #[.int .i64 a, .int .i64 b, .int .i64 c, .int .i64 d, .int .i64 e, .int .i64 f]] w fun en w' => en = .returned (.tuple #[.int .i64 (secR a b c d e f).1, .int .i64 (secR a b c d e f).2]) ∧ Below w.heap.size w w' := by
  cases hq : pOk a b c d e f with
  | false =>
    have HE : Aside0 (pErr a b c d e f = 8) := ⟨by unfold pErr; rw [hq]; rfl⟩
    have HR : Aside0 (secR a b c d e f = (0, 8)) := ⟨by unfold secR; rw [hq]; rfl⟩
    clear hq
    go_enter Try.func20, Try.ntmps20
    go_wp2_with (go_at_call 26; refine (check_any a b c d e f _).mono ?_; rintro en w1 ⟨rfl, hb⟩; rw [HE.out]; have HB := Aside0.mk hb; clear hb)
    go_ret2
    exact ⟨by rw [HR.out]; rfl, below_trans (below_alloc (Below.refl _ _) _) HB.out⟩
  | true =>
    have HE : Aside0 (pErr a b c d e f = 0) := ⟨by unfold pErr; rw [hq]; rfl⟩
    have HR : Aside0 (secR a b c d e f = (2 + 2 * c + a * pg b + 4 * (a * b), 0)) := ⟨by unfold secR; rw [hq]; rfl⟩
    obtain ⟨h1, h2, h3, h4, h5, h6, _, _, _, _, _, _⟩ := pOk_of hq
    obtain ⟨p, hp⟩ : ∃ p, pgs b = p := ⟨_, rfl⟩
    have hp2 : p = pg b := by rw [← hp, pgs_in h3 h4]; rfl
    have hp3 : 1 ≤ p ∧ p ≤ 2 := by rw [hp2]; unfold pg; omega
    obtain ⟨hp4, hp5⟩ := hp3
    obtain ⟨q, hq1⟩ : ∃ q, a * p = q := ⟨_, rfl⟩
    obtain ⟨t, ht1⟩ : ∃ t, a * b = t := ⟨_, rfl⟩
    have hq2 := mul_bd h1 h2 hp4 hp5
    have ht2 := mul_bd h1 h2 h3 h4
    rw [hq1] at hq2
    rw [ht1] at ht2
    have S0 : Aside0 (wrap64 (wrap64 (1 * 1) * 2) = 2) := ⟨by unfold wrap64; omega⟩
    have S1 : Aside0 (wrap64 (wrap64 (2 * c) * 1) = 2 * c) := ⟨by unfold wrap64; omega⟩
    have S2 : Aside0 (wrap64 (wrap64 (a * p) * 1) = q) := ⟨by rw [hq1]; unfold wrap64; omega⟩
    have S3 : Aside0 (wrap64 (wrap64 (a * b) * 4) = 4 * t) := ⟨by rw [ht1]; unfold wrap64; omega⟩
    have HR2 : Aside0 (secR a b c d e f = (2 + 2 * c + q + 4 * t, 0)) := ⟨by rw [HR.out, ← hp2, hq1, ht1]⟩
    have HP := Aside0.mk hp
    obtain ⟨hq3, hq4⟩ := hq2
    obtain ⟨ht3, ht4⟩ := ht2
    clear hq hp hp2 hq1 ht1 HR
    go_enter Try.func20, Try.ntmps20
    go_wp2_with (first | (go_at_call 26; refine (check_any a b c d e f _).mono ?_; rintro en w1 ⟨rfl, hb⟩; rw [HE.out]; obtain ⟨k0, k1, k2, k3, k4, k5⟩ := cfg_cells hb; have HB := Aside0.mk (below_trans (below_alloc (Below.refl _ _) _) hb); clear hb) | (go_at_call 59; refine (parts_any a b c d e f _).mono ?_; rintro en w2 ⟨rfl, hb⟩; unfold partsV; rw [HP.out]; have HB2 := Aside0.mk (below_trans HB.out hb); clear HB hb))
    have ix0 := part_at0 a b c p
    have ix1 := part_at1 a b c p
    have ix2 := part_at2 a b c p
    have ix3 := part_at3 a b c p
    refine wp_loop_rounds 5 ?_
    rw [rounds_succ]
    go_wp2_with (first | (go_at_call 60; refine (size_any _ _ _ _ _ _ S0.out).mono ?_; rintro en w3 ⟨rfl, hb⟩; have HB3 := Aside0.mk (below_trans (below_alloc HB2.out _) hb); clear HB2 hb))
    rw [rounds_succ]
    go_wp2_with (first | (go_at_call 60; refine (size_any _ _ _ _ _ _ S1.out).mono ?_; rintro en w4 ⟨rfl, hb⟩; have HB4 := Aside0.mk (below_trans (below_alloc HB3.out _) hb); clear HB3 hb))
    rw [rounds_succ]
    go_wp2_with (first | (go_at_call 60; refine (size_any _ _ _ _ _ _ S2.out).mono ?_; rintro en w5 ⟨rfl, hb⟩; have HB5 := Aside0.mk (below_trans (below_alloc HB4.out _) hb); clear HB4 hb))
    rw [rounds_succ]
    go_wp2_with (first | (go_at_call 60; refine (size_any _ _ _ _ _ _ S3.out).mono ?_; rintro en w6 ⟨rfl, hb⟩; have HB6 := Aside0.mk (below_trans (below_alloc HB5.out _) hb); clear HB5 hb))
    rw [rounds_succ]
    go_wp2
    go_ret2
    exact ⟨by rw [HR2.out]; rfl, HB6.out⟩
theorem lt22 (w : World) (A B : Obj) : w.heap.size + 1 < ((w.alloc A).alloc B).heap.size := by simp
theorem two_at {w : World} {g t : Nat} {fr : Nat × Nat} {a b c d e f : Int} (h : w.heap[g]? = some (.cells #[.int .i64 a, .int .i64 b, .int .i64 c, .int .i64 d, .int .i64 e, .int .i64 f] t fr)) : AtB w g [(a, b, c), (d, e, f)] := by
  intro j hj
  have hj6 : j < 2 := hj
  rcases (by omega : j = 0 ∨ j = 1) with rfl | rfl <;> exact ⟨(cell_of_row w g _ _ _ _ h).trans rfl, (cell_of_row w g _ _ _ _ h).trans rfl, (cell_of_row w g _ _ _ _ h).trans rfl⟩
theorem ret_two {a a' b b' : Int} (h : a = a') (h2 : b = b') : Ending.returned (.tuple #[.int .i64 a, .int .i64 b]) = .returned (.tuple #[.int .i64 a', .int .i64 b']) := by rw [h, h2]
theorem two_cells (w : World) (k o m n : Value) (t : TypeId) (B : Obj) : ((w.alloc (.cells #[k, o, m, n] t)).alloc B).cell? ⟨w.heap.size, 2, none⟩ = some m := (cell_of_row _ _ 2 _ _ _ (heap_alloc2_old w _ _)).trans rfl
theorem two_cells2 (w : World) (k o m n : Value) (t : TypeId) (B : Obj) : ((w.alloc (.cells #[k, o, m, n] t)).alloc B).cell? ⟨w.heap.size, 3, none⟩ = some n := (cell_of_row _ _ 3 _ _ _ (heap_alloc2_old w _ _)).trans rfl
def inD (x y O M : Int) : Bool := decide (0 ≤ x ∧ x < O ∧ 0 ≤ y ∧ y < M)
theorem inD_all {x y O M : Int} : [(x, 0, O - 1), (y, 0, M - 1)].all inB = inD x y O M := by
  unfold inD
  rw [Bool.eq_iff_iff]
  simp [inB]
  omega
theorem prod_bd {x M O : Int} (h0 : 0 ≤ x) (h1 : x < O) (h2 : O ≤ 3) (h3 : 1 ≤ M) (h4 : M ≤ 32) : 0 ≤ x * M ∧ x * M ≤ 64 := by
  have h5 := Int.mul_nonneg h0 (show 0 ≤ M by omega)
  have h6 := Int.mul_le_mul (show x ≤ 2 by omega) h4 (by omega) (by omega)
  omega
def areaR (a b c d e f x y : Int) : Int × Int := if pOk a b c d e f then (if inD x y 2 c then (2 + (x * c + y), 0) else (0, 2)) else (0, 8)
def pageR (a b c d e f x y : Int) : Int × Int := if pOk a b c d e f then (if inD x y a (pg b) then (2 + 2 * c + (x * pg b + y), 0) else (0, 2)) else (0, 8)
def trackR (a b c d e f x y : Int) : Int × Int := if pOk a b c d e f then (if inD x y a b then (2 + 2 * c + a * pg b + 4 * (x * b + y), 0) else (0, 2)) else (0, 8)
set_option maxRecDepth 100000 in
set_option maxHeartbeats 4000000 in
theorem find_area (a b c d e f x y : Int) (w : World) :
    Calls Try.prog 52 #[.agg #[.int .i64 a, .int .i64 b, .int .i64 c, .int .i64 d, .int .i64 e, .int .i64 f], .int .u8 2, .int .i64 x, .int .i64 y] w fun en w' => en = .returned (.tuple #[.int .i64 (areaR a b c d e f x y).1, .int .i64 (areaR a b c d e f x y).2]) ∧ Below w.heap.size w w' := by
  cases hq : pOk a b c d e f with
  | false =>
    have HE : Aside0 (pErr a b c d e f = 8) := ⟨by unfold pErr; rw [hq]; rfl⟩
    have HR : Aside0 (areaR a b c d e f x y = (0, 8)) := ⟨by unfold areaR; rw [hq]; rfl⟩
    clear hq
    go_enter Try.func52, Try.ntmps52
    go_wp2_with (go_at_call 26; refine (check_any a b c d e f _).mono ?_; rintro en w1 ⟨rfl, hb⟩; rw [HE.out]; have HB := Aside0.mk hb; clear hb)
    go_ret2
    exact ⟨by rw [HR.out]; rfl, below_trans (below_alloc (Below.refl _ _) _) HB.out⟩
  | true =>
    have HE : Aside0 (pErr a b c d e f = 0) := ⟨by unfold pErr; rw [hq]; rfl⟩
    obtain ⟨h1, h2, h3, h4, h5, h6, _, _, _, _, _, _⟩ := pOk_of hq
    obtain ⟨p, hp⟩ : ∃ p, pgs b = p := ⟨_, rfl⟩
    have hp2 : p = pg b := by rw [← hp, pgs_in h3 h4]; rfl
    have hp3 : 1 ≤ p ∧ p ≤ 2 := by rw [hp2]; unfold pg; omega
    obtain ⟨hp4, hp5⟩ := hp3
    obtain ⟨q, hq1⟩ : ∃ q, a * p = q := ⟨_, rfl⟩
    have hq2 := mul_bd h1 h2 hp4 hp5
    rw [hq1] at hq2
    have HR : Aside0 (areaR a b c d e f x y = if inD x y 2 c then (2 + (x * c + y), 0) else (0, 2)) := ⟨by unfold areaR; rw [hq, if_pos rfl]⟩
    have S0 : Aside0 (wrap64 (wrap64 (1 * 1) * 2) = 2) := ⟨by unfold wrap64; omega⟩
    have S1 : Aside0 (wrap64 (wrap64 (2 * c) * 1) = 2 * c) := ⟨by unfold wrap64; omega⟩
    have S2 : Aside0 (wrap64 (wrap64 (a * p) * 1) = q) := ⟨by rw [hq1]; unfold wrap64; omega⟩
    have HP := Aside0.mk hp
    obtain ⟨hq3, hq4⟩ := hq2
    have c24 : ((2 : Int) == 2) = true := by decide
    have c34 : ((3 : Int) == 2) = false := by decide
    clear hq hp hp2 hq1
    cases hin : inD x y 2 c with
    | false =>
      have HI := Aside0.mk (show [(x, 0, 1), (y, 0, c - 1)].all inB = _ from inD_all.trans hin)
      rw [hin] at HR
      clear hin
      go_enter Try.func52, Try.ntmps52
      go_wp2_with (first | (go_at_call 26; refine (check_any a b c d e f _).mono ?_; rintro en w1 ⟨rfl, hb⟩; rw [HE.out]; obtain ⟨k0, k1, k2, k3, k4, k5⟩ := cfg_cells hb; have HB := Aside0.mk (below_trans (below_alloc (Below.refl _ _) _) hb); clear hb) | (go_at_call 59; refine (parts_any a b c d e f _).mono ?_; rintro en w2 ⟨rfl, hb⟩; unfold partsV; rw [HP.out]; have HB2 := Aside0.mk (below_trans HB.out hb); clear HB hb))
      have ix0 := part_at0 a b c p
      have ix1 := part_at1 a b c p
      have ix2 := part_at2 a b c p
      have ix3 := part_at3 a b c p
      refine wp_loop_rounds 5 ?_
      rw [rounds_succ]
      go_wp2_with (first | (go_at_call 60; refine (size_any _ _ _ _ _ _ S0.out).mono ?_; rintro en w3 ⟨rfl, hb⟩; have HB3 := Aside0.mk (below_trans (below_alloc HB2.out _) hb); clear HB2 hb))
      rw [rounds_succ]
      go_wp2_with (first | (go_at_call 64; refine (within_any _ [(x, 0, 1), (y, 0, c - 1)] _ (by simp) (lt22 _ _ _) (two_at (heap_alloc2_new _ _ _))).mono ?_; rintro en w9 ⟨rfl, hb⟩; rw [HI.out]; have HB9 := Aside0.mk (below_trans (below_alloc (below_alloc HB3.out _) _) hb); clear HB3 hb))
      go_ret2
      exact ⟨by rw [HR.out]; rfl, HB9.out⟩
    | true =>
      have hD := of_decide_eq_true hin
      obtain ⟨h7, h8, h9, h10⟩ := hD
      have HI := Aside0.mk (show [(x, 0, 1), (y, 0, c - 1)].all inB = _ from inD_all.trans hin)
      obtain ⟨z, hz⟩ : ∃ z, x * c = z := ⟨_, rfl⟩
      have hz2 := prod_bd (M := c) h7 h8 (by omega) (by omega) (by omega)
      rw [hz] at hz2
      obtain ⟨h11, h12⟩ := hz2
      rw [hin, if_pos rfl] at HR
      clear hin
      go_enter Try.func52, Try.ntmps52
      go_wp2_with (first | (go_at_call 26; refine (check_any a b c d e f _).mono ?_; rintro en w1 ⟨rfl, hb⟩; rw [HE.out]; obtain ⟨k0, k1, k2, k3, k4, k5⟩ := cfg_cells hb; have HB := Aside0.mk (below_trans (below_alloc (Below.refl _ _) _) hb); clear hb) | (go_at_call 59; refine (parts_any a b c d e f _).mono ?_; rintro en w2 ⟨rfl, hb⟩; unfold partsV; rw [HP.out]; have HB2 := Aside0.mk (below_trans HB.out hb); clear HB hb))
      have ix0 := part_at0 a b c p
      have ix1 := part_at1 a b c p
      have ix2 := part_at2 a b c p
      have ix3 := part_at3 a b c p
      refine wp_loop_rounds 5 ?_
      rw [rounds_succ]
      go_wp2_with (first | (go_at_call 60; refine (size_any _ _ _ _ _ _ S0.out).mono ?_; rintro en w3 ⟨rfl, hb⟩; have HB3 := Aside0.mk (below_trans (below_alloc HB2.out _) hb); clear HB2 hb))
      rw [rounds_succ]
      go_wp2_with (first | (go_at_call 64; refine (within_any _ [(x, 0, 1), (y, 0, c - 1)] _ (by simp) (lt22 _ _ _) (two_at (heap_alloc2_new _ _ _))).mono ?_; rintro en w9 ⟨rfl, hb⟩; rw [HI.out]; have HB9 := Aside0.mk (below_trans (below_alloc (below_alloc HB3.out _) _) hb); have hcl := pw_cell_below hb (two_cells _ _ _ _ _ _ _); have hcm := pw_cell_below hb (two_cells2 _ _ _ _ _ _ _); clear HB3 hb))
      go_ret2
      exact ⟨by rw [HR.out]; exact ret_two (by first | (rw [hz]; done) | (rw [hz]; omega)) rfl, HB9.out⟩
set_option maxRecDepth 100000 in
set_option maxHeartbeats 4000000 in
theorem find_page (a b c d e f x y : Int) (w : World) :
    Calls Try.prog 52 #[.agg #[.int .i64 a, .int .i64 b, .int .i64 c, .int .i64 d, .int .i64 e, .int .i64 f], .int .u8 3, .int .i64 x, .int .i64 y] w fun en w' => en = .returned (.tuple #[.int .i64 (pageR a b c d e f x y).1, .int .i64 (pageR a b c d e f x y).2]) ∧ Below w.heap.size w w' := by
  cases hq : pOk a b c d e f with
  | false =>
    have HE : Aside0 (pErr a b c d e f = 8) := ⟨by unfold pErr; rw [hq]; rfl⟩
    have HR : Aside0 (pageR a b c d e f x y = (0, 8)) := ⟨by unfold pageR; rw [hq]; rfl⟩
    clear hq
    go_enter Try.func52, Try.ntmps52
    go_wp2_with (go_at_call 26; refine (check_any a b c d e f _).mono ?_; rintro en w1 ⟨rfl, hb⟩; rw [HE.out]; have HB := Aside0.mk hb; clear hb)
    go_ret2
    exact ⟨by rw [HR.out]; rfl, below_trans (below_alloc (Below.refl _ _) _) HB.out⟩
  | true =>
    have HE : Aside0 (pErr a b c d e f = 0) := ⟨by unfold pErr; rw [hq]; rfl⟩
    obtain ⟨h1, h2, h3, h4, h5, h6, _, _, _, _, _, _⟩ := pOk_of hq
    obtain ⟨p, hp⟩ : ∃ p, pgs b = p := ⟨_, rfl⟩
    have hp2 : p = pg b := by rw [← hp, pgs_in h3 h4]; rfl
    have hp3 : 1 ≤ p ∧ p ≤ 2 := by rw [hp2]; unfold pg; omega
    obtain ⟨hp4, hp5⟩ := hp3
    obtain ⟨q, hq1⟩ : ∃ q, a * p = q := ⟨_, rfl⟩
    have hq2 := mul_bd h1 h2 hp4 hp5
    rw [hq1] at hq2
    have HR : Aside0 (pageR a b c d e f x y = if inD x y a p then (2 + 2 * c + (x * p + y), 0) else (0, 2)) := ⟨by unfold pageR; rw [hq, if_pos rfl, hp2]⟩
    have S0 : Aside0 (wrap64 (wrap64 (1 * 1) * 2) = 2) := ⟨by unfold wrap64; omega⟩
    have S1 : Aside0 (wrap64 (wrap64 (2 * c) * 1) = 2 * c) := ⟨by unfold wrap64; omega⟩
    have S2 : Aside0 (wrap64 (wrap64 (a * p) * 1) = q) := ⟨by rw [hq1]; unfold wrap64; omega⟩
    have HP := Aside0.mk hp
    obtain ⟨hq3, hq4⟩ := hq2
    have c24 : ((2 : Int) == 3) = false := by decide
    have c34 : ((3 : Int) == 3) = true := by decide
    clear hq hp hp2 hq1
    cases hin : inD x y a p with
    | false =>
      have HI := Aside0.mk (show [(x, 0, a - 1), (y, 0, p - 1)].all inB = _ from inD_all.trans hin)
      rw [hin] at HR
      clear hin
      go_enter Try.func52, Try.ntmps52
      go_wp2_with (first | (go_at_call 26; refine (check_any a b c d e f _).mono ?_; rintro en w1 ⟨rfl, hb⟩; rw [HE.out]; obtain ⟨k0, k1, k2, k3, k4, k5⟩ := cfg_cells hb; have HB := Aside0.mk (below_trans (below_alloc (Below.refl _ _) _) hb); clear hb) | (go_at_call 59; refine (parts_any a b c d e f _).mono ?_; rintro en w2 ⟨rfl, hb⟩; unfold partsV; rw [HP.out]; have HB2 := Aside0.mk (below_trans HB.out hb); clear HB hb))
      have ix0 := part_at0 a b c p
      have ix1 := part_at1 a b c p
      have ix2 := part_at2 a b c p
      have ix3 := part_at3 a b c p
      refine wp_loop_rounds 5 ?_
      rw [rounds_succ]
      go_wp2_with (first | (go_at_call 60; refine (size_any _ _ _ _ _ _ S0.out).mono ?_; rintro en w3 ⟨rfl, hb⟩; have HB3 := Aside0.mk (below_trans (below_alloc HB2.out _) hb); clear HB2 hb))
      rw [rounds_succ]
      go_wp2_with (first | (go_at_call 60; refine (size_any _ _ _ _ _ _ S1.out).mono ?_; rintro en w4 ⟨rfl, hb⟩; have HB4 := Aside0.mk (below_trans (below_alloc HB3.out _) hb); clear HB3 hb))
      rw [rounds_succ]
      go_wp2_with (first | (go_at_call 64; refine (within_any _ [(x, 0, a - 1), (y, 0, p - 1)] _ (by simp) (lt22 _ _ _) (two_at (heap_alloc2_new _ _ _))).mono ?_; rintro en w9 ⟨rfl, hb⟩; rw [HI.out]; have HB9 := Aside0.mk (below_trans (below_alloc (below_alloc HB4.out _) _) hb); clear HB4 hb))
      go_ret2
      exact ⟨by rw [HR.out]; rfl, HB9.out⟩
    | true =>
      have hD := of_decide_eq_true hin
      obtain ⟨h7, h8, h9, h10⟩ := hD
      have HI := Aside0.mk (show [(x, 0, a - 1), (y, 0, p - 1)].all inB = _ from inD_all.trans hin)
      obtain ⟨z, hz⟩ : ∃ z, x * p = z := ⟨_, rfl⟩
      have hz2 := prod_bd (M := p) h7 h8 (by omega) (by omega) (by omega)
      rw [hz] at hz2
      obtain ⟨h11, h12⟩ := hz2
      rw [hin, if_pos rfl] at HR
      clear hin
      go_enter Try.func52, Try.ntmps52
      go_wp2_with (first | (go_at_call 26; refine (check_any a b c d e f _).mono ?_; rintro en w1 ⟨rfl, hb⟩; rw [HE.out]; obtain ⟨k0, k1, k2, k3, k4, k5⟩ := cfg_cells hb; have HB := Aside0.mk (below_trans (below_alloc (Below.refl _ _) _) hb); clear hb) | (go_at_call 59; refine (parts_any a b c d e f _).mono ?_; rintro en w2 ⟨rfl, hb⟩; unfold partsV; rw [HP.out]; have HB2 := Aside0.mk (below_trans HB.out hb); clear HB hb))
      have ix0 := part_at0 a b c p
      have ix1 := part_at1 a b c p
      have ix2 := part_at2 a b c p
      have ix3 := part_at3 a b c p
      refine wp_loop_rounds 5 ?_
      rw [rounds_succ]
      go_wp2_with (first | (go_at_call 60; refine (size_any _ _ _ _ _ _ S0.out).mono ?_; rintro en w3 ⟨rfl, hb⟩; have HB3 := Aside0.mk (below_trans (below_alloc HB2.out _) hb); clear HB2 hb))
      rw [rounds_succ]
      go_wp2_with (first | (go_at_call 60; refine (size_any _ _ _ _ _ _ S1.out).mono ?_; rintro en w4 ⟨rfl, hb⟩; have HB4 := Aside0.mk (below_trans (below_alloc HB3.out _) hb); clear HB3 hb))
      rw [rounds_succ]
      go_wp2_with (first | (go_at_call 64; refine (within_any _ [(x, 0, a - 1), (y, 0, p - 1)] _ (by simp) (lt22 _ _ _) (two_at (heap_alloc2_new _ _ _))).mono ?_; rintro en w9 ⟨rfl, hb⟩; rw [HI.out]; have HB9 := Aside0.mk (below_trans (below_alloc (below_alloc HB4.out _) _) hb); have hcl := pw_cell_below hb (two_cells _ _ _ _ _ _ _); have hcm := pw_cell_below hb (two_cells2 _ _ _ _ _ _ _); clear HB4 hb))
      go_ret2
      exact ⟨by rw [HR.out]; exact ret_two (by first | (rw [hz]; done) | (rw [hz]; omega)) rfl, HB9.out⟩
set_option maxRecDepth 100000 in
set_option maxHeartbeats 4000000 in
theorem find_track (a b c d e f x y : Int) (w : World) :
    Calls Try.prog 52 #[.agg #[.int .i64 a, .int .i64 b, .int .i64 c, .int .i64 d, .int .i64 e, .int .i64 f], .int .u8 4, .int .i64 x, .int .i64 y] w fun en w' => en = .returned (.tuple #[.int .i64 (trackR a b c d e f x y).1, .int .i64 (trackR a b c d e f x y).2]) ∧ Below w.heap.size w w' := by
  cases hq : pOk a b c d e f with
  | false =>
    have HE : Aside0 (pErr a b c d e f = 8) := ⟨by unfold pErr; rw [hq]; rfl⟩
    have HR : Aside0 (trackR a b c d e f x y = (0, 8)) := ⟨by unfold trackR; rw [hq]; rfl⟩
    clear hq
    go_enter Try.func52, Try.ntmps52
    go_wp2_with (go_at_call 26; refine (check_any a b c d e f _).mono ?_; rintro en w1 ⟨rfl, hb⟩; rw [HE.out]; have HB := Aside0.mk hb; clear hb)
    go_ret2
    exact ⟨by rw [HR.out]; rfl, below_trans (below_alloc (Below.refl _ _) _) HB.out⟩
  | true =>
    have HE : Aside0 (pErr a b c d e f = 0) := ⟨by unfold pErr; rw [hq]; rfl⟩
    obtain ⟨h1, h2, h3, h4, h5, h6, _, _, _, _, _, _⟩ := pOk_of hq
    obtain ⟨p, hp⟩ : ∃ p, pgs b = p := ⟨_, rfl⟩
    have hp2 : p = pg b := by rw [← hp, pgs_in h3 h4]; rfl
    have hp3 : 1 ≤ p ∧ p ≤ 2 := by rw [hp2]; unfold pg; omega
    obtain ⟨hp4, hp5⟩ := hp3
    obtain ⟨q, hq1⟩ : ∃ q, a * p = q := ⟨_, rfl⟩
    have hq2 := mul_bd h1 h2 hp4 hp5
    rw [hq1] at hq2
    have HR : Aside0 (trackR a b c d e f x y = if inD x y a b then (2 + 2 * c + q + 4 * (x * b + y), 0) else (0, 2)) := ⟨by unfold trackR; rw [hq, if_pos rfl, ← hq1, hp2]⟩
    have S0 : Aside0 (wrap64 (wrap64 (1 * 1) * 2) = 2) := ⟨by unfold wrap64; omega⟩
    have S1 : Aside0 (wrap64 (wrap64 (2 * c) * 1) = 2 * c) := ⟨by unfold wrap64; omega⟩
    have S2 : Aside0 (wrap64 (wrap64 (a * p) * 1) = q) := ⟨by rw [hq1]; unfold wrap64; omega⟩
    have HP := Aside0.mk hp
    obtain ⟨hq3, hq4⟩ := hq2
    have c24 : ((2 : Int) == 4) = false := by decide
    have c34 : ((3 : Int) == 4) = false := by decide
    clear hq hp hp2 hq1
    cases hin : inD x y a b with
    | false =>
      have HI := Aside0.mk (show [(x, 0, a - 1), (y, 0, b - 1)].all inB = _ from inD_all.trans hin)
      rw [hin] at HR
      clear hin
      go_enter Try.func52, Try.ntmps52
      go_wp2_with (first | (go_at_call 26; refine (check_any a b c d e f _).mono ?_; rintro en w1 ⟨rfl, hb⟩; rw [HE.out]; obtain ⟨k0, k1, k2, k3, k4, k5⟩ := cfg_cells hb; have HB := Aside0.mk (below_trans (below_alloc (Below.refl _ _) _) hb); clear hb) | (go_at_call 59; refine (parts_any a b c d e f _).mono ?_; rintro en w2 ⟨rfl, hb⟩; unfold partsV; rw [HP.out]; have HB2 := Aside0.mk (below_trans HB.out hb); clear HB hb))
      have ix0 := part_at0 a b c p
      have ix1 := part_at1 a b c p
      have ix2 := part_at2 a b c p
      have ix3 := part_at3 a b c p
      refine wp_loop_rounds 5 ?_
      rw [rounds_succ]
      go_wp2_with (first | (go_at_call 60; refine (size_any _ _ _ _ _ _ S0.out).mono ?_; rintro en w3 ⟨rfl, hb⟩; have HB3 := Aside0.mk (below_trans (below_alloc HB2.out _) hb); clear HB2 hb))
      rw [rounds_succ]
      go_wp2_with (first | (go_at_call 60; refine (size_any _ _ _ _ _ _ S1.out).mono ?_; rintro en w4 ⟨rfl, hb⟩; have HB4 := Aside0.mk (below_trans (below_alloc HB3.out _) hb); clear HB3 hb))
      rw [rounds_succ]
      go_wp2_with (first | (go_at_call 60; refine (size_any _ _ _ _ _ _ S2.out).mono ?_; rintro en w5 ⟨rfl, hb⟩; have HB5 := Aside0.mk (below_trans (below_alloc HB4.out _) hb); clear HB4 hb))
      rw [rounds_succ]
      go_wp2_with (first | (go_at_call 64; refine (within_any _ [(x, 0, a - 1), (y, 0, b - 1)] _ (by simp) (lt22 _ _ _) (two_at (heap_alloc2_new _ _ _))).mono ?_; rintro en w9 ⟨rfl, hb⟩; rw [HI.out]; have HB9 := Aside0.mk (below_trans (below_alloc (below_alloc HB5.out _) _) hb); clear HB5 hb))
      go_ret2
      exact ⟨by rw [HR.out]; rfl, HB9.out⟩
    | true =>
      have hD := of_decide_eq_true hin
      obtain ⟨h7, h8, h9, h10⟩ := hD
      have HI := Aside0.mk (show [(x, 0, a - 1), (y, 0, b - 1)].all inB = _ from inD_all.trans hin)
      obtain ⟨z, hz⟩ : ∃ z, x * b = z := ⟨_, rfl⟩
      have hz2 := prod_bd (M := b) h7 h8 (by omega) (by omega) (by omega)
      rw [hz] at hz2
      obtain ⟨h11, h12⟩ := hz2
      rw [hin, if_pos rfl] at HR
      clear hin
      go_enter Try.func52, Try.ntmps52
      go_wp2_with (first | (go_at_call 26; refine (check_any a b c d e f _).mono ?_; rintro en w1 ⟨rfl, hb⟩; rw [HE.out]; obtain ⟨k0, k1, k2, k3, k4, k5⟩ := cfg_cells hb; have HB := Aside0.mk (below_trans (below_alloc (Below.refl _ _) _) hb); clear hb) | (go_at_call 59; refine (parts_any a b c d e f _).mono ?_; rintro en w2 ⟨rfl, hb⟩; unfold partsV; rw [HP.out]; have HB2 := Aside0.mk (below_trans HB.out hb); clear HB hb))
      have ix0 := part_at0 a b c p
      have ix1 := part_at1 a b c p
      have ix2 := part_at2 a b c p
      have ix3 := part_at3 a b c p
      refine wp_loop_rounds 5 ?_
      rw [rounds_succ]
      go_wp2_with (first | (go_at_call 60; refine (size_any _ _ _ _ _ _ S0.out).mono ?_; rintro en w3 ⟨rfl, hb⟩; have HB3 := Aside0.mk (below_trans (below_alloc HB2.out _) hb); clear HB2 hb))
      rw [rounds_succ]
      go_wp2_with (first | (go_at_call 60; refine (size_any _ _ _ _ _ _ S1.out).mono ?_; rintro en w4 ⟨rfl, hb⟩; have HB4 := Aside0.mk (below_trans (below_alloc HB3.out _) hb); clear HB3 hb))
      rw [rounds_succ]
      go_wp2_with (first | (go_at_call 60; refine (size_any _ _ _ _ _ _ S2.out).mono ?_; rintro en w5 ⟨rfl, hb⟩; have HB5 := Aside0.mk (below_trans (below_alloc HB4.out _) hb); clear HB4 hb))
      rw [rounds_succ]
      go_wp2_with (first | (go_at_call 64; refine (within_any _ [(x, 0, a - 1), (y, 0, b - 1)] _ (by simp) (lt22 _ _ _) (two_at (heap_alloc2_new _ _ _))).mono ?_; rintro en w9 ⟨rfl, hb⟩; rw [HI.out]; have HB9 := Aside0.mk (below_trans (below_alloc (below_alloc HB5.out _) _) hb); have hcl := pw_cell_below hb (two_cells _ _ _ _ _ _ _); have hcm := pw_cell_below hb (two_cells2 _ _ _ _ _ _ _); clear HB5 hb))
      go_ret2
      exact ⟨by rw [HR.out]; exact ret_two (by first | (rw [hz]; done) | (rw [hz]; omega)) rfl, HB9.out⟩
end Go.Proofs.Ytammdlgpelljmaa.PlaceWalk
