/- What the package place's What computes. -/
import Derived.Test.YtammdlgpelljmaaPlaceB
import Derived.Deep.QuietTactic
import Derived.BigQuiet
namespace Go.Proofs.Ytammdlgpelljmaa.PlaceWalk
open Go.RowKit Go.Proofs.YtammdlgpelljmaaW.PrintWords
def whatR (a b c d e f t : Int) : Int × Int × Int × Int := if pOk a b c d e f then (if t < 0 then (0, 0, 0, 2) else if t < 2 then (1, 0, 0, 0) else if t - 2 < 2 * c then (2, (t - 2) / c, (t - 2) % c, 0) else if t - 2 - 2 * c < a * pg b then (3, (t - 2 - 2 * c) / pg b, (t - 2 - 2 * c) % pg b, 0) else if t - 2 - 2 * c - a * pg b < 4 * (a * b) then (4, (t - 2 - 2 * c - a * pg b) / 4 / b, (t - 2 - 2 * c - a * pg b) / 4 % b, 0) else (0, 0, 0, 2)) else (0, 0, 0, 8)
def whatV (r : Int × Int × Int × Int) : Value := .tuple #[.int .u8 r.1, .int .i64 r.2.1, .int .i64 r.2.2.1, .int .i64 r.2.2.2]
theorem ret_what {r r' : Int × Int × Int × Int} (h : r = r') : Ending.returned (whatV r) = .returned (whatV r') := by rw [h]
theorem four_cells (w : World) (k o m n : Value) (t : TypeId) (j : Nat) (x : Value) (h : (#[k, o, m, n] : Array Value)[j]? = some x) : (w.alloc (.cells #[k, o, m, n] t)).cell? ⟨w.heap.size, j, none⟩ = some x := (cell_of_row _ _ j _ _ _ (heap_alloc_new w _)).trans h
set_option maxRecDepth 100000 in
set_option maxHeartbeats 4000000 in
theorem what_no (a b c d e f t : Int) (w : World) (hq : pOk a b c d e f = false) :
    Calls Try.prog 24 #[.agg #[.int .i64 a, .int .i64 b, .int .i64 c, .int .i64 d, .int .i64 e, .int .i64 f], .int .i64 t] w fun en w' => en = .returned (whatV (whatR a b c d e f t)) ∧ Below w.heap.size w w' := by
  have HE : Aside0 (pErr a b c d e f = 8) := ⟨by unfold pErr; rw [hq]; rfl⟩
  have HR : Aside0 (whatR a b c d e f t = (0, 0, 0, 8)) := ⟨by unfold whatR; rw [hq]; rfl⟩
  clear hq
  go_enter Try.func24, Try.ntmps24
  go_wp2_with fail
  apply Go.wp_scope_straight
  go_wp2_with (go_at_call 26; refine (check_any a b c d e f _).mono ?_; rintro en w1 ⟨rfl, hb⟩; rw [HE.out]; have HB := Aside0.mk hb; clear hb)
  rw [Go.Exit.noGoto_ret]
  refine bodyPost_ret (v := whatV (0, 0, 0, 8)) (by simp [results, Try.results24, go_sem, whatV] <;> omega) rfl ⟨ret_what (HR.out.symm), below_trans (below_alloc (Below.refl _ _) _) HB.out⟩
set_option maxRecDepth 100000 in
set_option maxHeartbeats 4000000 in
theorem what_neg (a b c d e f t : Int) (w : World) (hq : pOk a b c d e f = true) (ht : t < 0) :
    Calls Try.prog 24 #[.agg #[.int .i64 a, .int .i64 b, .int .i64 c, .int .i64 d, .int .i64 e, .int .i64 f], .int .i64 t] w fun en w' => en = .returned (whatV (whatR a b c d e f t)) ∧ Below w.heap.size w w' := by
  have HE : Aside0 (pErr a b c d e f = 0) := ⟨by unfold pErr; rw [hq]; rfl⟩
  have HR : Aside0 (whatR a b c d e f t = (0, 0, 0, 2)) := ⟨by unfold whatR; rw [hq, if_pos rfl, if_pos ht]⟩
  clear hq
  go_enter Try.func24, Try.ntmps24
  go_wp2_with fail
  apply Go.wp_scope_straight
  go_wp2_with (first | (go_at_call 26; refine (check_any a b c d e f _).mono ?_; rintro en w1 ⟨rfl, hb⟩; rw [HE.out]; obtain ⟨k0, k1, k2, k3, k4, k5⟩ := cfg_cells hb; have HB := Aside0.mk (below_trans (below_alloc (Below.refl _ _) _) hb); clear hb))
  rw [Go.Exit.noGoto_ret]
  refine bodyPost_ret (v := whatV (0, 0, 0, 2)) (by simp [results, Try.results24, go_sem, whatV] <;> omega) rfl ⟨ret_what (HR.out.symm), HB.out⟩
set_option maxRecDepth 100000 in
set_option maxHeartbeats 4000000 in
theorem what_a (a b c d e f t : Int) (w : World) (hq : pOk a b c d e f = true) (ht : 0 ≤ t) (htb : t ≤ 9223372036854775807) (t0 : t < 2) :
    Calls Try.prog 24 #[.agg #[.int .i64 a, .int .i64 b, .int .i64 c, .int .i64 d, .int .i64 e, .int .i64 f], .int .i64 t] w fun en w' => en = .returned (whatV (whatR a b c d e f t)) ∧ Below w.heap.size w w' := by
  have HE : Aside0 (pErr a b c d e f = 0) := ⟨by unfold pErr; rw [hq]; rfl⟩
  obtain ⟨h1, h2, h3, h4, h5, h6, _, _, _, _, _, _⟩ := pOk_of hq
  have HR0 : whatR a b c d e f t = (1, 0, 0, 0) := by unfold whatR; rw [hq, if_pos rfl, if_neg (by omega), if_pos t0]
  obtain ⟨p, hp⟩ : ∃ p, pgs b = p := ⟨_, rfl⟩
  have hp2 : pg b = p := by rw [← hp, pgs_in h3 h4]; rfl
  have hp3 : 1 ≤ p ∧ p ≤ 2 := by rw [← hp2]; unfold pg; omega
  obtain ⟨hp4, hp5⟩ := hp3
  obtain ⟨q, hq1⟩ : ∃ q, a * p = q := ⟨_, rfl⟩
  obtain ⟨m, hm1⟩ : ∃ m, a * b = m := ⟨_, rfl⟩
  have hq2 := mul_bd h1 h2 hp4 hp5
  have hm2 := mul_bd h1 h2 h3 h4
  rw [hq1] at hq2
  rw [hm1] at hm2
  have HR := Aside0.mk HR0
  have S0 : Aside0 (wrap64 (wrap64 (1 * 1) * 2) = 2) := ⟨by unfold wrap64; omega⟩
  have S1 : Aside0 (wrap64 (wrap64 (2 * c) * 1) = 2 * c) := ⟨by unfold wrap64; omega⟩
  have S2 : Aside0 (wrap64 (wrap64 (a * p) * 1) = q) := ⟨by rw [hq1]; unfold wrap64; omega⟩
  have S3 : Aside0 (wrap64 (wrap64 (a * b) * 4) = 4 * m) := ⟨by rw [hm1]; unfold wrap64; omega⟩
  have HP := Aside0.mk hp
  obtain ⟨hq3, hq4⟩ := hq2
  obtain ⟨hm3, hm4⟩ := hm2
  clear hq hp hp2 hq1 hm1 HR0
  go_enter Try.func24, Try.ntmps24
  go_wp2_with fail
  apply Go.wp_scope_straight
  go_wp2_with (first | (go_at_call 26; refine (check_any a b c d e f _).mono ?_; rintro en w1 ⟨rfl, hb⟩; rw [HE.out]; obtain ⟨k0, k1, k2, k3, k4, k5⟩ := cfg_cells hb; have HB := Aside0.mk (below_trans (below_alloc (Below.refl _ _) _) hb); clear hb))
  apply Go.wp_label
  go_wp2_with (first | (go_at_call 59; refine (parts_any a b c d e f _).mono ?_; rintro en w2 ⟨rfl, hb⟩; unfold partsV; rw [HP.out]; have HB2 := Aside0.mk (below_trans HB.out hb); clear HB hb))
  have ix0 := part_at0 a b c p
  have ix1 := part_at1 a b c p
  have ix2 := part_at2 a b c p
  have ix3 := part_at3 a b c p
  refine wp_loop_rounds 5 ?_
  rw [rounds_succ]
  go_wp2_with (first | (go_at_call 60; refine (size_any _ _ _ _ _ _ S0.out).mono ?_; rintro en w3 ⟨rfl, hb⟩; have hk := fun i x h => pw_cell_below hb (four_cells _ _ _ _ _ _ i x h); have q0 := hk 0 _ rfl; have q1 := hk 1 _ rfl; have q2 := hk 2 _ rfl; have q3 := hk 3 _ rfl; clear hk; have HB3 := Aside0.mk (below_trans (below_alloc HB2.out _) hb); clear HB2 hb))
  go_quiet (fail)
  go_wp2
  rw [Go.Exit.noGoto_ret]
  refine bodyPost_ret (v := whatV (1, 0, 0, 0)) (by simp [results, Try.results24, go_sem, whatV] <;> omega) rfl ⟨ret_what (HR.out.symm), pw_below_drewN HB3.out _⟩
set_option maxRecDepth 100000 in
set_option maxHeartbeats 4000000 in
theorem what_b (a b c d e f t : Int) (w : World) (hq : pOk a b c d e f = true) (ht : 0 ≤ t) (htb : t ≤ 9223372036854775807) (t0 : ¬ t < 2) (t1 : t - 2 < 2 * c) :
    Calls Try.prog 24 #[.agg #[.int .i64 a, .int .i64 b, .int .i64 c, .int .i64 d, .int .i64 e, .int .i64 f], .int .i64 t] w fun en w' => en = .returned (whatV (whatR a b c d e f t)) ∧ Below w.heap.size w w' := by
  have HE : Aside0 (pErr a b c d e f = 0) := ⟨by unfold pErr; rw [hq]; rfl⟩
  obtain ⟨h1, h2, h3, h4, h5, h6, _, _, _, _, _, _⟩ := pOk_of hq
  have HR0 : whatR a b c d e f t = (2, (t - 2) / c, (t - 2) % c, 0) := by unfold whatR; rw [hq, if_pos rfl, if_neg (by omega), if_neg t0, if_pos t1]
  obtain ⟨p, hp⟩ : ∃ p, pgs b = p := ⟨_, rfl⟩
  have hp2 : pg b = p := by rw [← hp, pgs_in h3 h4]; rfl
  have hp3 : 1 ≤ p ∧ p ≤ 2 := by rw [← hp2]; unfold pg; omega
  obtain ⟨hp4, hp5⟩ := hp3
  obtain ⟨q, hq1⟩ : ∃ q, a * p = q := ⟨_, rfl⟩
  obtain ⟨m, hm1⟩ : ∃ m, a * b = m := ⟨_, rfl⟩
  have hq2 := mul_bd h1 h2 hp4 hp5
  have hm2 := mul_bd h1 h2 h3 h4
  rw [hq1] at hq2
  rw [hm1] at hm2
  have HR := Aside0.mk HR0
  have S0 : Aside0 (wrap64 (wrap64 (1 * 1) * 2) = 2) := ⟨by unfold wrap64; omega⟩
  have S1 : Aside0 (wrap64 (wrap64 (2 * c) * 1) = 2 * c) := ⟨by unfold wrap64; omega⟩
  have S2 : Aside0 (wrap64 (wrap64 (a * p) * 1) = q) := ⟨by rw [hq1]; unfold wrap64; omega⟩
  have S3 : Aside0 (wrap64 (wrap64 (a * b) * 4) = 4 * m) := ⟨by rw [hm1]; unfold wrap64; omega⟩
  have HP := Aside0.mk hp
  obtain ⟨hq3, hq4⟩ := hq2
  obtain ⟨hm3, hm4⟩ := hm2
  clear hq hp hp2 hq1 hm1 HR0
  have t0' : 2 ≤ t := by omega
  clear t0
  go_enter Try.func24, Try.ntmps24
  go_wp2_with fail
  apply Go.wp_scope_straight
  go_wp2_with (first | (go_at_call 26; refine (check_any a b c d e f _).mono ?_; rintro en w1 ⟨rfl, hb⟩; rw [HE.out]; obtain ⟨k0, k1, k2, k3, k4, k5⟩ := cfg_cells hb; have HB := Aside0.mk (below_trans (below_alloc (Below.refl _ _) _) hb); clear hb))
  apply Go.wp_label
  go_wp2_with (first | (go_at_call 59; refine (parts_any a b c d e f _).mono ?_; rintro en w2 ⟨rfl, hb⟩; unfold partsV; rw [HP.out]; have HB2 := Aside0.mk (below_trans HB.out hb); clear HB hb))
  have ix0 := part_at0 a b c p
  have ix1 := part_at1 a b c p
  have ix2 := part_at2 a b c p
  have ix3 := part_at3 a b c p
  refine wp_loop_rounds 5 ?_
  rw [rounds_succ]
  go_wp2_with (first | (go_at_call 60; refine (size_any _ _ _ _ _ _ S0.out).mono ?_; rintro en w3 ⟨rfl, hb⟩; have hk := fun i x h => pw_cell_below hb (four_cells _ _ _ _ _ _ i x h); have q0 := hk 0 _ rfl; have q1 := hk 1 _ rfl; have q2 := hk 2 _ rfl; have q3 := hk 3 _ rfl; clear hk; have HB3 := Aside0.mk (below_trans (below_alloc HB2.out _) hb); clear HB2 hb))
  go_wp2_with (first | (go_at_call 60; refine (size_any _ _ _ _ _ _ S0.out).mono ?_; rintro en w4 ⟨rfl, hb⟩; clear q0 q1 q2 q3; have HB4 := Aside0.mk (below_trans HB3.out hb); clear HB3 hb))
  rw [rounds_succ]
  go_wp2_with (first | (go_at_call 60; refine (size_any _ _ _ _ _ _ S1.out).mono ?_; rintro en w5 ⟨rfl, hb⟩; have hk := fun i x h => pw_cell_below hb (four_cells _ _ _ _ _ _ i x h); have q0 := hk 0 _ rfl; have q1 := hk 1 _ rfl; have q2 := hk 2 _ rfl; have q3 := hk 3 _ rfl; clear hk; have HB5 := Aside0.mk (below_trans (below_alloc HB4.out _) hb); clear HB4 hb))
  go_quiet (fail)
  go_wp2
  rw [Go.Exit.noGoto_ret]
  refine bodyPost_ret (v := whatV (2, (t - 2) / c, (t - 2) % c, 0)) (by simp [results, Try.results24, go_sem, whatV] <;> omega) rfl ⟨ret_what (HR.out.symm), pw_below_drewN HB5.out _⟩
set_option maxRecDepth 100000 in
set_option maxHeartbeats 4000000 in
theorem what_c (a b c d e f t : Int) (w : World) (hq : pOk a b c d e f = true) (ht : 0 ≤ t) (htb : t ≤ 9223372036854775807) (t0 : ¬ t < 2) (t1 : ¬ t - 2 < 2 * c) (t2 : t - 2 - 2 * c < a * pg b) :
    Calls Try.prog 24 #[.agg #[.int .i64 a, .int .i64 b, .int .i64 c, .int .i64 d, .int .i64 e, .int .i64 f], .int .i64 t] w fun en w' => en = .returned (whatV (whatR a b c d e f t)) ∧ Below w.heap.size w w' := by
  have HE : Aside0 (pErr a b c d e f = 0) := ⟨by unfold pErr; rw [hq]; rfl⟩
  obtain ⟨h1, h2, h3, h4, h5, h6, _, _, _, _, _, _⟩ := pOk_of hq
  have HR0 : whatR a b c d e f t = (3, (t - 2 - 2 * c) / pg b, (t - 2 - 2 * c) % pg b, 0) := by unfold whatR; rw [hq, if_pos rfl, if_neg (by omega), if_neg t0, if_neg t1, if_pos t2]
  obtain ⟨p, hp⟩ : ∃ p, pgs b = p := ⟨_, rfl⟩
  have hp2 : pg b = p := by rw [← hp, pgs_in h3 h4]; rfl
  have hp3 : 1 ≤ p ∧ p ≤ 2 := by rw [← hp2]; unfold pg; omega
  obtain ⟨hp4, hp5⟩ := hp3
  obtain ⟨q, hq1⟩ : ∃ q, a * p = q := ⟨_, rfl⟩
  obtain ⟨m, hm1⟩ : ∃ m, a * b = m := ⟨_, rfl⟩
  have hq2 := mul_bd h1 h2 hp4 hp5
  have hm2 := mul_bd h1 h2 h3 h4
  rw [hq1] at hq2
  rw [hm1] at hm2
  rw [hp2, hq1] at t2
  rw [hp2] at HR0
  have HR := Aside0.mk HR0
  have S0 : Aside0 (wrap64 (wrap64 (1 * 1) * 2) = 2) := ⟨by unfold wrap64; omega⟩
  have S1 : Aside0 (wrap64 (wrap64 (2 * c) * 1) = 2 * c) := ⟨by unfold wrap64; omega⟩
  have S2 : Aside0 (wrap64 (wrap64 (a * p) * 1) = q) := ⟨by rw [hq1]; unfold wrap64; omega⟩
  have S3 : Aside0 (wrap64 (wrap64 (a * b) * 4) = 4 * m) := ⟨by rw [hm1]; unfold wrap64; omega⟩
  have HP := Aside0.mk hp
  obtain ⟨hq3, hq4⟩ := hq2
  obtain ⟨hm3, hm4⟩ := hm2
  clear hq hp hp2 hq1 hm1 HR0
  have t0' : 2 ≤ t := by omega
  clear t0
  have t1' : 2 * c ≤ t - 2 := by omega
  clear t1
  go_enter Try.func24, Try.ntmps24
  go_wp2_with fail
  apply Go.wp_scope_straight
  go_wp2_with (first | (go_at_call 26; refine (check_any a b c d e f _).mono ?_; rintro en w1 ⟨rfl, hb⟩; rw [HE.out]; obtain ⟨k0, k1, k2, k3, k4, k5⟩ := cfg_cells hb; have HB := Aside0.mk (below_trans (below_alloc (Below.refl _ _) _) hb); clear hb))
  apply Go.wp_label
  go_wp2_with (first | (go_at_call 59; refine (parts_any a b c d e f _).mono ?_; rintro en w2 ⟨rfl, hb⟩; unfold partsV; rw [HP.out]; have HB2 := Aside0.mk (below_trans HB.out hb); clear HB hb))
  have ix0 := part_at0 a b c p
  have ix1 := part_at1 a b c p
  have ix2 := part_at2 a b c p
  have ix3 := part_at3 a b c p
  refine wp_loop_rounds 5 ?_
  rw [rounds_succ]
  go_wp2_with (first | (go_at_call 60; refine (size_any _ _ _ _ _ _ S0.out).mono ?_; rintro en w3 ⟨rfl, hb⟩; have hk := fun i x h => pw_cell_below hb (four_cells _ _ _ _ _ _ i x h); have q0 := hk 0 _ rfl; have q1 := hk 1 _ rfl; have q2 := hk 2 _ rfl; have q3 := hk 3 _ rfl; clear hk; have HB3 := Aside0.mk (below_trans (below_alloc HB2.out _) hb); clear HB2 hb))
  go_wp2_with (first | (go_at_call 60; refine (size_any _ _ _ _ _ _ S0.out).mono ?_; rintro en w4 ⟨rfl, hb⟩; clear q0 q1 q2 q3; have HB4 := Aside0.mk (below_trans HB3.out hb); clear HB3 hb))
  rw [rounds_succ]
  go_wp2_with (first | (go_at_call 60; refine (size_any _ _ _ _ _ _ S1.out).mono ?_; rintro en w5 ⟨rfl, hb⟩; have hk := fun i x h => pw_cell_below hb (four_cells _ _ _ _ _ _ i x h); have q0 := hk 0 _ rfl; have q1 := hk 1 _ rfl; have q2 := hk 2 _ rfl; have q3 := hk 3 _ rfl; clear hk; have HB5 := Aside0.mk (below_trans (below_alloc HB4.out _) hb); clear HB4 hb))
  go_wp2_with (first | (go_at_call 60; refine (size_any _ _ _ _ _ _ S1.out).mono ?_; rintro en w6 ⟨rfl, hb⟩; clear q0 q1 q2 q3; have HB6 := Aside0.mk (below_trans HB5.out hb); clear HB5 hb))
  rw [rounds_succ]
  go_wp2_with (first | (go_at_call 60; refine (size_any _ _ _ _ _ _ S2.out).mono ?_; rintro en w7 ⟨rfl, hb⟩; have hk := fun i x h => pw_cell_below hb (four_cells _ _ _ _ _ _ i x h); have q0 := hk 0 _ rfl; have q1 := hk 1 _ rfl; have q2 := hk 2 _ rfl; have q3 := hk 3 _ rfl; clear hk; have HB7 := Aside0.mk (below_trans (below_alloc HB6.out _) hb); clear HB6 hb))
  go_quiet (fail)
  go_wp2
  rw [Go.Exit.noGoto_ret]
  refine bodyPost_ret (v := whatV (3, (t - 2 - 2 * c) / p, (t - 2 - 2 * c) % p, 0)) (by simp [results, Try.results24, go_sem, whatV] <;> omega) rfl ⟨ret_what (HR.out.symm), pw_below_drewN HB7.out _⟩
set_option maxRecDepth 100000 in
set_option maxHeartbeats 4000000 in
theorem what_d (a b c d e f t : Int) (w : World) (hq : pOk a b c d e f = true) (ht : 0 ≤ t) (htb : t ≤ 9223372036854775807) (t0 : ¬ t < 2) (t1 : ¬ t - 2 < 2 * c) (t2 : ¬ t - 2 - 2 * c < a * pg b) (t3 : t - 2 - 2 * c - a * pg b < 4 * (a * b)) :
    Calls Try.prog 24 #[.agg #[.int .i64 a, .int .i64 b, .int .i64 c, .int .i64 d, .int .i64 e, .int .i64 f], .int .i64 t] w fun en w' => en = .returned (whatV (whatR a b c d e f t)) ∧ Below w.heap.size w w' := by
  have HE : Aside0 (pErr a b c d e f = 0) := ⟨by unfold pErr; rw [hq]; rfl⟩
  obtain ⟨h1, h2, h3, h4, h5, h6, _, _, _, _, _, _⟩ := pOk_of hq
  have HR0 : whatR a b c d e f t = (4, (t - 2 - 2 * c - a * pg b) / 4 / b, (t - 2 - 2 * c - a * pg b) / 4 % b, 0) := by unfold whatR; rw [hq, if_pos rfl, if_neg (by omega), if_neg t0, if_neg t1, if_neg t2, if_pos t3]
  obtain ⟨p, hp⟩ : ∃ p, pgs b = p := ⟨_, rfl⟩
  have hp2 : pg b = p := by rw [← hp, pgs_in h3 h4]; rfl
  have hp3 : 1 ≤ p ∧ p ≤ 2 := by rw [← hp2]; unfold pg; omega
  obtain ⟨hp4, hp5⟩ := hp3
  obtain ⟨q, hq1⟩ : ∃ q, a * p = q := ⟨_, rfl⟩
  obtain ⟨m, hm1⟩ : ∃ m, a * b = m := ⟨_, rfl⟩
  have hq2 := mul_bd h1 h2 hp4 hp5
  have hm2 := mul_bd h1 h2 h3 h4
  rw [hq1] at hq2
  rw [hm1] at hm2
  rw [hp2, hq1] at t2
  rw [hp2, hq1, hm1] at t3
  rw [hp2, hq1] at HR0
  have HR := Aside0.mk HR0
  have S0 : Aside0 (wrap64 (wrap64 (1 * 1) * 2) = 2) := ⟨by unfold wrap64; omega⟩
  have S1 : Aside0 (wrap64 (wrap64 (2 * c) * 1) = 2 * c) := ⟨by unfold wrap64; omega⟩
  have S2 : Aside0 (wrap64 (wrap64 (a * p) * 1) = q) := ⟨by rw [hq1]; unfold wrap64; omega⟩
  have S3 : Aside0 (wrap64 (wrap64 (a * b) * 4) = 4 * m) := ⟨by rw [hm1]; unfold wrap64; omega⟩
  have HP := Aside0.mk hp
  obtain ⟨hq3, hq4⟩ := hq2
  obtain ⟨hm3, hm4⟩ := hm2
  clear hq hp hp2 hq1 hm1 HR0
  have t0' : 2 ≤ t := by omega
  clear t0
  have t1' : 2 * c ≤ t - 2 := by omega
  clear t1
  have t2' : q ≤ t - 2 - 2 * c := by omega
  clear t2
  go_enter Try.func24, Try.ntmps24
  go_wp2_with fail
  apply Go.wp_scope_straight
  go_wp2_with (first | (go_at_call 26; refine (check_any a b c d e f _).mono ?_; rintro en w1 ⟨rfl, hb⟩; rw [HE.out]; obtain ⟨k0, k1, k2, k3, k4, k5⟩ := cfg_cells hb; have HB := Aside0.mk (below_trans (below_alloc (Below.refl _ _) _) hb); clear hb))
  apply Go.wp_label
  go_wp2_with (first | (go_at_call 59; refine (parts_any a b c d e f _).mono ?_; rintro en w2 ⟨rfl, hb⟩; unfold partsV; rw [HP.out]; have HB2 := Aside0.mk (below_trans HB.out hb); clear HB hb))
  have ix0 := part_at0 a b c p
  have ix1 := part_at1 a b c p
  have ix2 := part_at2 a b c p
  have ix3 := part_at3 a b c p
  refine wp_loop_rounds 5 ?_
  rw [rounds_succ]
  go_wp2_with (first | (go_at_call 60; refine (size_any _ _ _ _ _ _ S0.out).mono ?_; rintro en w3 ⟨rfl, hb⟩; have hk := fun i x h => pw_cell_below hb (four_cells _ _ _ _ _ _ i x h); have q0 := hk 0 _ rfl; have q1 := hk 1 _ rfl; have q2 := hk 2 _ rfl; have q3 := hk 3 _ rfl; clear hk; have HB3 := Aside0.mk (below_trans (below_alloc HB2.out _) hb); clear HB2 hb))
  go_wp2_with (first | (go_at_call 60; refine (size_any _ _ _ _ _ _ S0.out).mono ?_; rintro en w4 ⟨rfl, hb⟩; clear q0 q1 q2 q3; have HB4 := Aside0.mk (below_trans HB3.out hb); clear HB3 hb))
  rw [rounds_succ]
  go_wp2_with (first | (go_at_call 60; refine (size_any _ _ _ _ _ _ S1.out).mono ?_; rintro en w5 ⟨rfl, hb⟩; have hk := fun i x h => pw_cell_below hb (four_cells _ _ _ _ _ _ i x h); have q0 := hk 0 _ rfl; have q1 := hk 1 _ rfl; have q2 := hk 2 _ rfl; have q3 := hk 3 _ rfl; clear hk; have HB5 := Aside0.mk (below_trans (below_alloc HB4.out _) hb); clear HB4 hb))
  go_wp2_with (first | (go_at_call 60; refine (size_any _ _ _ _ _ _ S1.out).mono ?_; rintro en w6 ⟨rfl, hb⟩; clear q0 q1 q2 q3; have HB6 := Aside0.mk (below_trans HB5.out hb); clear HB5 hb))
  rw [rounds_succ]
  go_wp2_with (first | (go_at_call 60; refine (size_any _ _ _ _ _ _ S2.out).mono ?_; rintro en w7 ⟨rfl, hb⟩; have hk := fun i x h => pw_cell_below hb (four_cells _ _ _ _ _ _ i x h); have q0 := hk 0 _ rfl; have q1 := hk 1 _ rfl; have q2 := hk 2 _ rfl; have q3 := hk 3 _ rfl; clear hk; have HB7 := Aside0.mk (below_trans (below_alloc HB6.out _) hb); clear HB6 hb))
  go_wp2_with (first | (go_at_call 60; refine (size_any _ _ _ _ _ _ S2.out).mono ?_; rintro en w8 ⟨rfl, hb⟩; clear q0 q1 q2 q3; have HB8 := Aside0.mk (below_trans HB7.out hb); clear HB7 hb))
  rw [rounds_succ]
  go_wp2_with (first | (go_at_call 60; refine (size_any _ _ _ _ _ _ S3.out).mono ?_; rintro en w9 ⟨rfl, hb⟩; have hk := fun i x h => pw_cell_below hb (four_cells _ _ _ _ _ _ i x h); have q0 := hk 0 _ rfl; have q1 := hk 1 _ rfl; have q2 := hk 2 _ rfl; have q3 := hk 3 _ rfl; clear hk; have HB9 := Aside0.mk (below_trans (below_alloc HB8.out _) hb); clear HB8 hb))
  go_quiet (fail)
  go_wp2
  rw [Go.Exit.noGoto_ret]
  refine bodyPost_ret (v := whatV (4, (t - 2 - 2 * c - q) / 4 / b, (t - 2 - 2 * c - q) / 4 % b, 0)) (by simp [results, Try.results24, go_sem, whatV] <;> omega) rfl ⟨ret_what (HR.out.symm), pw_below_drewN HB9.out _⟩
set_option maxRecDepth 100000 in
set_option maxHeartbeats 4000000 in
theorem what_e (a b c d e f t : Int) (w : World) (hq : pOk a b c d e f = true) (ht : 0 ≤ t) (htb : t ≤ 9223372036854775807) (t0 : ¬ t < 2) (t1 : ¬ t - 2 < 2 * c) (t2 : ¬ t - 2 - 2 * c < a * pg b) (t3 : ¬ t - 2 - 2 * c - a * pg b < 4 * (a * b)) :
    Calls Try.prog 24 #[.agg #[.int .i64 a, .int .i64 b, .int .i64 c, .int .i64 d, .int .i64 e, .int .i64 f], .int .i64 t] w fun en w' => en = .returned (whatV (whatR a b c d e f t)) ∧ Below w.heap.size w w' := by
  have HE : Aside0 (pErr a b c d e f = 0) := ⟨by unfold pErr; rw [hq]; rfl⟩
  obtain ⟨h1, h2, h3, h4, h5, h6, _, _, _, _, _, _⟩ := pOk_of hq
  have HR0 : whatR a b c d e f t = (0, 0, 0, 2) := by unfold whatR; rw [hq, if_pos rfl, if_neg (by omega), if_neg t0, if_neg t1, if_neg t2, if_neg t3]
  obtain ⟨p, hp⟩ : ∃ p, pgs b = p := ⟨_, rfl⟩
  have hp2 : pg b = p := by rw [← hp, pgs_in h3 h4]; rfl
  have hp3 : 1 ≤ p ∧ p ≤ 2 := by rw [← hp2]; unfold pg; omega
  obtain ⟨hp4, hp5⟩ := hp3
  obtain ⟨q, hq1⟩ : ∃ q, a * p = q := ⟨_, rfl⟩
  obtain ⟨m, hm1⟩ : ∃ m, a * b = m := ⟨_, rfl⟩
  have hq2 := mul_bd h1 h2 hp4 hp5
  have hm2 := mul_bd h1 h2 h3 h4
  rw [hq1] at hq2
  rw [hm1] at hm2
  rw [hp2, hq1] at t2
  rw [hp2, hq1, hm1] at t3
  have HR := Aside0.mk HR0
  have S0 : Aside0 (wrap64 (wrap64 (1 * 1) * 2) = 2) := ⟨by unfold wrap64; omega⟩
  have S1 : Aside0 (wrap64 (wrap64 (2 * c) * 1) = 2 * c) := ⟨by unfold wrap64; omega⟩
  have S2 : Aside0 (wrap64 (wrap64 (a * p) * 1) = q) := ⟨by rw [hq1]; unfold wrap64; omega⟩
  have S3 : Aside0 (wrap64 (wrap64 (a * b) * 4) = 4 * m) := ⟨by rw [hm1]; unfold wrap64; omega⟩
  have HP := Aside0.mk hp
  obtain ⟨hq3, hq4⟩ := hq2
  obtain ⟨hm3, hm4⟩ := hm2
  clear hq hp hp2 hq1 hm1 HR0
  have t0' : 2 ≤ t := by omega
  clear t0
  have t1' : 2 * c ≤ t - 2 := by omega
  clear t1
  have t2' : q ≤ t - 2 - 2 * c := by omega
  clear t2
  have t3' : 4 * m ≤ t - 2 - 2 * c - q := by omega
  clear t3
  go_enter Try.func24, Try.ntmps24
  go_wp2_with fail
  apply Go.wp_scope_straight
  go_wp2_with (first | (go_at_call 26; refine (check_any a b c d e f _).mono ?_; rintro en w1 ⟨rfl, hb⟩; rw [HE.out]; obtain ⟨k0, k1, k2, k3, k4, k5⟩ := cfg_cells hb; have HB := Aside0.mk (below_trans (below_alloc (Below.refl _ _) _) hb); clear hb))
  apply Go.wp_label
  go_wp2_with (first | (go_at_call 59; refine (parts_any a b c d e f _).mono ?_; rintro en w2 ⟨rfl, hb⟩; unfold partsV; rw [HP.out]; have HB2 := Aside0.mk (below_trans HB.out hb); clear HB hb))
  have ix0 := part_at0 a b c p
  have ix1 := part_at1 a b c p
  have ix2 := part_at2 a b c p
  have ix3 := part_at3 a b c p
  refine wp_loop_rounds 5 ?_
  rw [rounds_succ]
  go_wp2_with (first | (go_at_call 60; refine (size_any _ _ _ _ _ _ S0.out).mono ?_; rintro en w3 ⟨rfl, hb⟩; have hk := fun i x h => pw_cell_below hb (four_cells _ _ _ _ _ _ i x h); have q0 := hk 0 _ rfl; have q1 := hk 1 _ rfl; have q2 := hk 2 _ rfl; have q3 := hk 3 _ rfl; clear hk; have HB3 := Aside0.mk (below_trans (below_alloc HB2.out _) hb); clear HB2 hb))
  go_wp2_with (first | (go_at_call 60; refine (size_any _ _ _ _ _ _ S0.out).mono ?_; rintro en w4 ⟨rfl, hb⟩; clear q0 q1 q2 q3; have HB4 := Aside0.mk (below_trans HB3.out hb); clear HB3 hb))
  rw [rounds_succ]
  go_wp2_with (first | (go_at_call 60; refine (size_any _ _ _ _ _ _ S1.out).mono ?_; rintro en w5 ⟨rfl, hb⟩; have hk := fun i x h => pw_cell_below hb (four_cells _ _ _ _ _ _ i x h); have q0 := hk 0 _ rfl; have q1 := hk 1 _ rfl; have q2 := hk 2 _ rfl; have q3 := hk 3 _ rfl; clear hk; have HB5 := Aside0.mk (below_trans (below_alloc HB4.out _) hb); clear HB4 hb))
  go_wp2_with (first | (go_at_call 60; refine (size_any _ _ _ _ _ _ S1.out).mono ?_; rintro en w6 ⟨rfl, hb⟩; clear q0 q1 q2 q3; have HB6 := Aside0.mk (below_trans HB5.out hb); clear HB5 hb))
  rw [rounds_succ]
  go_wp2_with (first | (go_at_call 60; refine (size_any _ _ _ _ _ _ S2.out).mono ?_; rintro en w7 ⟨rfl, hb⟩; have hk := fun i x h => pw_cell_below hb (four_cells _ _ _ _ _ _ i x h); have q0 := hk 0 _ rfl; have q1 := hk 1 _ rfl; have q2 := hk 2 _ rfl; have q3 := hk 3 _ rfl; clear hk; have HB7 := Aside0.mk (below_trans (below_alloc HB6.out _) hb); clear HB6 hb))
  go_wp2_with (first | (go_at_call 60; refine (size_any _ _ _ _ _ _ S2.out).mono ?_; rintro en w8 ⟨rfl, hb⟩; clear q0 q1 q2 q3; have HB8 := Aside0.mk (below_trans HB7.out hb); clear HB7 hb))
  rw [rounds_succ]
  go_wp2_with (first | (go_at_call 60; refine (size_any _ _ _ _ _ _ S3.out).mono ?_; rintro en w9 ⟨rfl, hb⟩; have hk := fun i x h => pw_cell_below hb (four_cells _ _ _ _ _ _ i x h); have q0 := hk 0 _ rfl; have q1 := hk 1 _ rfl; have q2 := hk 2 _ rfl; have q3 := hk 3 _ rfl; clear hk; have HB9 := Aside0.mk (below_trans (below_alloc HB8.out _) hb); clear HB8 hb))
  go_wp2_with (first | (go_at_call 60; refine (size_any _ _ _ _ _ _ S3.out).mono ?_; rintro en w10 ⟨rfl, hb⟩; clear q0 q1 q2 q3; have HB10 := Aside0.mk (below_trans HB9.out hb); clear HB9 hb))
  rw [rounds_succ]
  go_wp2
  rw [Go.Exit.noGoto_ret]
  refine bodyPost_ret (v := whatV (0, 0, 0, 2)) (by simp [results, Try.results24, go_sem, whatV] <;> omega) rfl ⟨ret_what (HR.out.symm), HB10.out⟩
theorem what_any (a b c d e f t : Int) (w : World) (htb : t ≤ 9223372036854775807) :
    Calls Try.prog 24 #[.agg #[.int .i64 a, .int .i64 b, .int .i64 c, .int .i64 d, .int .i64 e, .int .i64 f], .int .i64 t] w fun en w' => en = .returned (whatV (whatR a b c d e f t)) ∧ Below w.heap.size w w' := by
  cases hq : pOk a b c d e f with
  | false => exact what_no a b c d e f t w hq
  | true =>
    by_cases ht : t < 0
    · exact what_neg a b c d e f t w hq ht
    · have ht' : 0 ≤ t := by omega
      by_cases t0 : t < 2
      · exact what_a a b c d e f t w hq ht' htb t0
      by_cases t1 : t - 2 < 2 * c
      · exact what_b a b c d e f t w hq ht' htb t0 t1
      by_cases t2 : t - 2 - 2 * c < a * pg b
      · exact what_c a b c d e f t w hq ht' htb t0 t1 t2
      by_cases t3 : t - 2 - 2 * c - a * pg b < 4 * (a * b)
      · exact what_d a b c d e f t w hq ht' htb t0 t1 t2 t3
      · exact what_e a b c d e f t w hq ht' htb t0 t1 t2 t3
theorem areaw (a b c d e f x y : Int) (w : World) :
    Calls Try.prog 14 #[.agg #[.int .i64 a, .int .i64 b, .int .i64 c, .int .i64 d, .int .i64 e, .int .i64 f], .int .i64 x, .int .i64 y] w fun en w' => en = .returned (.tuple #[.int .i64 (areaR a b c d e f x y).1, .int .i64 (areaR a b c d e f x y).2]) ∧ Below w.heap.size w w' := by
  go_enter Try.func14, Try.ntmps14
  go_wp2_with (first | (go_at_call 52; refine (find_area a b c d e f x y _).mono ?_; rintro en w1 ⟨rfl, hb⟩; have HB := Aside0.mk hb; clear hb))
  go_ret2
  exact ⟨ret_two rfl rfl, below_trans (below_alloc (Below.refl _ _) _) HB.out⟩
theorem pagew (a b c d e f x y : Int) (w : World) :
    Calls Try.prog 16 #[.agg #[.int .i64 a, .int .i64 b, .int .i64 c, .int .i64 d, .int .i64 e, .int .i64 f], .int .i64 x, .int .i64 y] w fun en w' => en = .returned (.tuple #[.int .i64 (pageR a b c d e f x y).1, .int .i64 (pageR a b c d e f x y).2]) ∧ Below w.heap.size w w' := by
  go_enter Try.func16, Try.ntmps16
  go_wp2_with (first | (go_at_call 52; refine (find_page a b c d e f x y _).mono ?_; rintro en w1 ⟨rfl, hb⟩; have HB := Aside0.mk hb; clear hb))
  go_ret2
  exact ⟨ret_two rfl rfl, below_trans (below_alloc (Below.refl _ _) _) HB.out⟩
theorem trackw (a b c d e f x y : Int) (w : World) :
    Calls Try.prog 18 #[.agg #[.int .i64 a, .int .i64 b, .int .i64 c, .int .i64 d, .int .i64 e, .int .i64 f], .int .i64 x, .int .i64 y] w fun en w' => en = .returned (.tuple #[.int .i64 (trackR a b c d e f x y).1, .int .i64 (trackR a b c d e f x y).2]) ∧ Below w.heap.size w w' := by
  go_enter Try.func18, Try.ntmps18
  go_wp2_with (first | (go_at_call 52; refine (find_track a b c d e f x y _).mono ?_; rintro en w1 ⟨rfl, hb⟩; have HB := Aside0.mk hb; clear hb))
  go_ret2
  exact ⟨ret_two rfl rfl, below_trans (below_alloc (Below.refl _ _) _) HB.out⟩
end Go.Proofs.Ytammdlgpelljmaa.PlaceWalk
