-- written by wip/myprint.py out of the translation
import Derived.Test.YtoklgobjbelmjaaPRnx0
import Derived.Test.YtoklgobjbelmjaaPRnx1
import Derived.Test.YtoklgobjbelmjaaPRnx2
namespace Go.Proofs.Ytoklgobjbelmjaa.PRn
open Go.RowKit Go.Proofs.YtoklgobjbelmjaaW.PrintWords Go.Proofs.YtoklgobjbelmjaaW.PrintLast Go.Proofs.YtoklgobjbelmjaaW.PrintMore
open Go.Proofs.Ytoklgobjbelmjaa.Kit Go.Proofs.Ytoklgobjbelmjaa.NumMath Go.Proofs.Ytoklgobjbelmjaa.NumWalk
attribute [local go_sem] max2_int min2_int max_two min_two max_three min_three max_four min_four   -- for this text's walks alone
set_option linter.unusedVariables false
set_option linter.unusedSimpArgs false

/-! ### rec_Note: function 4 -/
def rec_Note.j0 : Nat → Int → Int → Int → Int → Int → Int → Int → Bool → Bool → Option (List Int × Int)
  | 0, _, _, _, _, _, _, _, _, _ => none
  | k + 1, x5, x115000, x115001, x115002, x115003, x115004, x115005, x115006, x115007 => if x115007 = true then ((rec_sizes.f).bind fun t119 => ((num_Write.f (([1, IntKind.u64.wrap (x115000), IntKind.u64.wrap (x115001), IntKind.u64.wrap (x115002), IntKind.u64.wrap (x115003), IntKind.u64.wrap (x115004), IntKind.u64.wrap (x115005), Go.bits .or .u64 x5 1] : List Int)) t119).bind fun bt122 => (some (bt122.1, bt122.2)))) else ((rec_sizes.f).bind fun t129 => ((num_Write.f (([1, IntKind.u64.wrap (x115000), IntKind.u64.wrap (x115001), IntKind.u64.wrap (x115002), IntKind.u64.wrap (x115003), IntKind.u64.wrap (x115004), IntKind.u64.wrap (x115005), x5] : List Int)) t129).bind fun bt132 => (some (bt132.1, bt132.2))))
def rec_Note.f (k : Nat) (a0_0 : Int) (a0_1 : Int) (a0_2 : Int) (a0_3 : Int) (a0_4 : Int) (a0_5 : Int) (a0_6 : Bool) (a0_7 : Bool) : Option (List Int × Int) := (rec_Check.f k a0_0 a0_1 a0_2 a0_3 a0_4 a0_5 a0_6 a0_7).bind fun t115 => (if t115 = 0 then (if a0_6 = true then (rec_Note.j0 k (Go.bits .or .u64 0 2) a0_0 a0_1 a0_2 a0_3 a0_4 a0_5 a0_6 a0_7) else (rec_Note.j0 k 0 a0_0 a0_1 a0_2 a0_3 a0_4 a0_5 a0_6 a0_7)) else (some (([] : List Int), t115)))
theorem rec_Note.mono_l : ∀ k, (∀ y0 y1 y2 y3 y4 y5 y6 y7 y8, LeO (rec_Note.j0 k y0 y1 y2 y3 y4 y5 y6 y7 y8) (rec_Note.j0 (k + 1) y0 y1 y2 y3 y4 y5 y6 y7 y8))
  | 0 => fun _ _ _ _ _ _ _ _ _ r h => by simp [rec_Note.j0] at h
  | k + 1 => by
    have ih0 := rec_Note.mono_l k
    · intro y0 y1 y2 y3 y4 y5 y6 y7 y8
      unfold rec_Note.j0
      repeat' first
      | (with_reducible exact ih0 _ _ _ _ _ _ _ _ _)
      | (with_reducible exact rec_Check.mono _ _ _ _ _ _ _ _ _)
      | (with_reducible exact LeO.refl _)
      | (with_reducible exact LeO.none _)
      | (with_reducible refine LeO.ite ?_ ?_)
      | (with_reducible refine LeO.bind ?_ (fun _ => ?_))
      | exact ih0 _ _ _ _ _ _ _ _ _
      | exact rec_Check.mono _ _ _ _ _ _ _ _ _
      | exact LeO.none _
      | refine LeO.ite ?_ ?_
      | refine LeO.bind ?_ (fun _ => ?_)
theorem rec_Note.mono : ∀ a0 a1 a2 a3 a4 a5 a6 a7 k, LeO (rec_Note.f k a0 a1 a2 a3 a4 a5 a6 a7) (rec_Note.f (k + 1) a0 a1 a2 a3 a4 a5 a6 a7) := by
  intro a0 a1 a2 a3 a4 a5 a6 a7 k
  have ih0 := rec_Note.mono_l k
  unfold rec_Note.f
  repeat' first
      | (with_reducible exact ih0 _ _ _ _ _ _ _ _ _)
      | (with_reducible exact rec_Check.mono _ _ _ _ _ _ _ _ _)
      | (with_reducible exact LeO.refl _)
      | (with_reducible exact LeO.none _)
      | (with_reducible refine LeO.ite ?_ ?_)
      | (with_reducible refine LeO.bind ?_ (fun _ => ?_))
      | exact ih0 _ _ _ _ _ _ _ _ _
      | exact rec_Check.mono _ _ _ _ _ _ _ _ _
      | exact LeO.none _
      | refine LeO.ite ?_ ?_
      | refine LeO.bind ?_ (fun _ => ?_)
def rec_Note.T9 : Bool × List (List Nat × List Nat) := (true, [([], []), ([0], [0]), ([1], [1]), ([], []), ([3], [3]), ([4], [4]), ([], []), ([6], [6]), ([7], [7]), ([], []), ([9], [9]), ([10], [10]), ([], []), ([12], [12]), ([13], [13]), ([], []), ([15], [15]), ([16], [16]), ([], []), ([2, 5, 8, 11, 14, 17, 18], [2, 5, 8, 11, 14, 17, 18]), ([], []), ([19, 20, 20], [19, 20]), ([21], [21]), ([21], [21]), ([22, 21, 0, 1, 2, 3, 4, 5, 6, 7, 8, 9, 10, 11, 12, 13, 14, 15, 16, 17, 18, 19, 20, 21, 22, 23], [22]), ([23, 24, 0, 1, 2, 3, 4, 5, 6, 7, 8, 9, 10, 11, 12, 13, 14, 15, 16, 17, 18, 19, 20, 21, 22, 23, 24], [23])])
def rec_Note.B9 : List Nat := [0, 1, 3, 0, 8, 24, 0, 64, 192, 0, 512, 1536, 0, 4096, 12288, 0, 32768, 98304, 0, 524287, 0, 2097151, 4194303, 4194303, 16777215, 33554431]
theorem rec_Note.tab9 : rtab .any (opsOf Try.f4 9) = rec_Note.T9 := by kernel_rfl
theorem rec_Note.bits9 : waitsOk rec_Note.T9.2 rec_Note.B9 = true := by kernel_rfl
set_option maxHeartbeats 8000000 in
set_option maxRecDepth 100000 in
theorem rec_Note.calls (k : Nat) (a0_0 : Int) (a0_1 : Int) (a0_2 : Int) (a0_3 : Int) (a0_4 : Int) (a0_5 : Int) (a0_6 : Bool) (a0_7 : Bool) (r1 : List Int) (r2 : Int) (w : World) (h : rec_Note.f k a0_0 a0_1 a0_2 a0_3 a0_4 a0_5 a0_6 a0_7 = some (r1, r2)) :
    Calls Try.prog 4 #[.agg #[.int .i64 a0_0, .int .u32 a0_1, .int .u32 a0_2, .int .i64 a0_3, .int .u8 a0_4, .int .i64 a0_5, .bool a0_6, .bool a0_7]] w fun e w' => ∃ v0_ : Value, e = .returned (.tuple #[v0_, .int .i64 r2]) ∧ Kd.R (Kd.int .u8) 5 w' w.heap.size (fun _ => True) v0_ r1 ∧ Below w.heap.size w w' := by
  have hu24 := Try.underlying24
  have HB := Aside0.mk (Below.refl w.heap.size w)
  have H : ((rec_Check.f k a0_0 a0_1 a0_2 a0_3 a0_4 a0_5 a0_6 a0_7).bind fun t115 => (if t115 = 0 then (if a0_6 = true then (rec_Note.j0 k (Go.bits .or .u64 0 2) a0_0 a0_1 a0_2 a0_3 a0_4 a0_5 a0_6 a0_7) else (rec_Note.j0 k 0 a0_0 a0_1 a0_2 a0_3 a0_4 a0_5 a0_6 a0_7)) else (some (([] : List Int), t115)))) = some (r1, r2) := h
  clear h
  replace H := Option.bind_eq_some_iff.mp H
  obtain ⟨t115, A20, H⟩ := H
  replace H : (if t115 = 0 then (if a0_6 = true then (rec_Note.j0 k (Go.bits .or .u64 0 2) a0_0 a0_1 a0_2 a0_3 a0_4 a0_5 a0_6 a0_7) else (rec_Note.j0 k 0 a0_0 a0_1 a0_2 a0_3 a0_4 a0_5 a0_6 a0_7)) else (some (([] : List Int), t115))) = some (r1, r2) := H
  have A2 := Aside0.mk A20
  clear A20
  by_cases c3 : t115 = 0
  · rw [if_pos c3] at H
    have c3b0 : (t115 == 0) = true := beq_iff_eq.mpr c3
    have c3b1 : (t115 != 0) = false := bne_eq_false_iff_eq.mpr c3
    clear c3
    have HC4 := Aside0.mk H
    clear H
    go_enter Try.func4, Try.ntmps4
    go_upto_if 12 with (first | ((with_reducible refine gate_dst (N := 1) rfl ?_); refine box_event ?hg (N := 1) ?hd (cs := #[.int .i64 a0_0, .int .u32 a0_1, .int .u32 a0_2, .int .i64 a0_3, .int .u8 a0_4, .int .i64 a0_5, .bool a0_6, .bool a0_7]) (t := 24) ?hr ?_; (case hd => rfl); (case hg => rfl); (case hr => first | (go_simp; done) | (go_simp; rfl)); intro gb114 hg w5 hbox hb; have n0_ := Aside0.mk (below_step (by repeat (first | (with_reducible first | exact HB.out | apply below_alloc | apply pw_below_drewN | apply below_drew1) | exact HB.out)) hb); have n1_ := Aside0.mk (hbox); have n2_ := Aside0.mk ((by rw [hg]; exact (below_size (by repeat (first | (with_reducible first | exact HB.out | apply below_alloc | apply pw_below_drewN | apply below_drew1) | exact HB.out))) : w.heap.size ≤ gb114)); have n3_ := Aside0.mk ((by rw [hg]; exact (below_size (by repeat (first | (with_reducible first | exact HB.out | apply below_alloc | apply pw_below_drewN | apply below_drew1) | exact HB.out))) : w.heap.size ≤ gb114)); clear HB; have HB := n0_; have BK114 := n1_; have GW114 := n2_; have GE114 := n3_; clear n0_ n1_ n2_ n3_; clear hb hbox hg; obtain ⟨hcz6_0, hcz6_1, hcz6_2, hcz6_3, hcz6_4, hcz6_5, hcz6_6, hcz6_7, hfz6_0, hfz6_1, hfz6_2, hfz6_3, hfz6_4, hfz6_5, hfz6_6, hfz6_7⟩ := blkc8 BK114.out) | ((with_reducible refine gate_callee (f := 8) rfl ?_); refine goesL_ (some 7) rfl rfl Try.func8 (by kernel_rfl) rfl #[.agg #[.int .i64 a0_0, .int .u32 a0_1, .int .u32 a0_2, .int .i64 a0_3, .int .u8 a0_4, .int .i64 a0_5, .bool a0_6, .bool a0_7]] rfl (by (try simp only [List.map_toArray, List.map_cons, List.map_nil]); first | done | rfl | (simp only [List.length_drop, List.length_take]; rfl)) ?_; (with_reducible refine (rec_Check.calls k a0_0 a0_1 a0_2 a0_3 a0_4 a0_5 a0_6 a0_7 t115 _ A2.out).mono ?_); rintro e w7 ⟨rfl, hb⟩; refine ⟨_, rfl, ?_⟩; have n0_ := Aside0.mk (blk_below (g := gb114) (o := .cells #[.int .i64 a0_0, .int .u32 a0_1, .int .u32 a0_2, .int .i64 a0_3, .int .u8 a0_4, .int .i64 a0_5, .bool a0_6, .bool a0_7] 24 (0, 0)) (by (with_reducible repeat (first | refine blk_drewN ?_ _ | refine blk_drew ?_ | refine blk_alloc ?_ _)); exact BK114.out) hb); have n1_ := Aside0.mk (below_step (by repeat (first | (with_reducible first | exact HB.out | apply below_alloc | apply pw_below_drewN | apply below_drew1 | refine below_set ?_ GE114.out) | exact HB.out)) hb); clear BK114; clear HB; have BK114 := n0_; have HB := n1_; clear n0_ n1_; (try clear hb); (try clear hb2); (try clear hk); (try clear hi); obtain ⟨hcz8_0, hcz8_1, hcz8_2, hcz8_3, hcz8_4, hcz8_5, hcz8_6, hcz8_7, hfz8_0, hfz8_1, hfz8_2, hfz8_3, hfz8_4, hfz8_5, hfz8_6, hfz8_7⟩ := blkc8 BK114.out))
    (try simp only [Act.put, List.setIfInBounds_toArray, List.set_cons_zero, List.set_cons_succ])
    go_cut [5] (fun v5 wc => ∃ (kq : Nat) (x5_3 : Int), v5 = .int .u64 x5_3 ∧ Aside0 (rec_Note.j0 kq x5_3 a0_0 a0_1 a0_2 a0_3 a0_4 a0_5 a0_6 a0_7 = some (r1, r2)) ∧ Aside0 (kq ≤ k) ∧ Aside0 (wc.heap[gb114]? = some (.cells #[.int .i64 a0_0, .int .u32 a0_1, .int .u32 a0_2, .int .i64 a0_3, .int .u8 a0_4, .int .i64 a0_5, .bool a0_6, .bool a0_7] 24 (0, 0))) ∧ Aside0 (Below w.heap.size w wc))
    case first =>
      have H := HC4.out
      clear HC4
      by_cases c9 : a0_6 = true
      · subst c9
        have H1 : (rec_Note.j0 k (Go.bits .or .u64 0 2) a0_0 a0_1 a0_2 a0_3 a0_4 a0_5 true a0_7) = some (r1, r2) := by rw [if_pos rfl] at H; exact H
        clear H
        have H := H1
        clear H1
        have H' := Aside0.mk H
        clear H
        go_wp2
        go_meet
        case rel => exact ⟨_, (Go.bits .or .u64 0 2), (by first | rfl | (simp; done) | (simp [*]; done)), H', ⟨by first | omega | exact Nat.le_refl _⟩, ⟨by (with_reducible repeat (first | refine blk_drewN ?_ _ | refine blk_drew ?_ | refine blk_alloc ?_ _)); exact BK114.out⟩, ⟨by repeat (first | (with_reducible first | exact HB.out | apply below_alloc | apply pw_below_drewN | apply below_drew1 | refine below_set ?_ GE114.out) | exact HB.out)⟩⟩
      · replace c9 := Bool.eq_false_iff.mpr c9
        subst c9
        have H1 : (rec_Note.j0 k 0 a0_0 a0_1 a0_2 a0_3 a0_4 a0_5 false a0_7) = some (r1, r2) := by rw [if_neg (show ¬ (false = true) by decide)] at H; exact H
        clear H
        have H := H1
        clear H1
        have H' := Aside0.mk H
        clear H
        go_wp2
        go_meet
        case rel => exact ⟨_, (0), (by first | rfl | (simp; done) | (simp [*]; done)), H', ⟨by first | omega | exact Nat.le_refl _⟩, ⟨by (with_reducible repeat (first | refine blk_drewN ?_ _ | refine blk_drew ?_ | refine blk_alloc ?_ _)); exact BK114.out⟩, ⟨by repeat (first | (with_reducible first | exact HB.out | apply below_alloc | apply pw_below_drewN | apply below_drew1 | refine below_set ?_ GE114.out) | exact HB.out)⟩⟩
    case rest =>
      clear HC4
      try clear p2
      try clear c3
      try clear c3b0
      try clear c3b1
      try clear c4
      try clear c8
      try clear c9
      try clear hcz6_0 hcz6_1 hcz6_2 hcz6_3 hcz6_4 hcz6_5 hcz6_6 hcz6_7
      try clear hcz8_0 hcz8_1 hcz8_2 hcz8_3 hcz8_4 hcz8_5 hcz8_6 hcz8_7
      try clear hfz6_0 hfz6_1 hfz6_2 hfz6_3 hfz6_4 hfz6_5 hfz6_6 hfz6_7
      try clear hfz8_0 hfz8_1 hfz8_2 hfz8_3 hfz8_4 hfz8_5 hfz8_6 hfz8_7
      obtain ⟨kq, x5_3, rfl, HA, HJ3, BK114, HB⟩ := hcut
      cases kq with
      | zero => exact absurd HA.out (by simp [rec_Note.j0])
      | succ kj3 =>
        have H := HA.out
        clear HA
        simp only [rec_Note.j0] at H
        by_cases c10 : a0_7 = true
        · subst c10
          have H1 : ((rec_sizes.f).bind fun t119 => ((num_Write.f (([1, IntKind.u64.wrap (a0_0), IntKind.u64.wrap (a0_1), IntKind.u64.wrap (a0_2), IntKind.u64.wrap (a0_3), IntKind.u64.wrap (a0_4), IntKind.u64.wrap (a0_5), Go.bits .or .u64 x5_3 1] : List Int)) t119).bind fun bt122 => (some (bt122.1, bt122.2)))) = some (r1, r2) := by rw [if_pos rfl] at H; exact H
          clear H
          have H := H1
          clear H1
          obtain ⟨y116, hy116⟩ : ∃ y_ : List Int, y_ = (([1, IntKind.u64.wrap (a0_0), IntKind.u64.wrap (a0_1), IntKind.u64.wrap (a0_2), IntKind.u64.wrap (a0_3), IntKind.u64.wrap (a0_4), IntKind.u64.wrap (a0_5), Go.bits .or .u64 x5_3 1] : List Int)) := ⟨_, rfl⟩
          replace H : ((rec_sizes.f).bind fun t119 => ((num_Write.f y116 t119).bind fun bt122 => (some (bt122.1, bt122.2)))) = some (r1, r2) := by first | (rw [hy116]; with_reducible exact H) | (have H2_ := (Option.bind_some _ _).symm.trans H; rw [hy116]; with_reducible exact H2_) | (have H2_ := (Option.bind_some _ _).symm.trans H; with_reducible exact H2_) | with_reducible exact H | (rw [hy116]; exact H) | exact H
          have Ny116 := Aside0.mk hy116
          clear hy116
          replace H := Option.bind_eq_some_iff.mp H
          obtain ⟨t119, A110, H⟩ := H
          replace H : ((num_Write.f y116 t119).bind fun bt122 => (some (bt122.1, bt122.2))) = some (r1, r2) := H
          have A11 := Aside0.mk A110
          clear A110
          replace H := Option.bind_eq_some_iff.mp H
          obtain ⟨⟨t122, t123⟩, A120, H⟩ := H
          replace H : (some (t122, t123)) = some (r1, r2) := H
          have A12 := Aside0.mk A120
          clear A120
          simp only [Option.some.injEq, Prod.mk.injEq] at H
          obtain ⟨rfl, rfl⟩ := H
          obtain ⟨hcz13_0, hcz13_1, hcz13_2, hcz13_3, hcz13_4, hcz13_5, hcz13_6, hcz13_7, hfz13_0, hfz13_1, hfz13_2, hfz13_3, hfz13_4, hfz13_5, hfz13_6, hfz13_7⟩ := blkc8 BK114.out
          try go_wp2
          have n0_ := Aside0.mk (blk_drew BK114.out)
          have n1_ := Aside0.mk (below_drew1 HB.out)
          clear BK114
          clear HB
          have BK114 := n0_
          have HB := n1_
          clear n0_ n1_
          refine start_ (n := 26) (S := fun w' => True) (ds := []) #[false, false, false, false, false, false, false, false, false, false, false, false, false, false, false, false, false, false, false, false, false, false, false, false, false, false] (by kernel_rfl) rfl rfl trivial (fun hHeld => ?_); refine with_tabW rec_Note.tab9 rec_Note.bits9 (fun HT_ HW_ => ?_)
          generalize wc.drew = w14 at BK114 HB hHeld ⊢
          refine pure_ (i := 0) (N := some 19) (v := ?_) (a' := ?_) #[true, false, false, false, false, false, false, false, false, false, false, false, false, false, false, false, false, false, false, false, false, false, false, false, false, false] rfl rfl (any_of HT_.out (by kernel_rfl)) (fun _ _ _ h => h) (Or.inl ⟨by rfl, ?_⟩) ?_ ?_
          rotate_left
          · intro w'
            go_simp
            with_reducible rfl
          rotate_left
          · simp only [Act.put, List.setIfInBounds_toArray, List.set_cons_zero, List.set_cons_succ, i64_w, i32_w]
            rfl
          refine pure_ (i := 3) (N := some 22) (v := ?_) (a' := ?_) #[true, false, false, true, false, false, false, false, false, false, false, false, false, false, false, false, false, false, false, false, false, false, false, false, false, false] rfl rfl (any_of HT_.out (by kernel_rfl)) (fun _ _ _ h => h) (Or.inl ⟨by rfl, ?_⟩) ?_ ?_
          rotate_left
          · intro w'
            go_simp
            with_reducible rfl
          rotate_left
          · simp only [Act.put, List.setIfInBounds_toArray, List.set_cons_zero, List.set_cons_succ, i64_w, i32_w]
            rfl
          refine pure_ (i := 6) (N := some 25) (v := ?_) (a' := ?_) #[true, false, false, true, false, false, true, false, false, false, false, false, false, false, false, false, false, false, false, false, false, false, false, false, false, false] rfl rfl (any_of HT_.out (by kernel_rfl)) (fun _ _ _ h => h) (Or.inl ⟨by rfl, ?_⟩) ?_ ?_
          rotate_left
          · intro w'
            go_simp
            with_reducible rfl
          rotate_left
          · simp only [Act.put, List.setIfInBounds_toArray, List.set_cons_zero, List.set_cons_succ, i64_w, i32_w]
            rfl
          refine pure_ (i := 9) (N := some 28) (v := ?_) (a' := ?_) #[true, false, false, true, false, false, true, false, false, true, false, false, false, false, false, false, false, false, false, false, false, false, false, false, false, false] rfl rfl (any_of HT_.out (by kernel_rfl)) (fun _ _ _ h => h) (Or.inl ⟨by rfl, ?_⟩) ?_ ?_
          rotate_left
          · intro w'
            go_simp
            with_reducible rfl
          rotate_left
          · simp only [Act.put, List.setIfInBounds_toArray, List.set_cons_zero, List.set_cons_succ, i64_w, i32_w]
            rfl
          refine pure_ (i := 12) (N := some 31) (v := ?_) (a' := ?_) #[true, false, false, true, false, false, true, false, false, true, false, false, true, false, false, false, false, false, false, false, false, false, false, false, false, false] rfl rfl (any_of HT_.out (by kernel_rfl)) (fun _ _ _ h => h) (Or.inl ⟨by rfl, ?_⟩) ?_ ?_
          rotate_left
          · intro w'
            go_simp
            with_reducible rfl
          rotate_left
          · simp only [Act.put, List.setIfInBounds_toArray, List.set_cons_zero, List.set_cons_succ, i64_w, i32_w]
            rfl
          refine pure_ (i := 15) (N := some 34) (v := ?_) (a' := ?_) #[true, false, false, true, false, false, true, false, false, true, false, false, true, false, false, true, false, false, false, false, false, false, false, false, false, false] rfl rfl (any_of HT_.out (by kernel_rfl)) (fun _ _ _ h => h) (Or.inl ⟨by rfl, ?_⟩) ?_ ?_
          rotate_left
          · intro w'
            go_simp
            with_reducible rfl
          rotate_left
          · simp only [Act.put, List.setIfInBounds_toArray, List.set_cons_zero, List.set_cons_succ, i64_w, i32_w]
            rfl
          refine pure_ (i := 18) (N := some 37) (v := ?_) (a' := ?_) #[true, false, false, true, false, false, true, false, false, true, false, false, true, false, false, true, false, false, true, false, false, false, false, false, false, false] rfl rfl (any_of HT_.out (by kernel_rfl)) (fun _ _ _ h => h) (Or.inl ⟨by rfl, ?_⟩) ?_ ?_
          rotate_left
          · intro w'
            go_simp
            with_reducible rfl
          rotate_left
          · simp only [Act.put, List.setIfInBounds_toArray, List.set_cons_zero, List.set_cons_succ, i64_w, i32_w]
            rfl
          refine inv_at [1, 2, 4, 5, 7, 8, 10, 11, 13, 14, 16, 17, 19, 20, 21, 22, 23, 24, 25] (fun a0_ b a w' => ∃ (v117 : Value) (v120 : Value) (v124 : Value) (m21_ : Value) (m22_ : Value) (m24_ : Value), a = putSel a0_ b [(1, 20, .int .i64 a0_0), (2, 21, .int .u64 (IntKind.u64.wrap (a0_0))), (4, 23, .int .u32 a0_1), (5, 24, .int .u64 (IntKind.u64.wrap (a0_1))), (7, 26, .int .u32 a0_2), (8, 27, .int .u64 (IntKind.u64.wrap (a0_2))), (10, 29, .int .i64 a0_3), (11, 30, .int .u64 (IntKind.u64.wrap (a0_3))), (13, 32, .int .u8 a0_4), (14, 33, .int .u64 (IntKind.u64.wrap (a0_4))), (16, 35, .int .i64 a0_5), (17, 36, .int .u64 (IntKind.u64.wrap (a0_5))), (19, 38, v117), (20, 39, v120), (21, 40, m21_), (22, 41, m22_), (23, 42, .int .i64 t123), (24, 2, m24_), (25, 3, .int .i64 t123)] ∧ (w'.heap[gb114]? = some (.cells #[.int .i64 a0_0, .int .u32 a0_1, .int .u32 a0_2, .int .i64 a0_3, .int .u8 a0_4, .int .i64 a0_5, .bool a0_6, .bool true] 24 (0, 0))) ∧ (Below w.heap.size w w') ∧ (b 19 = true → Kd.R (Kd.int .u64) 36 w' w.heap.size (fun _ => True) v117 y116) ∧ (b 20 = true → Kd.R (Kd.int .i64) 3 w' w.heap.size (fun _ => True) v120 t119) ∧ (b 21 = true → Kd.R (Kd.int .u8) 5 w' w.heap.size (fun _ => True) v124 t122) ∧ (b 21 = true → (m21_ : Value) = .tuple #[v124, .int .i64 t123]) ∧ (b 22 = true → (m22_ : Value) = v124) ∧ (b 24 = true → (m24_ : Value) = v124)) HT_.out HW_.out (by kernel_rfl) (by kernel_rfl) ?_ ?_ ?_
          · exact ⟨.bool false, .bool false, .bool false, .bool false, .bool false, .bool false, by simp only [putSel, Bool.false_eq_true, if_false], BK114.out, HB.out, fun h_ => absurd h_ (by decide), fun h_ => absurd h_ (by decide), fun h_ => absurd h_ (by decide), fun h_ => absurd h_ (by decide), fun h_ => absurd h_ (by decide), fun h_ => absurd h_ (by decide)⟩
          · skip
            clear BK114 HB
            refine steps_cons ?_ ?_
            · rintro b a w' ⟨v117, v120, v124, m21_, m22_, m24_, ha, Q_BK114, Q_HB, Q_HO118, Q_HO121, Q_HO125, Q_X21_, Q_X22_, Q_X24_⟩ hb_ hon hoff
              refine ⟨_, rfl, fun K hK => ?_⟩
              have e19 : a.tmps[19]? = some (.pointer (some ⟨gb114, 0, none⟩)) := by rw [ha]; exact (putSel_off rfl).trans rfl
              replace ha := Aside0.mk ha
              have BK114 := Aside0.mk Q_BK114
              have HB := Aside0.mk Q_HB
              have hc0_ : w'.cell? ⟨gb114, 0, none⟩ = some (.int .i64 a0_0) := (blk_cell BK114.out 0).trans rfl
              have hc1_ : w'.cell? ⟨gb114, 1, none⟩ = some (.int .u32 a0_1) := (blk_cell BK114.out 1).trans rfl
              have hc2_ : w'.cell? ⟨gb114, 2, none⟩ = some (.int .u32 a0_2) := (blk_cell BK114.out 2).trans rfl
              have hc3_ : w'.cell? ⟨gb114, 3, none⟩ = some (.int .i64 a0_3) := (blk_cell BK114.out 3).trans rfl
              have hc4_ : w'.cell? ⟨gb114, 4, none⟩ = some (.int .u8 a0_4) := (blk_cell BK114.out 4).trans rfl
              have hc5_ : w'.cell? ⟨gb114, 5, none⟩ = some (.int .i64 a0_5) := (blk_cell BK114.out 5).trans rfl
              have hc6_ : w'.cell? ⟨gb114, 6, none⟩ = some (.bool a0_6) := (blk_cell BK114.out 6).trans rfl
              have hc7_ : w'.cell? ⟨gb114, 7, none⟩ = some (.bool true) := (blk_cell BK114.out 7).trans rfl
              refine value_ (w1 := w') (v := .int .i64 a0_0) (by rfl) rfl ?_ ?_
              · go_simp
                (try simp only [i64_w])
                try rfl
              refine hK.out _ _ ⟨v117, v120, v124, m21_, m22_, m24_, (by rw [ha.out]; exact putSel_upk 0 hb_ rfl rfl rfl), Q_BK114, Q_HB, fun h0_ => absurd ((hoff 19 (by kernel_rfl)).symm.trans h0_) (by decide), Q_HO121, fun h0_ => absurd ((hoff 21 (by kernel_rfl)).symm.trans h0_) (by decide), fun h0_ => absurd ((hoff 21 (by kernel_rfl)).symm.trans h0_) (by decide), fun h0_ => absurd ((hoff 22 (by kernel_rfl)).symm.trans h0_) (by decide), fun h0_ => absurd ((hoff 24 (by kernel_rfl)).symm.trans h0_) (by decide)⟩
            refine steps_cons ?_ ?_
            · rintro b a w' ⟨v117, v120, v124, m21_, m22_, m24_, ha, Q_BK114, Q_HB, Q_HO118, Q_HO121, Q_HO125, Q_X21_, Q_X22_, Q_X24_⟩ hb_ hon hoff
              refine ⟨_, rfl, fun K hK => ?_⟩
              have e20 : a.tmps[20]? = some (.int .i64 a0_0) := by rw [ha]; exact putSel_on (e := (1, 20, .int .i64 a0_0)) 0 rfl rfl (hon 1 (by kernel_rfl)) rfl
              replace ha := Aside0.mk ha
              have BK114 := Aside0.mk Q_BK114
              have HB := Aside0.mk Q_HB
              refine value_ (w1 := w') (v := .int .u64 (IntKind.u64.wrap (a0_0))) (by rfl) rfl ?_ ?_
              · go_simp
                (try simp only [i64_w])
                try rfl
              refine hK.out _ _ ⟨v117, v120, v124, m21_, m22_, m24_, (by rw [ha.out]; exact putSel_upk 1 hb_ rfl rfl rfl), Q_BK114, Q_HB, fun h0_ => absurd ((hoff 19 (by kernel_rfl)).symm.trans h0_) (by decide), Q_HO121, fun h0_ => absurd ((hoff 21 (by kernel_rfl)).symm.trans h0_) (by decide), fun h0_ => absurd ((hoff 21 (by kernel_rfl)).symm.trans h0_) (by decide), fun h0_ => absurd ((hoff 22 (by kernel_rfl)).symm.trans h0_) (by decide), fun h0_ => absurd ((hoff 24 (by kernel_rfl)).symm.trans h0_) (by decide)⟩
            refine steps_cons ?_ ?_
            · rintro b a w' ⟨v117, v120, v124, m21_, m22_, m24_, ha, Q_BK114, Q_HB, Q_HO118, Q_HO121, Q_HO125, Q_X21_, Q_X22_, Q_X24_⟩ hb_ hon hoff
              refine ⟨_, rfl, fun K hK => ?_⟩
              have e22 : a.tmps[22]? = some (.pointer (some ⟨gb114, 1, none⟩)) := by rw [ha]; exact (putSel_off rfl).trans rfl
              replace ha := Aside0.mk ha
              have BK114 := Aside0.mk Q_BK114
              have HB := Aside0.mk Q_HB
              have hc0_ : w'.cell? ⟨gb114, 0, none⟩ = some (.int .i64 a0_0) := (blk_cell BK114.out 0).trans rfl
              have hc1_ : w'.cell? ⟨gb114, 1, none⟩ = some (.int .u32 a0_1) := (blk_cell BK114.out 1).trans rfl
              have hc2_ : w'.cell? ⟨gb114, 2, none⟩ = some (.int .u32 a0_2) := (blk_cell BK114.out 2).trans rfl
              have hc3_ : w'.cell? ⟨gb114, 3, none⟩ = some (.int .i64 a0_3) := (blk_cell BK114.out 3).trans rfl
              have hc4_ : w'.cell? ⟨gb114, 4, none⟩ = some (.int .u8 a0_4) := (blk_cell BK114.out 4).trans rfl
              have hc5_ : w'.cell? ⟨gb114, 5, none⟩ = some (.int .i64 a0_5) := (blk_cell BK114.out 5).trans rfl
              have hc6_ : w'.cell? ⟨gb114, 6, none⟩ = some (.bool a0_6) := (blk_cell BK114.out 6).trans rfl
              have hc7_ : w'.cell? ⟨gb114, 7, none⟩ = some (.bool true) := (blk_cell BK114.out 7).trans rfl
              refine value_ (w1 := w') (v := .int .u32 a0_1) (by rfl) rfl ?_ ?_
              · go_simp
                (try simp only [i64_w])
                try rfl
              refine hK.out _ _ ⟨v117, v120, v124, m21_, m22_, m24_, (by rw [ha.out]; exact putSel_upk 2 hb_ rfl rfl rfl), Q_BK114, Q_HB, fun h0_ => absurd ((hoff 19 (by kernel_rfl)).symm.trans h0_) (by decide), Q_HO121, fun h0_ => absurd ((hoff 21 (by kernel_rfl)).symm.trans h0_) (by decide), fun h0_ => absurd ((hoff 21 (by kernel_rfl)).symm.trans h0_) (by decide), fun h0_ => absurd ((hoff 22 (by kernel_rfl)).symm.trans h0_) (by decide), fun h0_ => absurd ((hoff 24 (by kernel_rfl)).symm.trans h0_) (by decide)⟩
            refine steps_cons ?_ ?_
            · rintro b a w' ⟨v117, v120, v124, m21_, m22_, m24_, ha, Q_BK114, Q_HB, Q_HO118, Q_HO121, Q_HO125, Q_X21_, Q_X22_, Q_X24_⟩ hb_ hon hoff
              refine ⟨_, rfl, fun K hK => ?_⟩
              have e23 : a.tmps[23]? = some (.int .u32 a0_1) := by rw [ha]; exact putSel_on (e := (4, 23, .int .u32 a0_1)) 2 rfl rfl (hon 4 (by kernel_rfl)) rfl
              replace ha := Aside0.mk ha
              have BK114 := Aside0.mk Q_BK114
              have HB := Aside0.mk Q_HB
              refine value_ (w1 := w') (v := .int .u64 (IntKind.u64.wrap (a0_1))) (by rfl) rfl ?_ ?_
              · go_simp
                (try simp only [i64_w])
                try rfl
              refine hK.out _ _ ⟨v117, v120, v124, m21_, m22_, m24_, (by rw [ha.out]; exact putSel_upk 3 hb_ rfl rfl rfl), Q_BK114, Q_HB, fun h0_ => absurd ((hoff 19 (by kernel_rfl)).symm.trans h0_) (by decide), Q_HO121, fun h0_ => absurd ((hoff 21 (by kernel_rfl)).symm.trans h0_) (by decide), fun h0_ => absurd ((hoff 21 (by kernel_rfl)).symm.trans h0_) (by decide), fun h0_ => absurd ((hoff 22 (by kernel_rfl)).symm.trans h0_) (by decide), fun h0_ => absurd ((hoff 24 (by kernel_rfl)).symm.trans h0_) (by decide)⟩
            refine steps_cons ?_ ?_
            · rintro b a w' ⟨v117, v120, v124, m21_, m22_, m24_, ha, Q_BK114, Q_HB, Q_HO118, Q_HO121, Q_HO125, Q_X21_, Q_X22_, Q_X24_⟩ hb_ hon hoff
              refine ⟨_, rfl, fun K hK => ?_⟩
              have e25 : a.tmps[25]? = some (.pointer (some ⟨gb114, 2, none⟩)) := by rw [ha]; exact (putSel_off rfl).trans rfl
              replace ha := Aside0.mk ha
              have BK114 := Aside0.mk Q_BK114
              have HB := Aside0.mk Q_HB
              have hc0_ : w'.cell? ⟨gb114, 0, none⟩ = some (.int .i64 a0_0) := (blk_cell BK114.out 0).trans rfl
              have hc1_ : w'.cell? ⟨gb114, 1, none⟩ = some (.int .u32 a0_1) := (blk_cell BK114.out 1).trans rfl
              have hc2_ : w'.cell? ⟨gb114, 2, none⟩ = some (.int .u32 a0_2) := (blk_cell BK114.out 2).trans rfl
              have hc3_ : w'.cell? ⟨gb114, 3, none⟩ = some (.int .i64 a0_3) := (blk_cell BK114.out 3).trans rfl
              have hc4_ : w'.cell? ⟨gb114, 4, none⟩ = some (.int .u8 a0_4) := (blk_cell BK114.out 4).trans rfl
              have hc5_ : w'.cell? ⟨gb114, 5, none⟩ = some (.int .i64 a0_5) := (blk_cell BK114.out 5).trans rfl
              have hc6_ : w'.cell? ⟨gb114, 6, none⟩ = some (.bool a0_6) := (blk_cell BK114.out 6).trans rfl
              have hc7_ : w'.cell? ⟨gb114, 7, none⟩ = some (.bool true) := (blk_cell BK114.out 7).trans rfl
              refine value_ (w1 := w') (v := .int .u32 a0_2) (by rfl) rfl ?_ ?_
              · go_simp
                (try simp only [i64_w])
                try rfl
              refine hK.out _ _ ⟨v117, v120, v124, m21_, m22_, m24_, (by rw [ha.out]; exact putSel_upk 4 hb_ rfl rfl rfl), Q_BK114, Q_HB, fun h0_ => absurd ((hoff 19 (by kernel_rfl)).symm.trans h0_) (by decide), Q_HO121, fun h0_ => absurd ((hoff 21 (by kernel_rfl)).symm.trans h0_) (by decide), fun h0_ => absurd ((hoff 21 (by kernel_rfl)).symm.trans h0_) (by decide), fun h0_ => absurd ((hoff 22 (by kernel_rfl)).symm.trans h0_) (by decide), fun h0_ => absurd ((hoff 24 (by kernel_rfl)).symm.trans h0_) (by decide)⟩
            refine steps_cons ?_ ?_
            · rintro b a w' ⟨v117, v120, v124, m21_, m22_, m24_, ha, Q_BK114, Q_HB, Q_HO118, Q_HO121, Q_HO125, Q_X21_, Q_X22_, Q_X24_⟩ hb_ hon hoff
              refine ⟨_, rfl, fun K hK => ?_⟩
              have e26 : a.tmps[26]? = some (.int .u32 a0_2) := by rw [ha]; exact putSel_on (e := (7, 26, .int .u32 a0_2)) 4 rfl rfl (hon 7 (by kernel_rfl)) rfl
              replace ha := Aside0.mk ha
              have BK114 := Aside0.mk Q_BK114
              have HB := Aside0.mk Q_HB
              refine value_ (w1 := w') (v := .int .u64 (IntKind.u64.wrap (a0_2))) (by rfl) rfl ?_ ?_
              · go_simp
                (try simp only [i64_w])
                try rfl
              refine hK.out _ _ ⟨v117, v120, v124, m21_, m22_, m24_, (by rw [ha.out]; exact putSel_upk 5 hb_ rfl rfl rfl), Q_BK114, Q_HB, fun h0_ => absurd ((hoff 19 (by kernel_rfl)).symm.trans h0_) (by decide), Q_HO121, fun h0_ => absurd ((hoff 21 (by kernel_rfl)).symm.trans h0_) (by decide), fun h0_ => absurd ((hoff 21 (by kernel_rfl)).symm.trans h0_) (by decide), fun h0_ => absurd ((hoff 22 (by kernel_rfl)).symm.trans h0_) (by decide), fun h0_ => absurd ((hoff 24 (by kernel_rfl)).symm.trans h0_) (by decide)⟩
            refine steps_cons ?_ ?_
            · rintro b a w' ⟨v117, v120, v124, m21_, m22_, m24_, ha, Q_BK114, Q_HB, Q_HO118, Q_HO121, Q_HO125, Q_X21_, Q_X22_, Q_X24_⟩ hb_ hon hoff
              refine ⟨_, rfl, fun K hK => ?_⟩
              have e28 : a.tmps[28]? = some (.pointer (some ⟨gb114, 3, none⟩)) := by rw [ha]; exact (putSel_off rfl).trans rfl
              replace ha := Aside0.mk ha
              have BK114 := Aside0.mk Q_BK114
              have HB := Aside0.mk Q_HB
              have hc0_ : w'.cell? ⟨gb114, 0, none⟩ = some (.int .i64 a0_0) := (blk_cell BK114.out 0).trans rfl
              have hc1_ : w'.cell? ⟨gb114, 1, none⟩ = some (.int .u32 a0_1) := (blk_cell BK114.out 1).trans rfl
              have hc2_ : w'.cell? ⟨gb114, 2, none⟩ = some (.int .u32 a0_2) := (blk_cell BK114.out 2).trans rfl
              have hc3_ : w'.cell? ⟨gb114, 3, none⟩ = some (.int .i64 a0_3) := (blk_cell BK114.out 3).trans rfl
              have hc4_ : w'.cell? ⟨gb114, 4, none⟩ = some (.int .u8 a0_4) := (blk_cell BK114.out 4).trans rfl
              have hc5_ : w'.cell? ⟨gb114, 5, none⟩ = some (.int .i64 a0_5) := (blk_cell BK114.out 5).trans rfl
              have hc6_ : w'.cell? ⟨gb114, 6, none⟩ = some (.bool a0_6) := (blk_cell BK114.out 6).trans rfl
              have hc7_ : w'.cell? ⟨gb114, 7, none⟩ = some (.bool true) := (blk_cell BK114.out 7).trans rfl
              refine value_ (w1 := w') (v := .int .i64 a0_3) (by rfl) rfl ?_ ?_
              · go_simp
                (try simp only [i64_w])
                try rfl
              refine hK.out _ _ ⟨v117, v120, v124, m21_, m22_, m24_, (by rw [ha.out]; exact putSel_upk 6 hb_ rfl rfl rfl), Q_BK114, Q_HB, fun h0_ => absurd ((hoff 19 (by kernel_rfl)).symm.trans h0_) (by decide), Q_HO121, fun h0_ => absurd ((hoff 21 (by kernel_rfl)).symm.trans h0_) (by decide), fun h0_ => absurd ((hoff 21 (by kernel_rfl)).symm.trans h0_) (by decide), fun h0_ => absurd ((hoff 22 (by kernel_rfl)).symm.trans h0_) (by decide), fun h0_ => absurd ((hoff 24 (by kernel_rfl)).symm.trans h0_) (by decide)⟩
            refine steps_cons ?_ ?_
            · rintro b a w' ⟨v117, v120, v124, m21_, m22_, m24_, ha, Q_BK114, Q_HB, Q_HO118, Q_HO121, Q_HO125, Q_X21_, Q_X22_, Q_X24_⟩ hb_ hon hoff
              refine ⟨_, rfl, fun K hK => ?_⟩
              have e29 : a.tmps[29]? = some (.int .i64 a0_3) := by rw [ha]; exact putSel_on (e := (10, 29, .int .i64 a0_3)) 6 rfl rfl (hon 10 (by kernel_rfl)) rfl
              replace ha := Aside0.mk ha
              have BK114 := Aside0.mk Q_BK114
              have HB := Aside0.mk Q_HB
              refine value_ (w1 := w') (v := .int .u64 (IntKind.u64.wrap (a0_3))) (by rfl) rfl ?_ ?_
              · go_simp
                (try simp only [i64_w])
                try rfl
              refine hK.out _ _ ⟨v117, v120, v124, m21_, m22_, m24_, (by rw [ha.out]; exact putSel_upk 7 hb_ rfl rfl rfl), Q_BK114, Q_HB, fun h0_ => absurd ((hoff 19 (by kernel_rfl)).symm.trans h0_) (by decide), Q_HO121, fun h0_ => absurd ((hoff 21 (by kernel_rfl)).symm.trans h0_) (by decide), fun h0_ => absurd ((hoff 21 (by kernel_rfl)).symm.trans h0_) (by decide), fun h0_ => absurd ((hoff 22 (by kernel_rfl)).symm.trans h0_) (by decide), fun h0_ => absurd ((hoff 24 (by kernel_rfl)).symm.trans h0_) (by decide)⟩
            refine steps_cons ?_ ?_
            · rintro b a w' ⟨v117, v120, v124, m21_, m22_, m24_, ha, Q_BK114, Q_HB, Q_HO118, Q_HO121, Q_HO125, Q_X21_, Q_X22_, Q_X24_⟩ hb_ hon hoff
              refine ⟨_, rfl, fun K hK => ?_⟩
              have e31 : a.tmps[31]? = some (.pointer (some ⟨gb114, 4, none⟩)) := by rw [ha]; exact (putSel_off rfl).trans rfl
              replace ha := Aside0.mk ha
              have BK114 := Aside0.mk Q_BK114
              have HB := Aside0.mk Q_HB
              have hc0_ : w'.cell? ⟨gb114, 0, none⟩ = some (.int .i64 a0_0) := (blk_cell BK114.out 0).trans rfl
              have hc1_ : w'.cell? ⟨gb114, 1, none⟩ = some (.int .u32 a0_1) := (blk_cell BK114.out 1).trans rfl
              have hc2_ : w'.cell? ⟨gb114, 2, none⟩ = some (.int .u32 a0_2) := (blk_cell BK114.out 2).trans rfl
              have hc3_ : w'.cell? ⟨gb114, 3, none⟩ = some (.int .i64 a0_3) := (blk_cell BK114.out 3).trans rfl
              have hc4_ : w'.cell? ⟨gb114, 4, none⟩ = some (.int .u8 a0_4) := (blk_cell BK114.out 4).trans rfl
              have hc5_ : w'.cell? ⟨gb114, 5, none⟩ = some (.int .i64 a0_5) := (blk_cell BK114.out 5).trans rfl
              have hc6_ : w'.cell? ⟨gb114, 6, none⟩ = some (.bool a0_6) := (blk_cell BK114.out 6).trans rfl
              have hc7_ : w'.cell? ⟨gb114, 7, none⟩ = some (.bool true) := (blk_cell BK114.out 7).trans rfl
              refine value_ (w1 := w') (v := .int .u8 a0_4) (by rfl) rfl ?_ ?_
              · go_simp
                (try simp only [i64_w])
                try rfl
              refine hK.out _ _ ⟨v117, v120, v124, m21_, m22_, m24_, (by rw [ha.out]; exact putSel_upk 8 hb_ rfl rfl rfl), Q_BK114, Q_HB, fun h0_ => absurd ((hoff 19 (by kernel_rfl)).symm.trans h0_) (by decide), Q_HO121, fun h0_ => absurd ((hoff 21 (by kernel_rfl)).symm.trans h0_) (by decide), fun h0_ => absurd ((hoff 21 (by kernel_rfl)).symm.trans h0_) (by decide), fun h0_ => absurd ((hoff 22 (by kernel_rfl)).symm.trans h0_) (by decide), fun h0_ => absurd ((hoff 24 (by kernel_rfl)).symm.trans h0_) (by decide)⟩
            refine steps_cons ?_ ?_
            · rintro b a w' ⟨v117, v120, v124, m21_, m22_, m24_, ha, Q_BK114, Q_HB, Q_HO118, Q_HO121, Q_HO125, Q_X21_, Q_X22_, Q_X24_⟩ hb_ hon hoff
              refine ⟨_, rfl, fun K hK => ?_⟩
              have e32 : a.tmps[32]? = some (.int .u8 a0_4) := by rw [ha]; exact putSel_on (e := (13, 32, .int .u8 a0_4)) 8 rfl rfl (hon 13 (by kernel_rfl)) rfl
              replace ha := Aside0.mk ha
              have BK114 := Aside0.mk Q_BK114
              have HB := Aside0.mk Q_HB
              refine value_ (w1 := w') (v := .int .u64 (IntKind.u64.wrap (a0_4))) (by rfl) rfl ?_ ?_
              · go_simp
                (try simp only [i64_w])
                try rfl
              refine hK.out _ _ ⟨v117, v120, v124, m21_, m22_, m24_, (by rw [ha.out]; exact putSel_upk 9 hb_ rfl rfl rfl), Q_BK114, Q_HB, fun h0_ => absurd ((hoff 19 (by kernel_rfl)).symm.trans h0_) (by decide), Q_HO121, fun h0_ => absurd ((hoff 21 (by kernel_rfl)).symm.trans h0_) (by decide), fun h0_ => absurd ((hoff 21 (by kernel_rfl)).symm.trans h0_) (by decide), fun h0_ => absurd ((hoff 22 (by kernel_rfl)).symm.trans h0_) (by decide), fun h0_ => absurd ((hoff 24 (by kernel_rfl)).symm.trans h0_) (by decide)⟩
            refine steps_cons ?_ ?_
            · rintro b a w' ⟨v117, v120, v124, m21_, m22_, m24_, ha, Q_BK114, Q_HB, Q_HO118, Q_HO121, Q_HO125, Q_X21_, Q_X22_, Q_X24_⟩ hb_ hon hoff
              refine ⟨_, rfl, fun K hK => ?_⟩
              have e34 : a.tmps[34]? = some (.pointer (some ⟨gb114, 5, none⟩)) := by rw [ha]; exact (putSel_off rfl).trans rfl
              replace ha := Aside0.mk ha
              have BK114 := Aside0.mk Q_BK114
              have HB := Aside0.mk Q_HB
              have hc0_ : w'.cell? ⟨gb114, 0, none⟩ = some (.int .i64 a0_0) := (blk_cell BK114.out 0).trans rfl
              have hc1_ : w'.cell? ⟨gb114, 1, none⟩ = some (.int .u32 a0_1) := (blk_cell BK114.out 1).trans rfl
              have hc2_ : w'.cell? ⟨gb114, 2, none⟩ = some (.int .u32 a0_2) := (blk_cell BK114.out 2).trans rfl
              have hc3_ : w'.cell? ⟨gb114, 3, none⟩ = some (.int .i64 a0_3) := (blk_cell BK114.out 3).trans rfl
              have hc4_ : w'.cell? ⟨gb114, 4, none⟩ = some (.int .u8 a0_4) := (blk_cell BK114.out 4).trans rfl
              have hc5_ : w'.cell? ⟨gb114, 5, none⟩ = some (.int .i64 a0_5) := (blk_cell BK114.out 5).trans rfl
              have hc6_ : w'.cell? ⟨gb114, 6, none⟩ = some (.bool a0_6) := (blk_cell BK114.out 6).trans rfl
              have hc7_ : w'.cell? ⟨gb114, 7, none⟩ = some (.bool true) := (blk_cell BK114.out 7).trans rfl
              refine value_ (w1 := w') (v := .int .i64 a0_5) (by rfl) rfl ?_ ?_
              · go_simp
                (try simp only [i64_w])
                try rfl
              refine hK.out _ _ ⟨v117, v120, v124, m21_, m22_, m24_, (by rw [ha.out]; exact putSel_upk 10 hb_ rfl rfl rfl), Q_BK114, Q_HB, fun h0_ => absurd ((hoff 19 (by kernel_rfl)).symm.trans h0_) (by decide), Q_HO121, fun h0_ => absurd ((hoff 21 (by kernel_rfl)).symm.trans h0_) (by decide), fun h0_ => absurd ((hoff 21 (by kernel_rfl)).symm.trans h0_) (by decide), fun h0_ => absurd ((hoff 22 (by kernel_rfl)).symm.trans h0_) (by decide), fun h0_ => absurd ((hoff 24 (by kernel_rfl)).symm.trans h0_) (by decide)⟩
            refine steps_cons ?_ ?_
            · rintro b a w' ⟨v117, v120, v124, m21_, m22_, m24_, ha, Q_BK114, Q_HB, Q_HO118, Q_HO121, Q_HO125, Q_X21_, Q_X22_, Q_X24_⟩ hb_ hon hoff
              refine ⟨_, rfl, fun K hK => ?_⟩
              have e35 : a.tmps[35]? = some (.int .i64 a0_5) := by rw [ha]; exact putSel_on (e := (16, 35, .int .i64 a0_5)) 10 rfl rfl (hon 16 (by kernel_rfl)) rfl
              replace ha := Aside0.mk ha
              have BK114 := Aside0.mk Q_BK114
              have HB := Aside0.mk Q_HB
              refine value_ (w1 := w') (v := .int .u64 (IntKind.u64.wrap (a0_5))) (by rfl) rfl ?_ ?_
              · go_simp
                (try simp only [i64_w])
                try rfl
              refine hK.out _ _ ⟨v117, v120, v124, m21_, m22_, m24_, (by rw [ha.out]; exact putSel_upk 11 hb_ rfl rfl rfl), Q_BK114, Q_HB, fun h0_ => absurd ((hoff 19 (by kernel_rfl)).symm.trans h0_) (by decide), Q_HO121, fun h0_ => absurd ((hoff 21 (by kernel_rfl)).symm.trans h0_) (by decide), fun h0_ => absurd ((hoff 21 (by kernel_rfl)).symm.trans h0_) (by decide), fun h0_ => absurd ((hoff 22 (by kernel_rfl)).symm.trans h0_) (by decide), fun h0_ => absurd ((hoff 24 (by kernel_rfl)).symm.trans h0_) (by decide)⟩
            refine steps_cons ?_ ?_
            · rintro b a w' ⟨v117, v120, v124, m21_, m22_, m24_, ha, Q_BK114, Q_HB, Q_HO118, Q_HO121, Q_HO125, Q_X21_, Q_X22_, Q_X24_⟩ hb_ hon hoff
              refine ⟨_, rfl, fun K hK => ?_⟩
              have e21 : a.tmps[21]? = some (.int .u64 (IntKind.u64.wrap (a0_0))) := by rw [ha]; exact putSel_on (e := (2, 21, .int .u64 (IntKind.u64.wrap (a0_0)))) 1 rfl rfl (hon 2 (by kernel_rfl)) rfl
              have e24 : a.tmps[24]? = some (.int .u64 (IntKind.u64.wrap (a0_1))) := by rw [ha]; exact putSel_on (e := (5, 24, .int .u64 (IntKind.u64.wrap (a0_1)))) 3 rfl rfl (hon 5 (by kernel_rfl)) rfl
              have e27 : a.tmps[27]? = some (.int .u64 (IntKind.u64.wrap (a0_2))) := by rw [ha]; exact putSel_on (e := (8, 27, .int .u64 (IntKind.u64.wrap (a0_2)))) 5 rfl rfl (hon 8 (by kernel_rfl)) rfl
              have e30 : a.tmps[30]? = some (.int .u64 (IntKind.u64.wrap (a0_3))) := by rw [ha]; exact putSel_on (e := (11, 30, .int .u64 (IntKind.u64.wrap (a0_3)))) 7 rfl rfl (hon 11 (by kernel_rfl)) rfl
              have e33 : a.tmps[33]? = some (.int .u64 (IntKind.u64.wrap (a0_4))) := by rw [ha]; exact putSel_on (e := (14, 33, .int .u64 (IntKind.u64.wrap (a0_4)))) 9 rfl rfl (hon 14 (by kernel_rfl)) rfl
              have e36 : a.tmps[36]? = some (.int .u64 (IntKind.u64.wrap (a0_5))) := by rw [ha]; exact putSel_on (e := (17, 36, .int .u64 (IntKind.u64.wrap (a0_5)))) 11 rfl rfl (hon 17 (by kernel_rfl)) rfl
              have e37 : a.tmps[37]? = some (.int .u64 (Go.bits .or .u64 x5_3 1)) := by rw [ha]; exact (putSel_off rfl).trans rfl
              replace ha := Aside0.mk ha
              have BK114 := Aside0.mk Q_BK114
              have HB := Aside0.mk Q_HB
              refine Kd.R_lit_step (Kd.int .u64) _ 36 ?hg (N := 38) ?hd (xs := ([1, IntKind.u64.wrap (a0_0), IntKind.u64.wrap (a0_1), IntKind.u64.wrap (a0_2), IntKind.u64.wrap (a0_3), IntKind.u64.wrap (a0_4), IntKind.u64.wrap (a0_5), Go.bits .or .u64 x5_3 1] : List Int)) (inner := [.int .u64 1, .int .u64 (IntKind.u64.wrap (a0_0)), .int .u64 (IntKind.u64.wrap (a0_1)), .int .u64 (IntKind.u64.wrap (a0_2)), .int .u64 (IntKind.u64.wrap (a0_3)), .int .u64 (IntKind.u64.wrap (a0_4)), .int .u64 (IntKind.u64.wrap (a0_5)), .int .u64 (Go.bits .or .u64 x5_3 1)]) (ok := fun _ => True) (okp := fun _ => True) ?hr ?hp (fun _ hk => hk) trivial (Below.refl _ _) (Nat.le_refl _) (by simp) ?_; (case hd => rfl); (case hg => rfl); (case hr => first | (go_simp; done) | (go_simp; rfl)); (case hp => exact (Reps.one (show Kd.M (Kd.int .u64) _ _ _ 1 [.int .u64 1] from rfl) (Reps.one (show Kd.M (Kd.int .u64) _ _ _ (IntKind.u64.wrap (a0_0)) [.int .u64 (IntKind.u64.wrap (a0_0))] from rfl) (Reps.one (show Kd.M (Kd.int .u64) _ _ _ (IntKind.u64.wrap (a0_1)) [.int .u64 (IntKind.u64.wrap (a0_1))] from rfl) (Reps.one (show Kd.M (Kd.int .u64) _ _ _ (IntKind.u64.wrap (a0_2)) [.int .u64 (IntKind.u64.wrap (a0_2))] from rfl) (Reps.one (show Kd.M (Kd.int .u64) _ _ _ (IntKind.u64.wrap (a0_3)) [.int .u64 (IntKind.u64.wrap (a0_3))] from rfl) (Reps.one (show Kd.M (Kd.int .u64) _ _ _ (IntKind.u64.wrap (a0_4)) [.int .u64 (IntKind.u64.wrap (a0_4))] from rfl) (Reps.one (show Kd.M (Kd.int .u64) _ _ _ (IntKind.u64.wrap (a0_5)) [.int .u64 (IntKind.u64.wrap (a0_5))] from rfl) (Reps.one (show Kd.M (Kd.int .u64) _ _ _ (Go.bits .or .u64 x5_3 1) [.int .u64 (Go.bits .or .u64 x5_3 1)] from rfl) (Reps.none _ _))))))))))
              intro v117 w15 ho16 hb hg_ hnew_
              clear hg_ hnew_
              (first | rw [← Ny116.out] at ho16 | (simp only [Int.reduceToNat] at ho16; rw [← Ny116.out] at ho16))
              have n0_ := Aside0.mk (Kd.R_lower ho16 (below_size (by repeat (first | (with_reducible first | exact HB.out | apply below_alloc | apply pw_below_drewN | apply below_drew1 | refine below_set ?_ GE114.out) | exact HB.out))))
              have n1_ := Aside0.mk (blk_below (g := gb114) (o := .cells #[.int .i64 a0_0, .int .u32 a0_1, .int .u32 a0_2, .int .i64 a0_3, .int .u8 a0_4, .int .i64 a0_5, .bool a0_6, .bool true] 24 (0, 0)) (by (with_reducible repeat (first | refine blk_drewN ?_ _ | refine blk_drew ?_ | refine blk_alloc ?_ _)); exact BK114.out) hb)
              have n2_ := Aside0.mk (below_step (by repeat (first | (with_reducible first | exact HB.out | apply below_alloc | apply pw_below_drewN | apply below_drew1 | refine below_set ?_ GE114.out) | exact HB.out)) hb)
              have z_HO121 := fun (h0_ : b 20 = true) => (show Kd.R (Kd.int .i64) 3 w15 w.heap.size (fun _ => True) v120 t119 from by first | exact (Kd.R_below (by (with_reducible repeat (first | apply Kd.R_alloc | apply Kd.R_drewN | apply Kd.R_drew)); exact (Q_HO121 h0_)) hb) | exact Kd.R_mono (Kd.R_below (by (with_reducible repeat (first | apply Kd.R_alloc | apply Kd.R_drewN | apply Kd.R_drew)); exact (Q_HO121 h0_)) hb) (fun _ h_ => by first | trivial | exact h_ | exact h_.1))
              clear BK114
              clear HB
              have HO118 := n0_
              have BK114 := n1_
              have HB := n2_
              clear n0_ n1_ n2_
              clear hb ho16
              refine hK.out _ _ ⟨v117, v120, v124, m21_, m22_, m24_, (by rw [ha.out]; exact putSel_upk 12 hb_ rfl rfl rfl), (by (with_reducible repeat (first | refine blk_drewN ?_ _ | refine blk_drew ?_ | refine blk_alloc ?_ _)); exact BK114.out), (by repeat (first | (with_reducible first | exact HB.out | apply below_alloc | apply pw_below_drewN | apply below_drew1 | refine below_set ?_ GE114.out) | exact HB.out)), fun _ => (by (with_reducible repeat (first | apply Kd.R_alloc | apply Kd.R_drewN | apply Kd.R_drew)); exact HO118.out), z_HO121, fun h0_ => absurd ((hoff 21 (by kernel_rfl)).symm.trans h0_) (by decide), fun h0_ => absurd ((hoff 21 (by kernel_rfl)).symm.trans h0_) (by decide), fun h0_ => absurd ((hoff 22 (by kernel_rfl)).symm.trans h0_) (by decide), fun h0_ => absurd ((hoff 24 (by kernel_rfl)).symm.trans h0_) (by decide)⟩
            refine steps_cons ?_ ?_
            · rintro b a w' ⟨v117, v120, v124, m21_, m22_, m24_, ha, Q_BK114, Q_HB, Q_HO118, Q_HO121, Q_HO125, Q_X21_, Q_X22_, Q_X24_⟩ hb_ hon hoff
              refine ⟨_, rfl, fun K hK => ?_⟩
              replace ha := Aside0.mk ha
              have BK114 := Aside0.mk Q_BK114
              have HB := Aside0.mk Q_HB
              refine goes_ Try.func11 (by kernel_rfl) rfl #[] (by rfl) rfl rfl (by first | (simp only [List.map_toArray, List.map_cons, List.map_nil, Act.eval, Array.getD_eq_getD_getElem?, Option.getD_some]; done) | (simp only [List.map_toArray, List.map_cons, List.map_nil, Act.eval, Array.getD_eq_getD_getElem?, Option.getD_some]; rfl)) ?_
              with_reducible refine (rec_sizes.calls  t119 _ A11.out).mono ?_
              rintro e w15 ⟨v120, rfl, ho0, hb⟩
              refine ⟨_, rfl, ?_⟩
              have n0_ := Aside0.mk (Kd.R_lower ho0 (below_size (by repeat (first | (with_reducible first | exact HB.out | apply below_alloc | apply pw_below_drewN | apply below_drew1 | refine below_set ?_ GE114.out) | exact HB.out))))
              have n1_ := Aside0.mk (blk_below (g := gb114) (o := .cells #[.int .i64 a0_0, .int .u32 a0_1, .int .u32 a0_2, .int .i64 a0_3, .int .u8 a0_4, .int .i64 a0_5, .bool a0_6, .bool true] 24 (0, 0)) (by (with_reducible repeat (first | refine blk_drewN ?_ _ | refine blk_drew ?_ | refine blk_alloc ?_ _)); exact BK114.out) hb)
              have n2_ := Aside0.mk (below_step (by repeat (first | (with_reducible first | exact HB.out | apply below_alloc | apply pw_below_drewN | apply below_drew1 | refine below_set ?_ GE114.out) | exact HB.out)) hb)
              have z_HO118 := fun (h0_ : b 19 = true) => (show Kd.R (Kd.int .u64) 36 w15 w.heap.size (fun _ => True) v117 y116 from by first | exact (Kd.R_below (by (with_reducible repeat (first | apply Kd.R_alloc | apply Kd.R_drewN | apply Kd.R_drew)); exact (Q_HO118 h0_)) hb) | exact Kd.R_mono (Kd.R_below (by (with_reducible repeat (first | apply Kd.R_alloc | apply Kd.R_drewN | apply Kd.R_drew)); exact (Q_HO118 h0_)) hb) (fun _ h_ => by first | trivial | exact h_ | exact h_.1))
              clear BK114
              clear HB
              have HO121 := n0_
              have BK114 := n1_
              have HB := n2_
              clear n0_ n1_ n2_
              (try clear hb)
              (try clear hb2)
              (try clear hk)
              (try clear hi)
              (try clear ho0)
              refine hK.out _ _ ⟨v117, v120, v124, m21_, m22_, m24_, (by rw [ha.out]; exact putSel_upk 13 hb_ rfl rfl rfl), (by (with_reducible repeat (first | refine blk_drewN ?_ _ | refine blk_drew ?_ | refine blk_alloc ?_ _)); exact BK114.out), (by repeat (first | (with_reducible first | exact HB.out | apply below_alloc | apply pw_below_drewN | apply below_drew1 | refine below_set ?_ GE114.out) | exact HB.out)), z_HO118, fun _ => (by (with_reducible repeat (first | apply Kd.R_alloc | apply Kd.R_drewN | apply Kd.R_drew)); exact HO121.out), fun h0_ => absurd ((hoff 21 (by kernel_rfl)).symm.trans h0_) (by decide), fun h0_ => absurd ((hoff 21 (by kernel_rfl)).symm.trans h0_) (by decide), fun h0_ => absurd ((hoff 22 (by kernel_rfl)).symm.trans h0_) (by decide), fun h0_ => absurd ((hoff 24 (by kernel_rfl)).symm.trans h0_) (by decide)⟩
            refine steps_cons ?_ ?_
            · rintro b a w' ⟨v117, v120, v124, m21_, m22_, m24_, ha, Q_BK114, Q_HB, Q_HO118, Q_HO121, Q_HO125, Q_X21_, Q_X22_, Q_X24_⟩ hb_ hon hoff
              refine ⟨_, rfl, fun K hK => ?_⟩
              have e38 : a.tmps[38]? = some (v117) := by rw [ha]; exact putSel_on (e := (19, 38, v117)) 12 rfl rfl (hon 19 (by kernel_rfl)) rfl
              have e39 : a.tmps[39]? = some (v120) := by rw [ha]; exact putSel_on (e := (20, 39, v120)) 13 rfl rfl (hon 20 (by kernel_rfl)) rfl
              replace ha := Aside0.mk ha
              have BK114 := Aside0.mk Q_BK114
              have HB := Aside0.mk Q_HB
              have HO118 := Aside0.mk (Q_HO118 (hon 19 (by kernel_rfl)))
              have HO121 := Aside0.mk (Q_HO121 (hon 20 (by kernel_rfl)))
              obtain ⟨Ao19, co19, eo19⟩ := Kd.R_slice HO118.out
              (first | subst eo19 | (injection eo19 with f1_ f2_ f3_; have f4_ := f1_.symm; have f5_ := f3_.symm; clear f1_ f2_ f3_; subst f4_; subst f5_))
              obtain ⟨Ao20, co20, eo20⟩ := Kd.R_slice HO121.out
              (first | subst eo20 | (injection eo20 with f1_ f2_ f3_; have f4_ := f1_.symm; have f5_ := f3_.symm; clear f1_ f2_ f3_; subst f4_; subst f5_))
              refine goes_ Try.func10 (by kernel_rfl) rfl #[.slice Ao19 y116.length co19, .slice Ao20 t119.length co20] (by rfl) rfl rfl (by first | (simp only [List.map_toArray, List.map_cons, List.map_nil, Act.eval, Array.getD_eq_getD_getElem?, Option.getD_some, e38, e39]; done) | (simp only [List.map_toArray, List.map_cons, List.map_nil, Act.eval, Array.getD_eq_getD_getElem?, Option.getD_some, e38, e39]; rfl)) ?_
              with_reducible refine (num_Write.calls _ _ y116 _ _ t119 t122 t123 _ ?side1 ?side2 ?side3 ?side4 A12.out).mono ?_
              (case side1 => repeat (first | exact (Kd.R_reads' HO118.out).2.2 | (with_reducible refine Kd.C_alloc ?_ _) | (with_reducible refine Kd.C_drewN ?_ _) | (with_reducible refine Kd.C_drew ?_)))
              (case side2 => exact (Kd.R_reads' HO118.out).2.1)
              (case side3 => repeat (first | exact (Kd.R_reads' HO121.out).2.2 | (with_reducible refine Kd.C_alloc ?_ _) | (with_reducible refine Kd.C_drewN ?_ _) | (with_reducible refine Kd.C_drew ?_)))
              (case side4 => exact (Kd.R_reads' HO121.out).2.1)
              rintro e w21 ⟨v124, rfl, ho0, hb⟩
              refine ⟨_, rfl, ?_⟩
              have n0_ := Aside0.mk (Kd.R_below (by (with_reducible repeat (first | apply Kd.R_alloc | apply Kd.R_drewN | apply Kd.R_drew)); exact HO118.out) hb)
              have n1_ := Aside0.mk (Kd.R_below (by (with_reducible repeat (first | apply Kd.R_alloc | apply Kd.R_drewN | apply Kd.R_drew)); exact HO121.out) hb)
              have n2_ := Aside0.mk (Kd.R_lower ho0 (below_size (by repeat (first | (with_reducible first | exact HB.out | apply below_alloc | apply pw_below_drewN | apply below_drew1 | refine below_set ?_ GE114.out) | exact HB.out))))
              have n3_ := Aside0.mk (blk_below (g := gb114) (o := .cells #[.int .i64 a0_0, .int .u32 a0_1, .int .u32 a0_2, .int .i64 a0_3, .int .u8 a0_4, .int .i64 a0_5, .bool a0_6, .bool true] 24 (0, 0)) (by (with_reducible repeat (first | refine blk_drewN ?_ _ | refine blk_drew ?_ | refine blk_alloc ?_ _)); exact BK114.out) hb)
              have n4_ := Aside0.mk (below_step (by repeat (first | (with_reducible first | exact HB.out | apply below_alloc | apply pw_below_drewN | apply below_drew1 | refine below_set ?_ GE114.out) | exact HB.out)) hb)
              clear HO118
              clear HO121
              clear BK114
              clear HB
              have HO118 := n0_
              have HO121 := n1_
              have HO125 := n2_
              have BK114 := n3_
              have HB := n4_
              clear n0_ n1_ n2_ n3_ n4_
              (try clear hb)
              (try clear hb2)
              (try clear hk)
              (try clear hi)
              (try clear ho0)
              refine hK.out _ _ ⟨.slice Ao19 y116.length co19, .slice Ao20 t119.length co20, v124, (.tuple #[v124, .int .i64 t123]), m22_, m24_, (by rw [ha.out]; exact putSel_upk 14 hb_ rfl rfl rfl), (by (with_reducible repeat (first | refine blk_drewN ?_ _ | refine blk_drew ?_ | refine blk_alloc ?_ _)); exact BK114.out), (by repeat (first | (with_reducible first | exact HB.out | apply below_alloc | apply pw_below_drewN | apply below_drew1 | refine below_set ?_ GE114.out) | exact HB.out)), fun _ => (by (with_reducible repeat (first | apply Kd.R_alloc | apply Kd.R_drewN | apply Kd.R_drew)); exact HO118.out), fun _ => (by (with_reducible repeat (first | apply Kd.R_alloc | apply Kd.R_drewN | apply Kd.R_drew)); exact HO121.out), fun _ => (by (with_reducible repeat (first | apply Kd.R_alloc | apply Kd.R_drewN | apply Kd.R_drew)); exact HO125.out), fun _ => rfl, fun h0_ => absurd ((hoff 22 (by kernel_rfl)).symm.trans h0_) (by decide), fun h0_ => absurd ((hoff 24 (by kernel_rfl)).symm.trans h0_) (by decide)⟩
            refine steps_cons ?_ ?_
            · rintro b a w' ⟨v117, v120, v124, m21_, m22_, m24_, ha, Q_BK114, Q_HB, Q_HO118, Q_HO121, Q_HO125, Q_X21_, Q_X22_, Q_X24_⟩ hb_ hon hoff
              refine ⟨_, rfl, fun K hK => ?_⟩
              have e40 : a.tmps[40]? = some (m21_) := by rw [ha]; exact putSel_on (e := (21, 40, m21_)) 14 rfl rfl (hon 21 (by kernel_rfl)) rfl
              rw [Q_X21_ (hon 21 (by kernel_rfl))] at e40
              replace ha := Aside0.mk ha
              have BK114 := Aside0.mk Q_BK114
              have HB := Aside0.mk Q_HB
              have HO118 := Aside0.mk (Q_HO118 (hon 19 (by kernel_rfl)))
              have HO121 := Aside0.mk (Q_HO121 (hon 20 (by kernel_rfl)))
              have HO125 := Aside0.mk (Q_HO125 (hon 21 (by kernel_rfl)))
              obtain ⟨Ao22_0, co22_0, eo_⟩ := Kd.R_slice HO125.out
              subst eo_
              refine value_ (w1 := w') (v := .slice Ao22_0 t122.length co22_0) (by rfl) rfl ?_ ?_
              · go_simp
                (try simp only [i64_w])
                try rfl
              refine hK.out _ _ ⟨v117, v120, .slice Ao22_0 t122.length co22_0, m21_, (.slice Ao22_0 t122.length co22_0), m24_, (by rw [ha.out]; exact putSel_upk 15 hb_ rfl rfl rfl), Q_BK114, Q_HB, Q_HO118, Q_HO121, Q_HO125, Q_X21_, fun _ => rfl, fun h0_ => absurd ((hoff 24 (by kernel_rfl)).symm.trans h0_) (by decide)⟩
            refine steps_cons ?_ ?_
            · rintro b a w' ⟨v117, v120, v124, m21_, m22_, m24_, ha, Q_BK114, Q_HB, Q_HO118, Q_HO121, Q_HO125, Q_X21_, Q_X22_, Q_X24_⟩ hb_ hon hoff
              refine ⟨_, rfl, fun K hK => ?_⟩
              have e40 : a.tmps[40]? = some (m21_) := by rw [ha]; exact putSel_on (e := (21, 40, m21_)) 14 rfl rfl (hon 21 (by kernel_rfl)) rfl
              rw [Q_X21_ (hon 21 (by kernel_rfl))] at e40
              replace ha := Aside0.mk ha
              have BK114 := Aside0.mk Q_BK114
              have HB := Aside0.mk Q_HB
              have HO118 := Aside0.mk (Q_HO118 (hon 19 (by kernel_rfl)))
              have HO121 := Aside0.mk (Q_HO121 (hon 20 (by kernel_rfl)))
              have HO125 := Aside0.mk (Q_HO125 (hon 21 (by kernel_rfl)))
              obtain ⟨Ao23_0, co23_0, eo_⟩ := Kd.R_slice HO125.out
              subst eo_
              refine value_ (w1 := w') (v := .int .i64 t123) (by rfl) rfl ?_ ?_
              · go_simp
                (try simp only [i64_w])
                try rfl
              refine hK.out _ _ ⟨v117, v120, .slice Ao23_0 t122.length co23_0, m21_, m22_, m24_, (by rw [ha.out]; exact putSel_upk 16 hb_ rfl rfl rfl), Q_BK114, Q_HB, Q_HO118, Q_HO121, Q_HO125, Q_X21_, Q_X22_, fun h0_ => absurd ((hoff 24 (by kernel_rfl)).symm.trans h0_) (by decide)⟩
            refine steps_cons ?_ ?_
            · rintro b a w' ⟨v117, v120, v124, m21_, m22_, m24_, ha, Q_BK114, Q_HB, Q_HO118, Q_HO121, Q_HO125, Q_X21_, Q_X22_, Q_X24_⟩ hb_ hon hoff
              refine ⟨_, rfl, fun K hK => ?_⟩
              have e41 : a.tmps[41]? = some (m22_) := by rw [ha]; exact putSel_on (e := (22, 41, m22_)) 15 rfl rfl (hon 22 (by kernel_rfl)) rfl
              rw [Q_X22_ (hon 22 (by kernel_rfl))] at e41
              replace ha := Aside0.mk ha
              have BK114 := Aside0.mk Q_BK114
              have HB := Aside0.mk Q_HB
              have HO118 := Aside0.mk (Q_HO118 (hon 19 (by kernel_rfl)))
              have HO121 := Aside0.mk (Q_HO121 (hon 20 (by kernel_rfl)))
              have HO125 := Aside0.mk (Q_HO125 (hon 21 (by kernel_rfl)))
              refine value_ (w1 := w') (v := v124) (by rfl) rfl ?_ ?_
              · go_simp
                (try simp only [i64_w])
                try rfl
              refine hK.out _ _ ⟨v117, v120, v124, m21_, m22_, (v124), (by rw [ha.out]; exact putSel_upk 17 hb_ rfl rfl rfl), Q_BK114, Q_HB, Q_HO118, Q_HO121, Q_HO125, Q_X21_, Q_X22_, fun _ => rfl⟩
            refine steps_cons ?_ ?_
            · rintro b a w' ⟨v117, v120, v124, m21_, m22_, m24_, ha, Q_BK114, Q_HB, Q_HO118, Q_HO121, Q_HO125, Q_X21_, Q_X22_, Q_X24_⟩ hb_ hon hoff
              refine ⟨_, rfl, fun K hK => ?_⟩
              have e42 : a.tmps[42]? = some (.int .i64 t123) := by rw [ha]; exact putSel_on (e := (23, 42, .int .i64 t123)) 16 rfl rfl (hon 23 (by kernel_rfl)) rfl
              replace ha := Aside0.mk ha
              have BK114 := Aside0.mk Q_BK114
              have HB := Aside0.mk Q_HB
              have HO118 := Aside0.mk (Q_HO118 (hon 19 (by kernel_rfl)))
              have HO121 := Aside0.mk (Q_HO121 (hon 20 (by kernel_rfl)))
              have HO125 := Aside0.mk (Q_HO125 (hon 21 (by kernel_rfl)))
              refine value_ (w1 := w') (v := .int .i64 t123) (by rfl) rfl ?_ ?_
              · go_simp
                (try simp only [i64_w])
                try rfl
              refine hK.out _ _ ⟨v117, v120, v124, m21_, m22_, m24_, (by rw [ha.out]; exact putSel_upk 18 hb_ rfl rfl rfl), Q_BK114, Q_HB, Q_HO118, Q_HO121, Q_HO125, Q_X21_, Q_X22_, Q_X24_⟩
            exact steps_nil
          rintro b a w21 hall ⟨v117, v120, v124, m21_, m22_, m24_, ha, Q_BK114, Q_HB, Q_HO118, Q_HO121, Q_HO125, Q_X21_, Q_X22_, Q_X24_⟩
          clear BK114 HB
          have hb1_ := hall 1 (by kernel_rfl)
          have hb2_ := hall 2 (by kernel_rfl)
          have hb4_ := hall 4 (by kernel_rfl)
          have hb5_ := hall 5 (by kernel_rfl)
          have hb7_ := hall 7 (by kernel_rfl)
          have hb8_ := hall 8 (by kernel_rfl)
          have hb10_ := hall 10 (by kernel_rfl)
          have hb11_ := hall 11 (by kernel_rfl)
          have hb13_ := hall 13 (by kernel_rfl)
          have hb14_ := hall 14 (by kernel_rfl)
          have hb16_ := hall 16 (by kernel_rfl)
          have hb17_ := hall 17 (by kernel_rfl)
          have hb19_ := hall 19 (by kernel_rfl)
          have hb20_ := hall 20 (by kernel_rfl)
          have hb21_ := hall 21 (by kernel_rfl)
          have hb22_ := hall 22 (by kernel_rfl)
          have hb23_ := hall 23 (by kernel_rfl)
          have hb24_ := hall 24 (by kernel_rfl)
          have hb25_ := hall 25 (by kernel_rfl)
          subst ha
          obtain rfl := (Q_X21_ hb21_).symm
          obtain rfl := (Q_X22_ hb22_).symm
          obtain rfl := (Q_X24_ hb24_).symm
          simp only [putSel, hb1_, hb2_, hb4_, hb5_, hb7_, hb8_, hb10_, hb11_, hb13_, hb14_, hb16_, hb17_, hb19_, hb20_, hb21_, hb22_, hb23_, hb24_, hb25_, if_true, Act.put, List.setIfInBounds_toArray, List.set_cons_zero, List.set_cons_succ]
          have BK114 := Aside0.mk Q_BK114
          clear Q_BK114
          have HB := Aside0.mk Q_HB
          clear Q_HB
          have HO118 := Aside0.mk (Q_HO118 hb19_)
          clear Q_HO118
          have HO121 := Aside0.mk (Q_HO121 hb20_)
          clear Q_HO121
          have HO125 := Aside0.mk (Q_HO125 hb21_)
          clear Q_HO125
          clear hall hb1_ hb2_ hb4_ hb5_ hb7_ hb8_ hb10_ hb11_ hb13_ hb14_ hb16_ hb17_ hb19_ hb20_ hb21_ hb22_ hb23_ hb24_ hb25_
          try go_wp2
          go_ret2
          exact ⟨_, by first | rfl | (simp [errW_none, errW_some] <;> rfl) | (simp [*, errW_none, errW_some] <;> rfl), by (with_reducible repeat (first | apply Kd.R_alloc | apply Kd.R_drewN | apply Kd.R_drew)); exact HO125.out, by repeat (first | (with_reducible first | exact HB.out | apply below_alloc | apply pw_below_drewN | apply below_drew1 | refine below_set ?_ GE114.out) | exact HB.out)⟩
        · replace c10 := Bool.eq_false_iff.mpr c10
          subst c10
          have H1 : ((rec_sizes.f).bind fun t129 => ((num_Write.f (([1, IntKind.u64.wrap (a0_0), IntKind.u64.wrap (a0_1), IntKind.u64.wrap (a0_2), IntKind.u64.wrap (a0_3), IntKind.u64.wrap (a0_4), IntKind.u64.wrap (a0_5), x5_3] : List Int)) t129).bind fun bt132 => (some (bt132.1, bt132.2)))) = some (r1, r2) := by rw [if_neg (show ¬ (false = true) by decide)] at H; exact H
          clear H
          have H := H1
          clear H1
          obtain ⟨y126, hy126⟩ : ∃ y_ : List Int, y_ = (([1, IntKind.u64.wrap (a0_0), IntKind.u64.wrap (a0_1), IntKind.u64.wrap (a0_2), IntKind.u64.wrap (a0_3), IntKind.u64.wrap (a0_4), IntKind.u64.wrap (a0_5), x5_3] : List Int)) := ⟨_, rfl⟩
          replace H : ((rec_sizes.f).bind fun t129 => ((num_Write.f y126 t129).bind fun bt132 => (some (bt132.1, bt132.2)))) = some (r1, r2) := by first | (rw [hy126]; with_reducible exact H) | (have H2_ := (Option.bind_some _ _).symm.trans H; rw [hy126]; with_reducible exact H2_) | (have H2_ := (Option.bind_some _ _).symm.trans H; with_reducible exact H2_) | with_reducible exact H | (rw [hy126]; exact H) | exact H
          have Ny126 := Aside0.mk hy126
          clear hy126
          replace H := Option.bind_eq_some_iff.mp H
          obtain ⟨t129, A220, H⟩ := H
          replace H : ((num_Write.f y126 t129).bind fun bt132 => (some (bt132.1, bt132.2))) = some (r1, r2) := H
          have A22 := Aside0.mk A220
          clear A220
          replace H := Option.bind_eq_some_iff.mp H
          obtain ⟨⟨t132, t133⟩, A230, H⟩ := H
          replace H : (some (t132, t133)) = some (r1, r2) := H
          have A23 := Aside0.mk A230
          clear A230
          simp only [Option.some.injEq, Prod.mk.injEq] at H
          obtain ⟨rfl, rfl⟩ := H
          obtain ⟨hcz24_0, hcz24_1, hcz24_2, hcz24_3, hcz24_4, hcz24_5, hcz24_6, hcz24_7, hfz24_0, hfz24_1, hfz24_2, hfz24_3, hfz24_4, hfz24_5, hfz24_6, hfz24_7⟩ := blkc8 BK114.out
          try go_wp2
          have n0_ := Aside0.mk (blk_drew BK114.out)
          have n1_ := Aside0.mk (below_drew1 HB.out)
          clear BK114
          clear HB
          have BK114 := n0_
          have HB := n1_
          clear n0_ n1_
          refine start_ (n := 26) (S := fun w' => True) (ds := []) #[false, false, false, false, false, false, false, false, false, false, false, false, false, false, false, false, false, false, false, false, false, false, false, false, false, false] (by kernel_rfl) rfl rfl trivial (fun hHeld => ?_); refine with_tabW rec_Note.tab9 rec_Note.bits9 (fun HT_ HW_ => ?_)
          generalize wc.drew = w25 at BK114 HB hHeld ⊢
          refine pure_ (i := 0) (N := some 19) (v := ?_) (a' := ?_) #[true, false, false, false, false, false, false, false, false, false, false, false, false, false, false, false, false, false, false, false, false, false, false, false, false, false] rfl rfl (any_of HT_.out (by kernel_rfl)) (fun _ _ _ h => h) (Or.inl ⟨by rfl, ?_⟩) ?_ ?_
          rotate_left
          · intro w'
            go_simp
            with_reducible rfl
          rotate_left
          · simp only [Act.put, List.setIfInBounds_toArray, List.set_cons_zero, List.set_cons_succ, i64_w, i32_w]
            rfl
          refine pure_ (i := 3) (N := some 22) (v := ?_) (a' := ?_) #[true, false, false, true, false, false, false, false, false, false, false, false, false, false, false, false, false, false, false, false, false, false, false, false, false, false] rfl rfl (any_of HT_.out (by kernel_rfl)) (fun _ _ _ h => h) (Or.inl ⟨by rfl, ?_⟩) ?_ ?_
          rotate_left
          · intro w'
            go_simp
            with_reducible rfl
          rotate_left
          · simp only [Act.put, List.setIfInBounds_toArray, List.set_cons_zero, List.set_cons_succ, i64_w, i32_w]
            rfl
          refine pure_ (i := 6) (N := some 25) (v := ?_) (a' := ?_) #[true, false, false, true, false, false, true, false, false, false, false, false, false, false, false, false, false, false, false, false, false, false, false, false, false, false] rfl rfl (any_of HT_.out (by kernel_rfl)) (fun _ _ _ h => h) (Or.inl ⟨by rfl, ?_⟩) ?_ ?_
          rotate_left
          · intro w'
            go_simp
            with_reducible rfl
          rotate_left
          · simp only [Act.put, List.setIfInBounds_toArray, List.set_cons_zero, List.set_cons_succ, i64_w, i32_w]
            rfl
          refine pure_ (i := 9) (N := some 28) (v := ?_) (a' := ?_) #[true, false, false, true, false, false, true, false, false, true, false, false, false, false, false, false, false, false, false, false, false, false, false, false, false, false] rfl rfl (any_of HT_.out (by kernel_rfl)) (fun _ _ _ h => h) (Or.inl ⟨by rfl, ?_⟩) ?_ ?_
          rotate_left
          · intro w'
            go_simp
            with_reducible rfl
          rotate_left
          · simp only [Act.put, List.setIfInBounds_toArray, List.set_cons_zero, List.set_cons_succ, i64_w, i32_w]
            rfl
          refine pure_ (i := 12) (N := some 31) (v := ?_) (a' := ?_) #[true, false, false, true, false, false, true, false, false, true, false, false, true, false, false, false, false, false, false, false, false, false, false, false, false, false] rfl rfl (any_of HT_.out (by kernel_rfl)) (fun _ _ _ h => h) (Or.inl ⟨by rfl, ?_⟩) ?_ ?_
          rotate_left
          · intro w'
            go_simp
            with_reducible rfl
          rotate_left
          · simp only [Act.put, List.setIfInBounds_toArray, List.set_cons_zero, List.set_cons_succ, i64_w, i32_w]
            rfl
          refine pure_ (i := 15) (N := some 34) (v := ?_) (a' := ?_) #[true, false, false, true, false, false, true, false, false, true, false, false, true, false, false, true, false, false, false, false, false, false, false, false, false, false] rfl rfl (any_of HT_.out (by kernel_rfl)) (fun _ _ _ h => h) (Or.inl ⟨by rfl, ?_⟩) ?_ ?_
          rotate_left
          · intro w'
            go_simp
            with_reducible rfl
          rotate_left
          · simp only [Act.put, List.setIfInBounds_toArray, List.set_cons_zero, List.set_cons_succ, i64_w, i32_w]
            rfl
          refine pure_ (i := 18) (N := some 37) (v := ?_) (a' := ?_) #[true, false, false, true, false, false, true, false, false, true, false, false, true, false, false, true, false, false, true, false, false, false, false, false, false, false] rfl rfl (any_of HT_.out (by kernel_rfl)) (fun _ _ _ h => h) (Or.inl ⟨by rfl, ?_⟩) ?_ ?_
          rotate_left
          · intro w'
            go_simp
            with_reducible rfl
          rotate_left
          · simp only [Act.put, List.setIfInBounds_toArray, List.set_cons_zero, List.set_cons_succ, i64_w, i32_w]
            rfl
          refine inv_at [1, 2, 4, 5, 7, 8, 10, 11, 13, 14, 16, 17, 19, 20, 21, 22, 23, 24, 25] (fun a0_ b a w' => ∃ (v127 : Value) (v130 : Value) (v134 : Value) (m21_ : Value) (m22_ : Value) (m24_ : Value), a = putSel a0_ b [(1, 20, .int .i64 a0_0), (2, 21, .int .u64 (IntKind.u64.wrap (a0_0))), (4, 23, .int .u32 a0_1), (5, 24, .int .u64 (IntKind.u64.wrap (a0_1))), (7, 26, .int .u32 a0_2), (8, 27, .int .u64 (IntKind.u64.wrap (a0_2))), (10, 29, .int .i64 a0_3), (11, 30, .int .u64 (IntKind.u64.wrap (a0_3))), (13, 32, .int .u8 a0_4), (14, 33, .int .u64 (IntKind.u64.wrap (a0_4))), (16, 35, .int .i64 a0_5), (17, 36, .int .u64 (IntKind.u64.wrap (a0_5))), (19, 38, v127), (20, 39, v130), (21, 40, m21_), (22, 41, m22_), (23, 42, .int .i64 t133), (24, 2, m24_), (25, 3, .int .i64 t133)] ∧ (w'.heap[gb114]? = some (.cells #[.int .i64 a0_0, .int .u32 a0_1, .int .u32 a0_2, .int .i64 a0_3, .int .u8 a0_4, .int .i64 a0_5, .bool a0_6, .bool false] 24 (0, 0))) ∧ (Below w.heap.size w w') ∧ (b 19 = true → Kd.R (Kd.int .u64) 36 w' w.heap.size (fun _ => True) v127 y126) ∧ (b 20 = true → Kd.R (Kd.int .i64) 3 w' w.heap.size (fun _ => True) v130 t129) ∧ (b 21 = true → Kd.R (Kd.int .u8) 5 w' w.heap.size (fun _ => True) v134 t132) ∧ (b 21 = true → (m21_ : Value) = .tuple #[v134, .int .i64 t133]) ∧ (b 22 = true → (m22_ : Value) = v134) ∧ (b 24 = true → (m24_ : Value) = v134)) HT_.out HW_.out (by kernel_rfl) (by kernel_rfl) ?_ ?_ ?_
          · exact ⟨.bool false, .bool false, .bool false, .bool false, .bool false, .bool false, by simp only [putSel, Bool.false_eq_true, if_false], BK114.out, HB.out, fun h_ => absurd h_ (by decide), fun h_ => absurd h_ (by decide), fun h_ => absurd h_ (by decide), fun h_ => absurd h_ (by decide), fun h_ => absurd h_ (by decide), fun h_ => absurd h_ (by decide)⟩
          · skip
            clear BK114 HB
            refine steps_cons ?_ ?_
            · rintro b a w' ⟨v127, v130, v134, m21_, m22_, m24_, ha, Q_BK114, Q_HB, Q_HO128, Q_HO131, Q_HO135, Q_X21_, Q_X22_, Q_X24_⟩ hb_ hon hoff
              refine ⟨_, rfl, fun K hK => ?_⟩
              have e19 : a.tmps[19]? = some (.pointer (some ⟨gb114, 0, none⟩)) := by rw [ha]; exact (putSel_off rfl).trans rfl
              replace ha := Aside0.mk ha
              have BK114 := Aside0.mk Q_BK114
              have HB := Aside0.mk Q_HB
              have hc0_ : w'.cell? ⟨gb114, 0, none⟩ = some (.int .i64 a0_0) := (blk_cell BK114.out 0).trans rfl
              have hc1_ : w'.cell? ⟨gb114, 1, none⟩ = some (.int .u32 a0_1) := (blk_cell BK114.out 1).trans rfl
              have hc2_ : w'.cell? ⟨gb114, 2, none⟩ = some (.int .u32 a0_2) := (blk_cell BK114.out 2).trans rfl
              have hc3_ : w'.cell? ⟨gb114, 3, none⟩ = some (.int .i64 a0_3) := (blk_cell BK114.out 3).trans rfl
              have hc4_ : w'.cell? ⟨gb114, 4, none⟩ = some (.int .u8 a0_4) := (blk_cell BK114.out 4).trans rfl
              have hc5_ : w'.cell? ⟨gb114, 5, none⟩ = some (.int .i64 a0_5) := (blk_cell BK114.out 5).trans rfl
              have hc6_ : w'.cell? ⟨gb114, 6, none⟩ = some (.bool a0_6) := (blk_cell BK114.out 6).trans rfl
              have hc7_ : w'.cell? ⟨gb114, 7, none⟩ = some (.bool false) := (blk_cell BK114.out 7).trans rfl
              refine value_ (w1 := w') (v := .int .i64 a0_0) (by rfl) rfl ?_ ?_
              · go_simp
                (try simp only [i64_w])
                try rfl
              refine hK.out _ _ ⟨v127, v130, v134, m21_, m22_, m24_, (by rw [ha.out]; exact putSel_upk 0 hb_ rfl rfl rfl), Q_BK114, Q_HB, fun h0_ => absurd ((hoff 19 (by kernel_rfl)).symm.trans h0_) (by decide), Q_HO131, fun h0_ => absurd ((hoff 21 (by kernel_rfl)).symm.trans h0_) (by decide), fun h0_ => absurd ((hoff 21 (by kernel_rfl)).symm.trans h0_) (by decide), fun h0_ => absurd ((hoff 22 (by kernel_rfl)).symm.trans h0_) (by decide), fun h0_ => absurd ((hoff 24 (by kernel_rfl)).symm.trans h0_) (by decide)⟩
            refine steps_cons ?_ ?_
            · rintro b a w' ⟨v127, v130, v134, m21_, m22_, m24_, ha, Q_BK114, Q_HB, Q_HO128, Q_HO131, Q_HO135, Q_X21_, Q_X22_, Q_X24_⟩ hb_ hon hoff
              refine ⟨_, rfl, fun K hK => ?_⟩
              have e20 : a.tmps[20]? = some (.int .i64 a0_0) := by rw [ha]; exact putSel_on (e := (1, 20, .int .i64 a0_0)) 0 rfl rfl (hon 1 (by kernel_rfl)) rfl
              replace ha := Aside0.mk ha
              have BK114 := Aside0.mk Q_BK114
              have HB := Aside0.mk Q_HB
              refine value_ (w1 := w') (v := .int .u64 (IntKind.u64.wrap (a0_0))) (by rfl) rfl ?_ ?_
              · go_simp
                (try simp only [i64_w])
                try rfl
              refine hK.out _ _ ⟨v127, v130, v134, m21_, m22_, m24_, (by rw [ha.out]; exact putSel_upk 1 hb_ rfl rfl rfl), Q_BK114, Q_HB, fun h0_ => absurd ((hoff 19 (by kernel_rfl)).symm.trans h0_) (by decide), Q_HO131, fun h0_ => absurd ((hoff 21 (by kernel_rfl)).symm.trans h0_) (by decide), fun h0_ => absurd ((hoff 21 (by kernel_rfl)).symm.trans h0_) (by decide), fun h0_ => absurd ((hoff 22 (by kernel_rfl)).symm.trans h0_) (by decide), fun h0_ => absurd ((hoff 24 (by kernel_rfl)).symm.trans h0_) (by decide)⟩
            refine steps_cons ?_ ?_
            · rintro b a w' ⟨v127, v130, v134, m21_, m22_, m24_, ha, Q_BK114, Q_HB, Q_HO128, Q_HO131, Q_HO135, Q_X21_, Q_X22_, Q_X24_⟩ hb_ hon hoff
              refine ⟨_, rfl, fun K hK => ?_⟩
              have e22 : a.tmps[22]? = some (.pointer (some ⟨gb114, 1, none⟩)) := by rw [ha]; exact (putSel_off rfl).trans rfl
              replace ha := Aside0.mk ha
              have BK114 := Aside0.mk Q_BK114
              have HB := Aside0.mk Q_HB
              have hc0_ : w'.cell? ⟨gb114, 0, none⟩ = some (.int .i64 a0_0) := (blk_cell BK114.out 0).trans rfl
              have hc1_ : w'.cell? ⟨gb114, 1, none⟩ = some (.int .u32 a0_1) := (blk_cell BK114.out 1).trans rfl
              have hc2_ : w'.cell? ⟨gb114, 2, none⟩ = some (.int .u32 a0_2) := (blk_cell BK114.out 2).trans rfl
              have hc3_ : w'.cell? ⟨gb114, 3, none⟩ = some (.int .i64 a0_3) := (blk_cell BK114.out 3).trans rfl
              have hc4_ : w'.cell? ⟨gb114, 4, none⟩ = some (.int .u8 a0_4) := (blk_cell BK114.out 4).trans rfl
              have hc5_ : w'.cell? ⟨gb114, 5, none⟩ = some (.int .i64 a0_5) := (blk_cell BK114.out 5).trans rfl
              have hc6_ : w'.cell? ⟨gb114, 6, none⟩ = some (.bool a0_6) := (blk_cell BK114.out 6).trans rfl
              have hc7_ : w'.cell? ⟨gb114, 7, none⟩ = some (.bool false) := (blk_cell BK114.out 7).trans rfl
              refine value_ (w1 := w') (v := .int .u32 a0_1) (by rfl) rfl ?_ ?_
              · go_simp
                (try simp only [i64_w])
                try rfl
              refine hK.out _ _ ⟨v127, v130, v134, m21_, m22_, m24_, (by rw [ha.out]; exact putSel_upk 2 hb_ rfl rfl rfl), Q_BK114, Q_HB, fun h0_ => absurd ((hoff 19 (by kernel_rfl)).symm.trans h0_) (by decide), Q_HO131, fun h0_ => absurd ((hoff 21 (by kernel_rfl)).symm.trans h0_) (by decide), fun h0_ => absurd ((hoff 21 (by kernel_rfl)).symm.trans h0_) (by decide), fun h0_ => absurd ((hoff 22 (by kernel_rfl)).symm.trans h0_) (by decide), fun h0_ => absurd ((hoff 24 (by kernel_rfl)).symm.trans h0_) (by decide)⟩
            refine steps_cons ?_ ?_
            · rintro b a w' ⟨v127, v130, v134, m21_, m22_, m24_, ha, Q_BK114, Q_HB, Q_HO128, Q_HO131, Q_HO135, Q_X21_, Q_X22_, Q_X24_⟩ hb_ hon hoff
              refine ⟨_, rfl, fun K hK => ?_⟩
              have e23 : a.tmps[23]? = some (.int .u32 a0_1) := by rw [ha]; exact putSel_on (e := (4, 23, .int .u32 a0_1)) 2 rfl rfl (hon 4 (by kernel_rfl)) rfl
              replace ha := Aside0.mk ha
              have BK114 := Aside0.mk Q_BK114
              have HB := Aside0.mk Q_HB
              refine value_ (w1 := w') (v := .int .u64 (IntKind.u64.wrap (a0_1))) (by rfl) rfl ?_ ?_
              · go_simp
                (try simp only [i64_w])
                try rfl
              refine hK.out _ _ ⟨v127, v130, v134, m21_, m22_, m24_, (by rw [ha.out]; exact putSel_upk 3 hb_ rfl rfl rfl), Q_BK114, Q_HB, fun h0_ => absurd ((hoff 19 (by kernel_rfl)).symm.trans h0_) (by decide), Q_HO131, fun h0_ => absurd ((hoff 21 (by kernel_rfl)).symm.trans h0_) (by decide), fun h0_ => absurd ((hoff 21 (by kernel_rfl)).symm.trans h0_) (by decide), fun h0_ => absurd ((hoff 22 (by kernel_rfl)).symm.trans h0_) (by decide), fun h0_ => absurd ((hoff 24 (by kernel_rfl)).symm.trans h0_) (by decide)⟩
            refine steps_cons ?_ ?_
            · rintro b a w' ⟨v127, v130, v134, m21_, m22_, m24_, ha, Q_BK114, Q_HB, Q_HO128, Q_HO131, Q_HO135, Q_X21_, Q_X22_, Q_X24_⟩ hb_ hon hoff
              refine ⟨_, rfl, fun K hK => ?_⟩
              have e25 : a.tmps[25]? = some (.pointer (some ⟨gb114, 2, none⟩)) := by rw [ha]; exact (putSel_off rfl).trans rfl
              replace ha := Aside0.mk ha
              have BK114 := Aside0.mk Q_BK114
              have HB := Aside0.mk Q_HB
              have hc0_ : w'.cell? ⟨gb114, 0, none⟩ = some (.int .i64 a0_0) := (blk_cell BK114.out 0).trans rfl
              have hc1_ : w'.cell? ⟨gb114, 1, none⟩ = some (.int .u32 a0_1) := (blk_cell BK114.out 1).trans rfl
              have hc2_ : w'.cell? ⟨gb114, 2, none⟩ = some (.int .u32 a0_2) := (blk_cell BK114.out 2).trans rfl
              have hc3_ : w'.cell? ⟨gb114, 3, none⟩ = some (.int .i64 a0_3) := (blk_cell BK114.out 3).trans rfl
              have hc4_ : w'.cell? ⟨gb114, 4, none⟩ = some (.int .u8 a0_4) := (blk_cell BK114.out 4).trans rfl
              have hc5_ : w'.cell? ⟨gb114, 5, none⟩ = some (.int .i64 a0_5) := (blk_cell BK114.out 5).trans rfl
              have hc6_ : w'.cell? ⟨gb114, 6, none⟩ = some (.bool a0_6) := (blk_cell BK114.out 6).trans rfl
              have hc7_ : w'.cell? ⟨gb114, 7, none⟩ = some (.bool false) := (blk_cell BK114.out 7).trans rfl
              refine value_ (w1 := w') (v := .int .u32 a0_2) (by rfl) rfl ?_ ?_
              · go_simp
                (try simp only [i64_w])
                try rfl
              refine hK.out _ _ ⟨v127, v130, v134, m21_, m22_, m24_, (by rw [ha.out]; exact putSel_upk 4 hb_ rfl rfl rfl), Q_BK114, Q_HB, fun h0_ => absurd ((hoff 19 (by kernel_rfl)).symm.trans h0_) (by decide), Q_HO131, fun h0_ => absurd ((hoff 21 (by kernel_rfl)).symm.trans h0_) (by decide), fun h0_ => absurd ((hoff 21 (by kernel_rfl)).symm.trans h0_) (by decide), fun h0_ => absurd ((hoff 22 (by kernel_rfl)).symm.trans h0_) (by decide), fun h0_ => absurd ((hoff 24 (by kernel_rfl)).symm.trans h0_) (by decide)⟩
            refine steps_cons ?_ ?_
            · rintro b a w' ⟨v127, v130, v134, m21_, m22_, m24_, ha, Q_BK114, Q_HB, Q_HO128, Q_HO131, Q_HO135, Q_X21_, Q_X22_, Q_X24_⟩ hb_ hon hoff
              refine ⟨_, rfl, fun K hK => ?_⟩
              have e26 : a.tmps[26]? = some (.int .u32 a0_2) := by rw [ha]; exact putSel_on (e := (7, 26, .int .u32 a0_2)) 4 rfl rfl (hon 7 (by kernel_rfl)) rfl
              replace ha := Aside0.mk ha
              have BK114 := Aside0.mk Q_BK114
              have HB := Aside0.mk Q_HB
              refine value_ (w1 := w') (v := .int .u64 (IntKind.u64.wrap (a0_2))) (by rfl) rfl ?_ ?_
              · go_simp
                (try simp only [i64_w])
                try rfl
              refine hK.out _ _ ⟨v127, v130, v134, m21_, m22_, m24_, (by rw [ha.out]; exact putSel_upk 5 hb_ rfl rfl rfl), Q_BK114, Q_HB, fun h0_ => absurd ((hoff 19 (by kernel_rfl)).symm.trans h0_) (by decide), Q_HO131, fun h0_ => absurd ((hoff 21 (by kernel_rfl)).symm.trans h0_) (by decide), fun h0_ => absurd ((hoff 21 (by kernel_rfl)).symm.trans h0_) (by decide), fun h0_ => absurd ((hoff 22 (by kernel_rfl)).symm.trans h0_) (by decide), fun h0_ => absurd ((hoff 24 (by kernel_rfl)).symm.trans h0_) (by decide)⟩
            refine steps_cons ?_ ?_
            · rintro b a w' ⟨v127, v130, v134, m21_, m22_, m24_, ha, Q_BK114, Q_HB, Q_HO128, Q_HO131, Q_HO135, Q_X21_, Q_X22_, Q_X24_⟩ hb_ hon hoff
              refine ⟨_, rfl, fun K hK => ?_⟩
              have e28 : a.tmps[28]? = some (.pointer (some ⟨gb114, 3, none⟩)) := by rw [ha]; exact (putSel_off rfl).trans rfl
              replace ha := Aside0.mk ha
              have BK114 := Aside0.mk Q_BK114
              have HB := Aside0.mk Q_HB
              have hc0_ : w'.cell? ⟨gb114, 0, none⟩ = some (.int .i64 a0_0) := (blk_cell BK114.out 0).trans rfl
              have hc1_ : w'.cell? ⟨gb114, 1, none⟩ = some (.int .u32 a0_1) := (blk_cell BK114.out 1).trans rfl
              have hc2_ : w'.cell? ⟨gb114, 2, none⟩ = some (.int .u32 a0_2) := (blk_cell BK114.out 2).trans rfl
              have hc3_ : w'.cell? ⟨gb114, 3, none⟩ = some (.int .i64 a0_3) := (blk_cell BK114.out 3).trans rfl
              have hc4_ : w'.cell? ⟨gb114, 4, none⟩ = some (.int .u8 a0_4) := (blk_cell BK114.out 4).trans rfl
              have hc5_ : w'.cell? ⟨gb114, 5, none⟩ = some (.int .i64 a0_5) := (blk_cell BK114.out 5).trans rfl
              have hc6_ : w'.cell? ⟨gb114, 6, none⟩ = some (.bool a0_6) := (blk_cell BK114.out 6).trans rfl
              have hc7_ : w'.cell? ⟨gb114, 7, none⟩ = some (.bool false) := (blk_cell BK114.out 7).trans rfl
              refine value_ (w1 := w') (v := .int .i64 a0_3) (by rfl) rfl ?_ ?_
              · go_simp
                (try simp only [i64_w])
                try rfl
              refine hK.out _ _ ⟨v127, v130, v134, m21_, m22_, m24_, (by rw [ha.out]; exact putSel_upk 6 hb_ rfl rfl rfl), Q_BK114, Q_HB, fun h0_ => absurd ((hoff 19 (by kernel_rfl)).symm.trans h0_) (by decide), Q_HO131, fun h0_ => absurd ((hoff 21 (by kernel_rfl)).symm.trans h0_) (by decide), fun h0_ => absurd ((hoff 21 (by kernel_rfl)).symm.trans h0_) (by decide), fun h0_ => absurd ((hoff 22 (by kernel_rfl)).symm.trans h0_) (by decide), fun h0_ => absurd ((hoff 24 (by kernel_rfl)).symm.trans h0_) (by decide)⟩
            refine steps_cons ?_ ?_
            · rintro b a w' ⟨v127, v130, v134, m21_, m22_, m24_, ha, Q_BK114, Q_HB, Q_HO128, Q_HO131, Q_HO135, Q_X21_, Q_X22_, Q_X24_⟩ hb_ hon hoff
              refine ⟨_, rfl, fun K hK => ?_⟩
              have e29 : a.tmps[29]? = some (.int .i64 a0_3) := by rw [ha]; exact putSel_on (e := (10, 29, .int .i64 a0_3)) 6 rfl rfl (hon 10 (by kernel_rfl)) rfl
              replace ha := Aside0.mk ha
              have BK114 := Aside0.mk Q_BK114
              have HB := Aside0.mk Q_HB
              refine value_ (w1 := w') (v := .int .u64 (IntKind.u64.wrap (a0_3))) (by rfl) rfl ?_ ?_
              · go_simp
                (try simp only [i64_w])
                try rfl
              refine hK.out _ _ ⟨v127, v130, v134, m21_, m22_, m24_, (by rw [ha.out]; exact putSel_upk 7 hb_ rfl rfl rfl), Q_BK114, Q_HB, fun h0_ => absurd ((hoff 19 (by kernel_rfl)).symm.trans h0_) (by decide), Q_HO131, fun h0_ => absurd ((hoff 21 (by kernel_rfl)).symm.trans h0_) (by decide), fun h0_ => absurd ((hoff 21 (by kernel_rfl)).symm.trans h0_) (by decide), fun h0_ => absurd ((hoff 22 (by kernel_rfl)).symm.trans h0_) (by decide), fun h0_ => absurd ((hoff 24 (by kernel_rfl)).symm.trans h0_) (by decide)⟩
            refine steps_cons ?_ ?_
            · rintro b a w' ⟨v127, v130, v134, m21_, m22_, m24_, ha, Q_BK114, Q_HB, Q_HO128, Q_HO131, Q_HO135, Q_X21_, Q_X22_, Q_X24_⟩ hb_ hon hoff
              refine ⟨_, rfl, fun K hK => ?_⟩
              have e31 : a.tmps[31]? = some (.pointer (some ⟨gb114, 4, none⟩)) := by rw [ha]; exact (putSel_off rfl).trans rfl
              replace ha := Aside0.mk ha
              have BK114 := Aside0.mk Q_BK114
              have HB := Aside0.mk Q_HB
              have hc0_ : w'.cell? ⟨gb114, 0, none⟩ = some (.int .i64 a0_0) := (blk_cell BK114.out 0).trans rfl
              have hc1_ : w'.cell? ⟨gb114, 1, none⟩ = some (.int .u32 a0_1) := (blk_cell BK114.out 1).trans rfl
              have hc2_ : w'.cell? ⟨gb114, 2, none⟩ = some (.int .u32 a0_2) := (blk_cell BK114.out 2).trans rfl
              have hc3_ : w'.cell? ⟨gb114, 3, none⟩ = some (.int .i64 a0_3) := (blk_cell BK114.out 3).trans rfl
              have hc4_ : w'.cell? ⟨gb114, 4, none⟩ = some (.int .u8 a0_4) := (blk_cell BK114.out 4).trans rfl
              have hc5_ : w'.cell? ⟨gb114, 5, none⟩ = some (.int .i64 a0_5) := (blk_cell BK114.out 5).trans rfl
              have hc6_ : w'.cell? ⟨gb114, 6, none⟩ = some (.bool a0_6) := (blk_cell BK114.out 6).trans rfl
              have hc7_ : w'.cell? ⟨gb114, 7, none⟩ = some (.bool false) := (blk_cell BK114.out 7).trans rfl
              refine value_ (w1 := w') (v := .int .u8 a0_4) (by rfl) rfl ?_ ?_
              · go_simp
                (try simp only [i64_w])
                try rfl
              refine hK.out _ _ ⟨v127, v130, v134, m21_, m22_, m24_, (by rw [ha.out]; exact putSel_upk 8 hb_ rfl rfl rfl), Q_BK114, Q_HB, fun h0_ => absurd ((hoff 19 (by kernel_rfl)).symm.trans h0_) (by decide), Q_HO131, fun h0_ => absurd ((hoff 21 (by kernel_rfl)).symm.trans h0_) (by decide), fun h0_ => absurd ((hoff 21 (by kernel_rfl)).symm.trans h0_) (by decide), fun h0_ => absurd ((hoff 22 (by kernel_rfl)).symm.trans h0_) (by decide), fun h0_ => absurd ((hoff 24 (by kernel_rfl)).symm.trans h0_) (by decide)⟩
            refine steps_cons ?_ ?_
            · rintro b a w' ⟨v127, v130, v134, m21_, m22_, m24_, ha, Q_BK114, Q_HB, Q_HO128, Q_HO131, Q_HO135, Q_X21_, Q_X22_, Q_X24_⟩ hb_ hon hoff
              refine ⟨_, rfl, fun K hK => ?_⟩
              have e32 : a.tmps[32]? = some (.int .u8 a0_4) := by rw [ha]; exact putSel_on (e := (13, 32, .int .u8 a0_4)) 8 rfl rfl (hon 13 (by kernel_rfl)) rfl
              replace ha := Aside0.mk ha
              have BK114 := Aside0.mk Q_BK114
              have HB := Aside0.mk Q_HB
              refine value_ (w1 := w') (v := .int .u64 (IntKind.u64.wrap (a0_4))) (by rfl) rfl ?_ ?_
              · go_simp
                (try simp only [i64_w])
                try rfl
              refine hK.out _ _ ⟨v127, v130, v134, m21_, m22_, m24_, (by rw [ha.out]; exact putSel_upk 9 hb_ rfl rfl rfl), Q_BK114, Q_HB, fun h0_ => absurd ((hoff 19 (by kernel_rfl)).symm.trans h0_) (by decide), Q_HO131, fun h0_ => absurd ((hoff 21 (by kernel_rfl)).symm.trans h0_) (by decide), fun h0_ => absurd ((hoff 21 (by kernel_rfl)).symm.trans h0_) (by decide), fun h0_ => absurd ((hoff 22 (by kernel_rfl)).symm.trans h0_) (by decide), fun h0_ => absurd ((hoff 24 (by kernel_rfl)).symm.trans h0_) (by decide)⟩
            refine steps_cons ?_ ?_
            · rintro b a w' ⟨v127, v130, v134, m21_, m22_, m24_, ha, Q_BK114, Q_HB, Q_HO128, Q_HO131, Q_HO135, Q_X21_, Q_X22_, Q_X24_⟩ hb_ hon hoff
              refine ⟨_, rfl, fun K hK => ?_⟩
              have e34 : a.tmps[34]? = some (.pointer (some ⟨gb114, 5, none⟩)) := by rw [ha]; exact (putSel_off rfl).trans rfl
              replace ha := Aside0.mk ha
              have BK114 := Aside0.mk Q_BK114
              have HB := Aside0.mk Q_HB
              have hc0_ : w'.cell? ⟨gb114, 0, none⟩ = some (.int .i64 a0_0) := (blk_cell BK114.out 0).trans rfl
              have hc1_ : w'.cell? ⟨gb114, 1, none⟩ = some (.int .u32 a0_1) := (blk_cell BK114.out 1).trans rfl
              have hc2_ : w'.cell? ⟨gb114, 2, none⟩ = some (.int .u32 a0_2) := (blk_cell BK114.out 2).trans rfl
              have hc3_ : w'.cell? ⟨gb114, 3, none⟩ = some (.int .i64 a0_3) := (blk_cell BK114.out 3).trans rfl
              have hc4_ : w'.cell? ⟨gb114, 4, none⟩ = some (.int .u8 a0_4) := (blk_cell BK114.out 4).trans rfl
              have hc5_ : w'.cell? ⟨gb114, 5, none⟩ = some (.int .i64 a0_5) := (blk_cell BK114.out 5).trans rfl
              have hc6_ : w'.cell? ⟨gb114, 6, none⟩ = some (.bool a0_6) := (blk_cell BK114.out 6).trans rfl
              have hc7_ : w'.cell? ⟨gb114, 7, none⟩ = some (.bool false) := (blk_cell BK114.out 7).trans rfl
              refine value_ (w1 := w') (v := .int .i64 a0_5) (by rfl) rfl ?_ ?_
              · go_simp
                (try simp only [i64_w])
                try rfl
              refine hK.out _ _ ⟨v127, v130, v134, m21_, m22_, m24_, (by rw [ha.out]; exact putSel_upk 10 hb_ rfl rfl rfl), Q_BK114, Q_HB, fun h0_ => absurd ((hoff 19 (by kernel_rfl)).symm.trans h0_) (by decide), Q_HO131, fun h0_ => absurd ((hoff 21 (by kernel_rfl)).symm.trans h0_) (by decide), fun h0_ => absurd ((hoff 21 (by kernel_rfl)).symm.trans h0_) (by decide), fun h0_ => absurd ((hoff 22 (by kernel_rfl)).symm.trans h0_) (by decide), fun h0_ => absurd ((hoff 24 (by kernel_rfl)).symm.trans h0_) (by decide)⟩
            refine steps_cons ?_ ?_
            · rintro b a w' ⟨v127, v130, v134, m21_, m22_, m24_, ha, Q_BK114, Q_HB, Q_HO128, Q_HO131, Q_HO135, Q_X21_, Q_X22_, Q_X24_⟩ hb_ hon hoff
              refine ⟨_, rfl, fun K hK => ?_⟩
              have e35 : a.tmps[35]? = some (.int .i64 a0_5) := by rw [ha]; exact putSel_on (e := (16, 35, .int .i64 a0_5)) 10 rfl rfl (hon 16 (by kernel_rfl)) rfl
              replace ha := Aside0.mk ha
              have BK114 := Aside0.mk Q_BK114
              have HB := Aside0.mk Q_HB
              refine value_ (w1 := w') (v := .int .u64 (IntKind.u64.wrap (a0_5))) (by rfl) rfl ?_ ?_
              · go_simp
                (try simp only [i64_w])
                try rfl
              refine hK.out _ _ ⟨v127, v130, v134, m21_, m22_, m24_, (by rw [ha.out]; exact putSel_upk 11 hb_ rfl rfl rfl), Q_BK114, Q_HB, fun h0_ => absurd ((hoff 19 (by kernel_rfl)).symm.trans h0_) (by decide), Q_HO131, fun h0_ => absurd ((hoff 21 (by kernel_rfl)).symm.trans h0_) (by decide), fun h0_ => absurd ((hoff 21 (by kernel_rfl)).symm.trans h0_) (by decide), fun h0_ => absurd ((hoff 22 (by kernel_rfl)).symm.trans h0_) (by decide), fun h0_ => absurd ((hoff 24 (by kernel_rfl)).symm.trans h0_) (by decide)⟩
            refine steps_cons ?_ ?_
            · rintro b a w' ⟨v127, v130, v134, m21_, m22_, m24_, ha, Q_BK114, Q_HB, Q_HO128, Q_HO131, Q_HO135, Q_X21_, Q_X22_, Q_X24_⟩ hb_ hon hoff
              refine ⟨_, rfl, fun K hK => ?_⟩
              have e21 : a.tmps[21]? = some (.int .u64 (IntKind.u64.wrap (a0_0))) := by rw [ha]; exact putSel_on (e := (2, 21, .int .u64 (IntKind.u64.wrap (a0_0)))) 1 rfl rfl (hon 2 (by kernel_rfl)) rfl
              have e24 : a.tmps[24]? = some (.int .u64 (IntKind.u64.wrap (a0_1))) := by rw [ha]; exact putSel_on (e := (5, 24, .int .u64 (IntKind.u64.wrap (a0_1)))) 3 rfl rfl (hon 5 (by kernel_rfl)) rfl
              have e27 : a.tmps[27]? = some (.int .u64 (IntKind.u64.wrap (a0_2))) := by rw [ha]; exact putSel_on (e := (8, 27, .int .u64 (IntKind.u64.wrap (a0_2)))) 5 rfl rfl (hon 8 (by kernel_rfl)) rfl
              have e30 : a.tmps[30]? = some (.int .u64 (IntKind.u64.wrap (a0_3))) := by rw [ha]; exact putSel_on (e := (11, 30, .int .u64 (IntKind.u64.wrap (a0_3)))) 7 rfl rfl (hon 11 (by kernel_rfl)) rfl
              have e33 : a.tmps[33]? = some (.int .u64 (IntKind.u64.wrap (a0_4))) := by rw [ha]; exact putSel_on (e := (14, 33, .int .u64 (IntKind.u64.wrap (a0_4)))) 9 rfl rfl (hon 14 (by kernel_rfl)) rfl
              have e36 : a.tmps[36]? = some (.int .u64 (IntKind.u64.wrap (a0_5))) := by rw [ha]; exact putSel_on (e := (17, 36, .int .u64 (IntKind.u64.wrap (a0_5)))) 11 rfl rfl (hon 17 (by kernel_rfl)) rfl
              have e37 : a.tmps[37]? = some (.int .u64 x5_3) := by rw [ha]; exact (putSel_off rfl).trans rfl
              replace ha := Aside0.mk ha
              have BK114 := Aside0.mk Q_BK114
              have HB := Aside0.mk Q_HB
              refine Kd.R_lit_step (Kd.int .u64) _ 36 ?hg (N := 38) ?hd (xs := ([1, IntKind.u64.wrap (a0_0), IntKind.u64.wrap (a0_1), IntKind.u64.wrap (a0_2), IntKind.u64.wrap (a0_3), IntKind.u64.wrap (a0_4), IntKind.u64.wrap (a0_5), x5_3] : List Int)) (inner := [.int .u64 1, .int .u64 (IntKind.u64.wrap (a0_0)), .int .u64 (IntKind.u64.wrap (a0_1)), .int .u64 (IntKind.u64.wrap (a0_2)), .int .u64 (IntKind.u64.wrap (a0_3)), .int .u64 (IntKind.u64.wrap (a0_4)), .int .u64 (IntKind.u64.wrap (a0_5)), .int .u64 x5_3]) (ok := fun _ => True) (okp := fun _ => True) ?hr ?hp (fun _ hk => hk) trivial (Below.refl _ _) (Nat.le_refl _) (by simp) ?_; (case hd => rfl); (case hg => rfl); (case hr => first | (go_simp; done) | (go_simp; rfl)); (case hp => exact (Reps.one (show Kd.M (Kd.int .u64) _ _ _ 1 [.int .u64 1] from rfl) (Reps.one (show Kd.M (Kd.int .u64) _ _ _ (IntKind.u64.wrap (a0_0)) [.int .u64 (IntKind.u64.wrap (a0_0))] from rfl) (Reps.one (show Kd.M (Kd.int .u64) _ _ _ (IntKind.u64.wrap (a0_1)) [.int .u64 (IntKind.u64.wrap (a0_1))] from rfl) (Reps.one (show Kd.M (Kd.int .u64) _ _ _ (IntKind.u64.wrap (a0_2)) [.int .u64 (IntKind.u64.wrap (a0_2))] from rfl) (Reps.one (show Kd.M (Kd.int .u64) _ _ _ (IntKind.u64.wrap (a0_3)) [.int .u64 (IntKind.u64.wrap (a0_3))] from rfl) (Reps.one (show Kd.M (Kd.int .u64) _ _ _ (IntKind.u64.wrap (a0_4)) [.int .u64 (IntKind.u64.wrap (a0_4))] from rfl) (Reps.one (show Kd.M (Kd.int .u64) _ _ _ (IntKind.u64.wrap (a0_5)) [.int .u64 (IntKind.u64.wrap (a0_5))] from rfl) (Reps.one (show Kd.M (Kd.int .u64) _ _ _ x5_3 [.int .u64 x5_3] from rfl) (Reps.none _ _))))))))))
              intro v127 w26 ho27 hb hg_ hnew_
              clear hg_ hnew_
              (first | rw [← Ny126.out] at ho27 | (simp only [Int.reduceToNat] at ho27; rw [← Ny126.out] at ho27))
              have n0_ := Aside0.mk (Kd.R_lower ho27 (below_size (by repeat (first | (with_reducible first | exact HB.out | apply below_alloc | apply pw_below_drewN | apply below_drew1 | refine below_set ?_ GE114.out) | exact HB.out))))
              have n1_ := Aside0.mk (blk_below (g := gb114) (o := .cells #[.int .i64 a0_0, .int .u32 a0_1, .int .u32 a0_2, .int .i64 a0_3, .int .u8 a0_4, .int .i64 a0_5, .bool a0_6, .bool false] 24 (0, 0)) (by (with_reducible repeat (first | refine blk_drewN ?_ _ | refine blk_drew ?_ | refine blk_alloc ?_ _)); exact BK114.out) hb)
              have n2_ := Aside0.mk (below_step (by repeat (first | (with_reducible first | exact HB.out | apply below_alloc | apply pw_below_drewN | apply below_drew1 | refine below_set ?_ GE114.out) | exact HB.out)) hb)
              have z_HO131 := fun (h0_ : b 20 = true) => (show Kd.R (Kd.int .i64) 3 w26 w.heap.size (fun _ => True) v130 t129 from by first | exact (Kd.R_below (by (with_reducible repeat (first | apply Kd.R_alloc | apply Kd.R_drewN | apply Kd.R_drew)); exact (Q_HO131 h0_)) hb) | exact Kd.R_mono (Kd.R_below (by (with_reducible repeat (first | apply Kd.R_alloc | apply Kd.R_drewN | apply Kd.R_drew)); exact (Q_HO131 h0_)) hb) (fun _ h_ => by first | trivial | exact h_ | exact h_.1))
              clear BK114
              clear HB
              have HO128 := n0_
              have BK114 := n1_
              have HB := n2_
              clear n0_ n1_ n2_
              clear hb ho27
              refine hK.out _ _ ⟨v127, v130, v134, m21_, m22_, m24_, (by rw [ha.out]; exact putSel_upk 12 hb_ rfl rfl rfl), (by (with_reducible repeat (first | refine blk_drewN ?_ _ | refine blk_drew ?_ | refine blk_alloc ?_ _)); exact BK114.out), (by repeat (first | (with_reducible first | exact HB.out | apply below_alloc | apply pw_below_drewN | apply below_drew1 | refine below_set ?_ GE114.out) | exact HB.out)), fun _ => (by (with_reducible repeat (first | apply Kd.R_alloc | apply Kd.R_drewN | apply Kd.R_drew)); exact HO128.out), z_HO131, fun h0_ => absurd ((hoff 21 (by kernel_rfl)).symm.trans h0_) (by decide), fun h0_ => absurd ((hoff 21 (by kernel_rfl)).symm.trans h0_) (by decide), fun h0_ => absurd ((hoff 22 (by kernel_rfl)).symm.trans h0_) (by decide), fun h0_ => absurd ((hoff 24 (by kernel_rfl)).symm.trans h0_) (by decide)⟩
            refine steps_cons ?_ ?_
            · rintro b a w' ⟨v127, v130, v134, m21_, m22_, m24_, ha, Q_BK114, Q_HB, Q_HO128, Q_HO131, Q_HO135, Q_X21_, Q_X22_, Q_X24_⟩ hb_ hon hoff
              refine ⟨_, rfl, fun K hK => ?_⟩
              replace ha := Aside0.mk ha
              have BK114 := Aside0.mk Q_BK114
              have HB := Aside0.mk Q_HB
              refine goes_ Try.func11 (by kernel_rfl) rfl #[] (by rfl) rfl rfl (by first | (simp only [List.map_toArray, List.map_cons, List.map_nil, Act.eval, Array.getD_eq_getD_getElem?, Option.getD_some]; done) | (simp only [List.map_toArray, List.map_cons, List.map_nil, Act.eval, Array.getD_eq_getD_getElem?, Option.getD_some]; rfl)) ?_
              with_reducible refine (rec_sizes.calls  t129 _ A22.out).mono ?_
              rintro e w26 ⟨v130, rfl, ho0, hb⟩
              refine ⟨_, rfl, ?_⟩
              have n0_ := Aside0.mk (Kd.R_lower ho0 (below_size (by repeat (first | (with_reducible first | exact HB.out | apply below_alloc | apply pw_below_drewN | apply below_drew1 | refine below_set ?_ GE114.out) | exact HB.out))))
              have n1_ := Aside0.mk (blk_below (g := gb114) (o := .cells #[.int .i64 a0_0, .int .u32 a0_1, .int .u32 a0_2, .int .i64 a0_3, .int .u8 a0_4, .int .i64 a0_5, .bool a0_6, .bool false] 24 (0, 0)) (by (with_reducible repeat (first | refine blk_drewN ?_ _ | refine blk_drew ?_ | refine blk_alloc ?_ _)); exact BK114.out) hb)
              have n2_ := Aside0.mk (below_step (by repeat (first | (with_reducible first | exact HB.out | apply below_alloc | apply pw_below_drewN | apply below_drew1 | refine below_set ?_ GE114.out) | exact HB.out)) hb)
              have z_HO128 := fun (h0_ : b 19 = true) => (show Kd.R (Kd.int .u64) 36 w26 w.heap.size (fun _ => True) v127 y126 from by first | exact (Kd.R_below (by (with_reducible repeat (first | apply Kd.R_alloc | apply Kd.R_drewN | apply Kd.R_drew)); exact (Q_HO128 h0_)) hb) | exact Kd.R_mono (Kd.R_below (by (with_reducible repeat (first | apply Kd.R_alloc | apply Kd.R_drewN | apply Kd.R_drew)); exact (Q_HO128 h0_)) hb) (fun _ h_ => by first | trivial | exact h_ | exact h_.1))
              clear BK114
              clear HB
              have HO131 := n0_
              have BK114 := n1_
              have HB := n2_
              clear n0_ n1_ n2_
              (try clear hb)
              (try clear hb2)
              (try clear hk)
              (try clear hi)
              (try clear ho0)
              refine hK.out _ _ ⟨v127, v130, v134, m21_, m22_, m24_, (by rw [ha.out]; exact putSel_upk 13 hb_ rfl rfl rfl), (by (with_reducible repeat (first | refine blk_drewN ?_ _ | refine blk_drew ?_ | refine blk_alloc ?_ _)); exact BK114.out), (by repeat (first | (with_reducible first | exact HB.out | apply below_alloc | apply pw_below_drewN | apply below_drew1 | refine below_set ?_ GE114.out) | exact HB.out)), z_HO128, fun _ => (by (with_reducible repeat (first | apply Kd.R_alloc | apply Kd.R_drewN | apply Kd.R_drew)); exact HO131.out), fun h0_ => absurd ((hoff 21 (by kernel_rfl)).symm.trans h0_) (by decide), fun h0_ => absurd ((hoff 21 (by kernel_rfl)).symm.trans h0_) (by decide), fun h0_ => absurd ((hoff 22 (by kernel_rfl)).symm.trans h0_) (by decide), fun h0_ => absurd ((hoff 24 (by kernel_rfl)).symm.trans h0_) (by decide)⟩
            refine steps_cons ?_ ?_
            · rintro b a w' ⟨v127, v130, v134, m21_, m22_, m24_, ha, Q_BK114, Q_HB, Q_HO128, Q_HO131, Q_HO135, Q_X21_, Q_X22_, Q_X24_⟩ hb_ hon hoff
              refine ⟨_, rfl, fun K hK => ?_⟩
              have e38 : a.tmps[38]? = some (v127) := by rw [ha]; exact putSel_on (e := (19, 38, v127)) 12 rfl rfl (hon 19 (by kernel_rfl)) rfl
              have e39 : a.tmps[39]? = some (v130) := by rw [ha]; exact putSel_on (e := (20, 39, v130)) 13 rfl rfl (hon 20 (by kernel_rfl)) rfl
              replace ha := Aside0.mk ha
              have BK114 := Aside0.mk Q_BK114
              have HB := Aside0.mk Q_HB
              have HO128 := Aside0.mk (Q_HO128 (hon 19 (by kernel_rfl)))
              have HO131 := Aside0.mk (Q_HO131 (hon 20 (by kernel_rfl)))
              obtain ⟨Ao30, co30, eo30⟩ := Kd.R_slice HO128.out
              (first | subst eo30 | (injection eo30 with f1_ f2_ f3_; have f4_ := f1_.symm; have f5_ := f3_.symm; clear f1_ f2_ f3_; subst f4_; subst f5_))
              obtain ⟨Ao31, co31, eo31⟩ := Kd.R_slice HO131.out
              (first | subst eo31 | (injection eo31 with f1_ f2_ f3_; have f4_ := f1_.symm; have f5_ := f3_.symm; clear f1_ f2_ f3_; subst f4_; subst f5_))
              refine goes_ Try.func10 (by kernel_rfl) rfl #[.slice Ao30 y126.length co30, .slice Ao31 t129.length co31] (by rfl) rfl rfl (by first | (simp only [List.map_toArray, List.map_cons, List.map_nil, Act.eval, Array.getD_eq_getD_getElem?, Option.getD_some, e38, e39]; done) | (simp only [List.map_toArray, List.map_cons, List.map_nil, Act.eval, Array.getD_eq_getD_getElem?, Option.getD_some, e38, e39]; rfl)) ?_
              with_reducible refine (num_Write.calls _ _ y126 _ _ t129 t132 t133 _ ?side1 ?side2 ?side3 ?side4 A23.out).mono ?_
              (case side1 => repeat (first | exact (Kd.R_reads' HO128.out).2.2 | (with_reducible refine Kd.C_alloc ?_ _) | (with_reducible refine Kd.C_drewN ?_ _) | (with_reducible refine Kd.C_drew ?_)))
              (case side2 => exact (Kd.R_reads' HO128.out).2.1)
              (case side3 => repeat (first | exact (Kd.R_reads' HO131.out).2.2 | (with_reducible refine Kd.C_alloc ?_ _) | (with_reducible refine Kd.C_drewN ?_ _) | (with_reducible refine Kd.C_drew ?_)))
              (case side4 => exact (Kd.R_reads' HO131.out).2.1)
              rintro e w32 ⟨v134, rfl, ho0, hb⟩
              refine ⟨_, rfl, ?_⟩
              have n0_ := Aside0.mk (Kd.R_below (by (with_reducible repeat (first | apply Kd.R_alloc | apply Kd.R_drewN | apply Kd.R_drew)); exact HO128.out) hb)
              have n1_ := Aside0.mk (Kd.R_below (by (with_reducible repeat (first | apply Kd.R_alloc | apply Kd.R_drewN | apply Kd.R_drew)); exact HO131.out) hb)
              have n2_ := Aside0.mk (Kd.R_lower ho0 (below_size (by repeat (first | (with_reducible first | exact HB.out | apply below_alloc | apply pw_below_drewN | apply below_drew1 | refine below_set ?_ GE114.out) | exact HB.out))))
              have n3_ := Aside0.mk (blk_below (g := gb114) (o := .cells #[.int .i64 a0_0, .int .u32 a0_1, .int .u32 a0_2, .int .i64 a0_3, .int .u8 a0_4, .int .i64 a0_5, .bool a0_6, .bool false] 24 (0, 0)) (by (with_reducible repeat (first | refine blk_drewN ?_ _ | refine blk_drew ?_ | refine blk_alloc ?_ _)); exact BK114.out) hb)
              have n4_ := Aside0.mk (below_step (by repeat (first | (with_reducible first | exact HB.out | apply below_alloc | apply pw_below_drewN | apply below_drew1 | refine below_set ?_ GE114.out) | exact HB.out)) hb)
              clear HO128
              clear HO131
              clear BK114
              clear HB
              have HO128 := n0_
              have HO131 := n1_
              have HO135 := n2_
              have BK114 := n3_
              have HB := n4_
              clear n0_ n1_ n2_ n3_ n4_
              (try clear hb)
              (try clear hb2)
              (try clear hk)
              (try clear hi)
              (try clear ho0)
              refine hK.out _ _ ⟨.slice Ao30 y126.length co30, .slice Ao31 t129.length co31, v134, (.tuple #[v134, .int .i64 t133]), m22_, m24_, (by rw [ha.out]; exact putSel_upk 14 hb_ rfl rfl rfl), (by (with_reducible repeat (first | refine blk_drewN ?_ _ | refine blk_drew ?_ | refine blk_alloc ?_ _)); exact BK114.out), (by repeat (first | (with_reducible first | exact HB.out | apply below_alloc | apply pw_below_drewN | apply below_drew1 | refine below_set ?_ GE114.out) | exact HB.out)), fun _ => (by (with_reducible repeat (first | apply Kd.R_alloc | apply Kd.R_drewN | apply Kd.R_drew)); exact HO128.out), fun _ => (by (with_reducible repeat (first | apply Kd.R_alloc | apply Kd.R_drewN | apply Kd.R_drew)); exact HO131.out), fun _ => (by (with_reducible repeat (first | apply Kd.R_alloc | apply Kd.R_drewN | apply Kd.R_drew)); exact HO135.out), fun _ => rfl, fun h0_ => absurd ((hoff 22 (by kernel_rfl)).symm.trans h0_) (by decide), fun h0_ => absurd ((hoff 24 (by kernel_rfl)).symm.trans h0_) (by decide)⟩
            refine steps_cons ?_ ?_
            · rintro b a w' ⟨v127, v130, v134, m21_, m22_, m24_, ha, Q_BK114, Q_HB, Q_HO128, Q_HO131, Q_HO135, Q_X21_, Q_X22_, Q_X24_⟩ hb_ hon hoff
              refine ⟨_, rfl, fun K hK => ?_⟩
              have e40 : a.tmps[40]? = some (m21_) := by rw [ha]; exact putSel_on (e := (21, 40, m21_)) 14 rfl rfl (hon 21 (by kernel_rfl)) rfl
              rw [Q_X21_ (hon 21 (by kernel_rfl))] at e40
              replace ha := Aside0.mk ha
              have BK114 := Aside0.mk Q_BK114
              have HB := Aside0.mk Q_HB
              have HO128 := Aside0.mk (Q_HO128 (hon 19 (by kernel_rfl)))
              have HO131 := Aside0.mk (Q_HO131 (hon 20 (by kernel_rfl)))
              have HO135 := Aside0.mk (Q_HO135 (hon 21 (by kernel_rfl)))
              obtain ⟨Ao22_0, co22_0, eo_⟩ := Kd.R_slice HO135.out
              subst eo_
              refine value_ (w1 := w') (v := .slice Ao22_0 t132.length co22_0) (by rfl) rfl ?_ ?_
              · go_simp
                (try simp only [i64_w])
                try rfl
              refine hK.out _ _ ⟨v127, v130, .slice Ao22_0 t132.length co22_0, m21_, (.slice Ao22_0 t132.length co22_0), m24_, (by rw [ha.out]; exact putSel_upk 15 hb_ rfl rfl rfl), Q_BK114, Q_HB, Q_HO128, Q_HO131, Q_HO135, Q_X21_, fun _ => rfl, fun h0_ => absurd ((hoff 24 (by kernel_rfl)).symm.trans h0_) (by decide)⟩
            refine steps_cons ?_ ?_
            · rintro b a w' ⟨v127, v130, v134, m21_, m22_, m24_, ha, Q_BK114, Q_HB, Q_HO128, Q_HO131, Q_HO135, Q_X21_, Q_X22_, Q_X24_⟩ hb_ hon hoff
              refine ⟨_, rfl, fun K hK => ?_⟩
              have e40 : a.tmps[40]? = some (m21_) := by rw [ha]; exact putSel_on (e := (21, 40, m21_)) 14 rfl rfl (hon 21 (by kernel_rfl)) rfl
              rw [Q_X21_ (hon 21 (by kernel_rfl))] at e40
              replace ha := Aside0.mk ha
              have BK114 := Aside0.mk Q_BK114
              have HB := Aside0.mk Q_HB
              have HO128 := Aside0.mk (Q_HO128 (hon 19 (by kernel_rfl)))
              have HO131 := Aside0.mk (Q_HO131 (hon 20 (by kernel_rfl)))
              have HO135 := Aside0.mk (Q_HO135 (hon 21 (by kernel_rfl)))
              obtain ⟨Ao23_0, co23_0, eo_⟩ := Kd.R_slice HO135.out
              subst eo_
              refine value_ (w1 := w') (v := .int .i64 t133) (by rfl) rfl ?_ ?_
              · go_simp
                (try simp only [i64_w])
                try rfl
              refine hK.out _ _ ⟨v127, v130, .slice Ao23_0 t132.length co23_0, m21_, m22_, m24_, (by rw [ha.out]; exact putSel_upk 16 hb_ rfl rfl rfl), Q_BK114, Q_HB, Q_HO128, Q_HO131, Q_HO135, Q_X21_, Q_X22_, fun h0_ => absurd ((hoff 24 (by kernel_rfl)).symm.trans h0_) (by decide)⟩
            refine steps_cons ?_ ?_
            · rintro b a w' ⟨v127, v130, v134, m21_, m22_, m24_, ha, Q_BK114, Q_HB, Q_HO128, Q_HO131, Q_HO135, Q_X21_, Q_X22_, Q_X24_⟩ hb_ hon hoff
              refine ⟨_, rfl, fun K hK => ?_⟩
              have e41 : a.tmps[41]? = some (m22_) := by rw [ha]; exact putSel_on (e := (22, 41, m22_)) 15 rfl rfl (hon 22 (by kernel_rfl)) rfl
              rw [Q_X22_ (hon 22 (by kernel_rfl))] at e41
              replace ha := Aside0.mk ha
              have BK114 := Aside0.mk Q_BK114
              have HB := Aside0.mk Q_HB
              have HO128 := Aside0.mk (Q_HO128 (hon 19 (by kernel_rfl)))
              have HO131 := Aside0.mk (Q_HO131 (hon 20 (by kernel_rfl)))
              have HO135 := Aside0.mk (Q_HO135 (hon 21 (by kernel_rfl)))
              refine value_ (w1 := w') (v := v134) (by rfl) rfl ?_ ?_
              · go_simp
                (try simp only [i64_w])
                try rfl
              refine hK.out _ _ ⟨v127, v130, v134, m21_, m22_, (v134), (by rw [ha.out]; exact putSel_upk 17 hb_ rfl rfl rfl), Q_BK114, Q_HB, Q_HO128, Q_HO131, Q_HO135, Q_X21_, Q_X22_, fun _ => rfl⟩
            refine steps_cons ?_ ?_
            · rintro b a w' ⟨v127, v130, v134, m21_, m22_, m24_, ha, Q_BK114, Q_HB, Q_HO128, Q_HO131, Q_HO135, Q_X21_, Q_X22_, Q_X24_⟩ hb_ hon hoff
              refine ⟨_, rfl, fun K hK => ?_⟩
              have e42 : a.tmps[42]? = some (.int .i64 t133) := by rw [ha]; exact putSel_on (e := (23, 42, .int .i64 t133)) 16 rfl rfl (hon 23 (by kernel_rfl)) rfl
              replace ha := Aside0.mk ha
              have BK114 := Aside0.mk Q_BK114
              have HB := Aside0.mk Q_HB
              have HO128 := Aside0.mk (Q_HO128 (hon 19 (by kernel_rfl)))
              have HO131 := Aside0.mk (Q_HO131 (hon 20 (by kernel_rfl)))
              have HO135 := Aside0.mk (Q_HO135 (hon 21 (by kernel_rfl)))
              refine value_ (w1 := w') (v := .int .i64 t133) (by rfl) rfl ?_ ?_
              · go_simp
                (try simp only [i64_w])
                try rfl
              refine hK.out _ _ ⟨v127, v130, v134, m21_, m22_, m24_, (by rw [ha.out]; exact putSel_upk 18 hb_ rfl rfl rfl), Q_BK114, Q_HB, Q_HO128, Q_HO131, Q_HO135, Q_X21_, Q_X22_, Q_X24_⟩
            exact steps_nil
          rintro b a w32 hall ⟨v127, v130, v134, m21_, m22_, m24_, ha, Q_BK114, Q_HB, Q_HO128, Q_HO131, Q_HO135, Q_X21_, Q_X22_, Q_X24_⟩
          clear BK114 HB
          have hb1_ := hall 1 (by kernel_rfl)
          have hb2_ := hall 2 (by kernel_rfl)
          have hb4_ := hall 4 (by kernel_rfl)
          have hb5_ := hall 5 (by kernel_rfl)
          have hb7_ := hall 7 (by kernel_rfl)
          have hb8_ := hall 8 (by kernel_rfl)
          have hb10_ := hall 10 (by kernel_rfl)
          have hb11_ := hall 11 (by kernel_rfl)
          have hb13_ := hall 13 (by kernel_rfl)
          have hb14_ := hall 14 (by kernel_rfl)
          have hb16_ := hall 16 (by kernel_rfl)
          have hb17_ := hall 17 (by kernel_rfl)
          have hb19_ := hall 19 (by kernel_rfl)
          have hb20_ := hall 20 (by kernel_rfl)
          have hb21_ := hall 21 (by kernel_rfl)
          have hb22_ := hall 22 (by kernel_rfl)
          have hb23_ := hall 23 (by kernel_rfl)
          have hb24_ := hall 24 (by kernel_rfl)
          have hb25_ := hall 25 (by kernel_rfl)
          subst ha
          obtain rfl := (Q_X21_ hb21_).symm
          obtain rfl := (Q_X22_ hb22_).symm
          obtain rfl := (Q_X24_ hb24_).symm
          simp only [putSel, hb1_, hb2_, hb4_, hb5_, hb7_, hb8_, hb10_, hb11_, hb13_, hb14_, hb16_, hb17_, hb19_, hb20_, hb21_, hb22_, hb23_, hb24_, hb25_, if_true, Act.put, List.setIfInBounds_toArray, List.set_cons_zero, List.set_cons_succ]
          have BK114 := Aside0.mk Q_BK114
          clear Q_BK114
          have HB := Aside0.mk Q_HB
          clear Q_HB
          have HO128 := Aside0.mk (Q_HO128 hb19_)
          clear Q_HO128
          have HO131 := Aside0.mk (Q_HO131 hb20_)
          clear Q_HO131
          have HO135 := Aside0.mk (Q_HO135 hb21_)
          clear Q_HO135
          clear hall hb1_ hb2_ hb4_ hb5_ hb7_ hb8_ hb10_ hb11_ hb13_ hb14_ hb16_ hb17_ hb19_ hb20_ hb21_ hb22_ hb23_ hb24_ hb25_
          try go_wp2
          go_ret2
          exact ⟨_, by first | rfl | (simp [errW_none, errW_some] <;> rfl) | (simp [*, errW_none, errW_some] <;> rfl), by (with_reducible repeat (first | apply Kd.R_alloc | apply Kd.R_drewN | apply Kd.R_drew)); exact HO135.out, by repeat (first | (with_reducible first | exact HB.out | apply below_alloc | apply pw_below_drewN | apply below_drew1 | refine below_set ?_ GE114.out) | exact HB.out)⟩
  · rw [if_neg c3] at H
    have c3b0 : (t115 == 0) = false := beq_eq_false_iff_ne.mpr c3
    have c3b1 : (t115 != 0) = true := bne_iff_ne.mpr c3
    simp only [Option.some.injEq, Prod.mk.injEq] at H
    obtain ⟨rfl, rfl⟩ := H
    go_enter Try.func4, Try.ntmps4
    go_wp2_with (first | ((with_reducible refine gate_dst (N := 1) rfl ?_); refine box_event ?hg (N := 1) ?hd (cs := #[.int .i64 a0_0, .int .u32 a0_1, .int .u32 a0_2, .int .i64 a0_3, .int .u8 a0_4, .int .i64 a0_5, .bool a0_6, .bool a0_7]) (t := 24) ?hr ?_; (case hd => rfl); (case hg => rfl); (case hr => first | (go_simp; done) | (go_simp; rfl)); intro gb114 hg w33 hbox hb; have n0_ := Aside0.mk (below_step (by repeat (first | (with_reducible first | exact HB.out | apply below_alloc | apply pw_below_drewN | apply below_drew1) | exact HB.out)) hb); have n1_ := Aside0.mk (hbox); have n2_ := Aside0.mk ((by rw [hg]; exact (below_size (by repeat (first | (with_reducible first | exact HB.out | apply below_alloc | apply pw_below_drewN | apply below_drew1) | exact HB.out))) : w.heap.size ≤ gb114)); have n3_ := Aside0.mk ((by rw [hg]; exact (below_size (by repeat (first | (with_reducible first | exact HB.out | apply below_alloc | apply pw_below_drewN | apply below_drew1) | exact HB.out))) : w.heap.size ≤ gb114)); clear HB; have HB := n0_; have BK114 := n1_; have GW114 := n2_; have GE114 := n3_; clear n0_ n1_ n2_ n3_; clear hb hbox hg; obtain ⟨hcz34_0, hcz34_1, hcz34_2, hcz34_3, hcz34_4, hcz34_5, hcz34_6, hcz34_7, hfz34_0, hfz34_1, hfz34_2, hfz34_3, hfz34_4, hfz34_5, hfz34_6, hfz34_7⟩ := blkc8 BK114.out) | ((with_reducible refine gate_callee (f := 8) rfl ?_); refine goesL_ (some 7) rfl rfl Try.func8 (by kernel_rfl) rfl #[.agg #[.int .i64 a0_0, .int .u32 a0_1, .int .u32 a0_2, .int .i64 a0_3, .int .u8 a0_4, .int .i64 a0_5, .bool a0_6, .bool a0_7]] rfl (by (try simp only [List.map_toArray, List.map_cons, List.map_nil]); first | done | rfl | (simp only [List.length_drop, List.length_take]; rfl)) ?_; (with_reducible refine (rec_Check.calls k a0_0 a0_1 a0_2 a0_3 a0_4 a0_5 a0_6 a0_7 t115 _ A2.out).mono ?_); rintro e w35 ⟨rfl, hb⟩; refine ⟨_, rfl, ?_⟩; have n0_ := Aside0.mk (blk_below (g := gb114) (o := .cells #[.int .i64 a0_0, .int .u32 a0_1, .int .u32 a0_2, .int .i64 a0_3, .int .u8 a0_4, .int .i64 a0_5, .bool a0_6, .bool a0_7] 24 (0, 0)) (by (with_reducible repeat (first | refine blk_drewN ?_ _ | refine blk_drew ?_ | refine blk_alloc ?_ _)); exact BK114.out) hb); have n1_ := Aside0.mk (below_step (by repeat (first | (with_reducible first | exact HB.out | apply below_alloc | apply pw_below_drewN | apply below_drew1 | refine below_set ?_ GE114.out) | exact HB.out)) hb); clear BK114; clear HB; have BK114 := n0_; have HB := n1_; clear n0_ n1_; (try clear hb); (try clear hb2); (try clear hk); (try clear hi)))
    go_ret2
    exact ⟨_, by first | rfl | (simp [errW_none, errW_some] <;> rfl) | (simp [*, errW_none, errW_some] <;> rfl), by first | exact Kd.R_nil _ _ _ _ _ | exact Kd.N_nil _ _ _ _ _ | exact Kd.V_nil _ _ _ _ _ | exact Kd.Q_nil _ _ _ _ _ | exact Kd.S_nil _ _ _ _ _, by repeat (first | (with_reducible first | exact HB.out | apply below_alloc | apply pw_below_drewN | apply below_drew1 | refine below_set ?_ GE114.out) | exact HB.out)⟩

end Go.Proofs.Ytoklgobjbelmjaa.PRn
