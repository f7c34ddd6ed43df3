-- written by wip/myprint.py out of the translation
import Derived.Test.YtammdlgpelljmaaPPlx0
import Derived.Test.YtammdlgpelljmaaPPlx1
import Derived.Test.YtammdlgpelljmaaPPlx2
import Derived.Test.YtammdlgpelljmaaPPlx4
namespace Go.Proofs.Ytammdlgpelljmaa.PPl
open Go.RowKit Go.Proofs.YtammdlgpelljmaaW.PrintWords Go.Proofs.YtammdlgpelljmaaW.PrintLast Go.Proofs.YtammdlgpelljmaaW.PrintMore
attribute [local go_sem] max2_int min2_int max_two min_two max_three min_three max_four min_four   -- for this text's walks alone
set_option linter.unusedVariables false
set_option linter.unusedSimpArgs false

/-! ### catamaranlaw07_PlaceOne: function 5 -/
mutual
def catamaranlaw07_PlaceOne.j0 : Nat → Int → Bool → Int → Int → Int → Bool → Int → Int → Int → Int → Int → Int → Option (Bool)
  | 0, _, _, _, _, _, _, _, _, _, _, _, _ => none
  | k + 1, x1, x5, x6, x7, x8, x32, x244000, x244001, x244002, x244003, x244004, x244005 => if x32 = true then (some x5) else ((place_Sectors.f x244000 x244001 x244002 x244003 x244004 x244005).bind fun bt249 => (if bt249.2 = 0 then (if x1 < 0 then (catamaranlaw07_PlaceOne.j1 k x1 x5 x6 x7 x8 true x244000 x244001 x244002 x244003 x244004 x244005) else (catamaranlaw07_PlaceOne.j1 k x1 x5 x6 x7 x8 (decide (x1 ≥ bt249.1)) x244000 x244001 x244002 x244003 x244004 x244005)) else (catamaranlaw07_PlaceOne.j1 k x1 x5 x6 x7 x8 true x244000 x244001 x244002 x244003 x244004 x244005)))
def catamaranlaw07_PlaceOne.j1 : Nat → Int → Bool → Int → Int → Int → Bool → Int → Int → Int → Int → Int → Int → Option (Bool)
  | 0, _, _, _, _, _, _, _, _, _, _, _, _ => none
  | k + 1, x1, x5, x6, x7, x8, x49, x244000, x244001, x244002, x244003, x244004, x244005 => if x49 = true then (some false) else (if x6 = 1 then (if x5 = true then (if x1 < 2 then (if x7 = 0 then (some (x8 == 0)) else (some false)) else (some false)) else (some false)) else (if x6 = 2 then ((place_Area.f x244000 x244001 x244002 x244003 x244004 x244005 x7 x8).bind fun bt251 => (if x5 = true then (if bt251.2 = 0 then (some (bt251.1 == x1)) else (some false)) else (some false))) else (if x6 = 3 then ((place_Page.f x244000 x244001 x244002 x244003 x244004 x244005 x7 x8).bind fun bt253 => (if x5 = true then (if bt253.2 = 0 then (some (bt253.1 == x1)) else (some false)) else (some false))) else (if x6 = 4 then ((place_Track.f x244000 x244001 x244002 x244003 x244004 x244005 x7 x8).bind fun bt255 => (if x5 = true then (if bt255.2 = 0 then (if x1 ≥ bt255.1 then (some (decide (x1 < (wrap64 (bt255.1 + 4))))) else (some false)) else (some false)) else (some false))) else (some false)))))
end
def catamaranlaw07_PlaceOne.f (k : Nat) (a0_0 : Int) (a0_1 : Int) (a0_2 : Int) (a0_3 : Int) (a0_4 : Int) (a0_5 : Int) (a1 : Int) : Option (Bool) := (catamaranlaw07_alive.f).bind fun t244 => ((place_What.f a0_0 a0_1 a0_2 a0_3 a0_4 a0_5 a1).bind fun bt245 => (if bt245.2.2.2 = 0 then (catamaranlaw07_PlaceOne.j0 k a1 t244 bt245.1 bt245.2.1 bt245.2.2.1 (!t244) a0_0 a0_1 a0_2 a0_3 a0_4 a0_5) else (catamaranlaw07_PlaceOne.j0 k a1 t244 bt245.1 bt245.2.1 bt245.2.2.1 true a0_0 a0_1 a0_2 a0_3 a0_4 a0_5)))
theorem catamaranlaw07_PlaceOne.mono_l : ∀ k, (∀ y0 y1 y2 y3 y4 y5 y6 y7 y8 y9 y10 y11, LeO (catamaranlaw07_PlaceOne.j0 k y0 y1 y2 y3 y4 y5 y6 y7 y8 y9 y10 y11) (catamaranlaw07_PlaceOne.j0 (k + 1) y0 y1 y2 y3 y4 y5 y6 y7 y8 y9 y10 y11)) ∧ (∀ y0 y1 y2 y3 y4 y5 y6 y7 y8 y9 y10 y11, LeO (catamaranlaw07_PlaceOne.j1 k y0 y1 y2 y3 y4 y5 y6 y7 y8 y9 y10 y11) (catamaranlaw07_PlaceOne.j1 (k + 1) y0 y1 y2 y3 y4 y5 y6 y7 y8 y9 y10 y11))
  | 0 => ⟨fun _ _ _ _ _ _ _ _ _ _ _ _ r h => by simp [catamaranlaw07_PlaceOne.j0] at h, fun _ _ _ _ _ _ _ _ _ _ _ _ r h => by simp [catamaranlaw07_PlaceOne.j1] at h⟩
  | k + 1 => by
    obtain ⟨ih0, ih1⟩ := catamaranlaw07_PlaceOne.mono_l k
    refine ⟨?_, ?_⟩
    · intro y0 y1 y2 y3 y4 y5 y6 y7 y8 y9 y10 y11
      unfold catamaranlaw07_PlaceOne.j0
      repeat' first
      | (with_reducible exact ih0 _ _ _ _ _ _ _ _ _ _ _ _)
      | (with_reducible exact ih1 _ _ _ _ _ _ _ _ _ _ _ _)
      | (with_reducible exact LeO.refl _)
      | (with_reducible exact LeO.none _)
      | (with_reducible refine LeO.ite ?_ ?_)
      | (with_reducible refine LeO.bind ?_ (fun _ => ?_))
      | exact ih0 _ _ _ _ _ _ _ _ _ _ _ _
      | exact ih1 _ _ _ _ _ _ _ _ _ _ _ _
      | exact LeO.none _
      | refine LeO.ite ?_ ?_
      | refine LeO.bind ?_ (fun _ => ?_)
    · intro y0 y1 y2 y3 y4 y5 y6 y7 y8 y9 y10 y11
      unfold catamaranlaw07_PlaceOne.j1
      repeat' first
      | (with_reducible exact ih0 _ _ _ _ _ _ _ _ _ _ _ _)
      | (with_reducible exact ih1 _ _ _ _ _ _ _ _ _ _ _ _)
      | (with_reducible exact LeO.refl _)
      | (with_reducible exact LeO.none _)
      | (with_reducible refine LeO.ite ?_ ?_)
      | (with_reducible refine LeO.bind ?_ (fun _ => ?_))
      | exact ih0 _ _ _ _ _ _ _ _ _ _ _ _
      | exact ih1 _ _ _ _ _ _ _ _ _ _ _ _
      | exact LeO.none _
      | refine LeO.ite ?_ ?_
      | refine LeO.bind ?_ (fun _ => ?_)
theorem catamaranlaw07_PlaceOne.mono : ∀ a0 a1 a2 a3 a4 a5 a6 k, LeO (catamaranlaw07_PlaceOne.f k a0 a1 a2 a3 a4 a5 a6) (catamaranlaw07_PlaceOne.f (k + 1) a0 a1 a2 a3 a4 a5 a6) := by
  intro a0 a1 a2 a3 a4 a5 a6 k
  obtain ⟨ih0, ih1⟩ := catamaranlaw07_PlaceOne.mono_l k
  unfold catamaranlaw07_PlaceOne.f
  repeat' first
      | (with_reducible exact ih0 _ _ _ _ _ _ _ _ _ _ _ _)
      | (with_reducible exact ih1 _ _ _ _ _ _ _ _ _ _ _ _)
      | (with_reducible exact LeO.refl _)
      | (with_reducible exact LeO.none _)
      | (with_reducible refine LeO.ite ?_ ?_)
      | (with_reducible refine LeO.bind ?_ (fun _ => ?_))
      | exact ih0 _ _ _ _ _ _ _ _ _ _ _ _
      | exact ih1 _ _ _ _ _ _ _ _ _ _ _ _
      | exact LeO.none _
      | refine LeO.ite ?_ ?_
      | refine LeO.bind ?_ (fun _ => ?_)
set_option maxHeartbeats 8000000 in
set_option maxRecDepth 100000 in
theorem catamaranlaw07_PlaceOne.calls (k : Nat) (a0_0 : Int) (a0_1 : Int) (a0_2 : Int) (a0_3 : Int) (a0_4 : Int) (a0_5 : Int) (a1 : Int) (r : Bool) (w : World) (h : catamaranlaw07_PlaceOne.f k a0_0 a0_1 a0_2 a0_3 a0_4 a0_5 a1 = some r) (hT_ : Aside0 (r = true)) :
    Calls Try.prog 5 #[.agg #[.int .i64 a0_0, .int .i64 a0_1, .int .i64 a0_2, .int .i64 a0_3, .int .i64 a0_4, .int .i64 a0_5], .int .i64 a1] w fun e w' => e = .returned (.bool r) ∧ Below w.heap.size w w' := by
  have hu23 := Try.underlying23
  have HB := Aside0.mk (Below.refl w.heap.size w)
  have H : ((catamaranlaw07_alive.f).bind fun t244 => ((place_What.f a0_0 a0_1 a0_2 a0_3 a0_4 a0_5 a1).bind fun bt245 => (if bt245.2.2.2 = 0 then (catamaranlaw07_PlaceOne.j0 k a1 t244 bt245.1 bt245.2.1 bt245.2.2.1 (!t244) a0_0 a0_1 a0_2 a0_3 a0_4 a0_5) else (catamaranlaw07_PlaceOne.j0 k a1 t244 bt245.1 bt245.2.1 bt245.2.2.1 true a0_0 a0_1 a0_2 a0_3 a0_4 a0_5)))) = some r := h
  clear h
  replace H := Option.bind_eq_some_iff.mp H
  obtain ⟨t244, A30, H⟩ := H
  replace H : ((place_What.f a0_0 a0_1 a0_2 a0_3 a0_4 a0_5 a1).bind fun bt245 => (if bt245.2.2.2 = 0 then (catamaranlaw07_PlaceOne.j0 k a1 t244 bt245.1 bt245.2.1 bt245.2.2.1 (!t244) a0_0 a0_1 a0_2 a0_3 a0_4 a0_5) else (catamaranlaw07_PlaceOne.j0 k a1 t244 bt245.1 bt245.2.1 bt245.2.2.1 true a0_0 a0_1 a0_2 a0_3 a0_4 a0_5))) = some r := H
  have A3 := Aside0.mk A30
  clear A30
  replace H := Option.bind_eq_some_iff.mp H
  obtain ⟨⟨t245, t246, t247, t248⟩, A40, H⟩ := H
  replace H : (if t248 = 0 then (catamaranlaw07_PlaceOne.j0 k a1 t244 t245 t246 t247 (!t244) a0_0 a0_1 a0_2 a0_3 a0_4 a0_5) else (catamaranlaw07_PlaceOne.j0 k a1 t244 t245 t246 t247 true a0_0 a0_1 a0_2 a0_3 a0_4 a0_5)) = some r := H
  have A4 := Aside0.mk A40
  clear A40
  have HC5 := Aside0.mk H
  clear H
  go_enter Try.func5, Try.ntmps5
  go_upto_region 3 with (first | ((with_reducible refine gate_dst (N := 2) rfl ?_); refine box_event ?hg (N := 2) ?hd (cs := #[.int .i64 a0_0, .int .i64 a0_1, .int .i64 a0_2, .int .i64 a0_3, .int .i64 a0_4, .int .i64 a0_5]) (t := 23) ?hr ?_; (case hd => rfl); (case hg => rfl); (case hr => first | (go_simp; done) | (go_simp; rfl)); intro gb243 hg w6 hbox hb; have n0_ := Aside0.mk (below_step (by repeat (first | (with_reducible first | exact HB.out | apply below_alloc | apply pw_below_drewN | apply below_drew1) | exact HB.out)) hb); have n1_ := Aside0.mk (hbox); have n2_ := Aside0.mk ((by rw [hg]; exact (below_size (by repeat (first | (with_reducible first | exact HB.out | apply below_alloc | apply pw_below_drewN | apply below_drew1) | exact HB.out))) : w.heap.size ≤ gb243)); have n3_ := Aside0.mk ((by rw [hg]; exact (below_size (by repeat (first | (with_reducible first | exact HB.out | apply below_alloc | apply pw_below_drewN | apply below_drew1) | exact HB.out))) : w.heap.size ≤ gb243)); clear HB; have HB := n0_; have BK243 := n1_; have GW243 := n2_; have GE243 := n3_; clear n0_ n1_ n2_ n3_; clear hb hbox hg) | ((with_reducible refine gate_callee (f := 28) rfl ?_); refine goesL_ (some 18) rfl rfl Try.func28 (by kernel_rfl) rfl #[] rfl (by (try simp only [List.map_toArray, List.map_cons, List.map_nil]); first | done | rfl | (simp only [List.length_drop, List.length_take]; rfl)) ?_; (with_reducible refine (catamaranlaw07_alive.calls  t244 _ A3.out).mono ?_); rintro e w7 ⟨rfl, hb⟩; refine ⟨_, rfl, ?_⟩; have n0_ := Aside0.mk (blk_below (g := gb243) (o := .cells #[.int .i64 a0_0, .int .i64 a0_1, .int .i64 a0_2, .int .i64 a0_3, .int .i64 a0_4, .int .i64 a0_5] 23 (0, 0)) (by (with_reducible repeat (first | refine blk_drewN ?_ _ | refine blk_drew ?_ | refine blk_alloc ?_ _)); exact BK243.out) hb); have n1_ := Aside0.mk (below_step (by repeat (first | (with_reducible first | exact HB.out | apply below_alloc | apply pw_below_drewN | apply below_drew1 | refine below_set ?_ GE243.out) | exact HB.out)) hb); clear BK243; clear HB; have BK243 := n0_; have HB := n1_; clear n0_ n1_; (try clear hb); (try clear hb2); (try clear hk); (try clear hi); obtain ⟨hcz8_0, hcz8_1, hcz8_2, hcz8_3, hcz8_4, hcz8_5, hfz8_0, hfz8_1, hfz8_2, hfz8_3, hfz8_4, hfz8_5⟩ := blkc6 BK243.out) | ((with_reducible refine gate_callee (f := 24) rfl ?_); refine goesL_ (some 22) rfl rfl Try.func24 (by kernel_rfl) rfl #[.agg #[.int .i64 a0_0, .int .i64 a0_1, .int .i64 a0_2, .int .i64 a0_3, .int .i64 a0_4, .int .i64 a0_5], .int .i64 a1] rfl (by (try simp only [List.map_toArray, List.map_cons, List.map_nil]); first | done | rfl | (simp only [List.length_drop, List.length_take]; rfl)) ?_; (with_reducible refine (place_What.calls a0_0 a0_1 a0_2 a0_3 a0_4 a0_5 a1 t245 t246 t247 t248 _ A4.out).mono ?_); rintro e w9 ⟨rfl, hb⟩; refine ⟨_, rfl, ?_⟩; have n0_ := Aside0.mk (blk_below (g := gb243) (o := .cells #[.int .i64 a0_0, .int .i64 a0_1, .int .i64 a0_2, .int .i64 a0_3, .int .i64 a0_4, .int .i64 a0_5] 23 (0, 0)) (by (with_reducible repeat (first | refine blk_drewN ?_ _ | refine blk_drew ?_ | refine blk_alloc ?_ _)); exact BK243.out) hb); have n1_ := Aside0.mk (below_step (by repeat (first | (with_reducible first | exact HB.out | apply below_alloc | apply pw_below_drewN | apply below_drew1 | refine below_set ?_ GE243.out) | exact HB.out)) hb); clear BK243; clear HB; have BK243 := n0_; have HB := n1_; clear n0_ n1_; (try clear hb); (try clear hb2); (try clear hk); (try clear hi)))
  (try simp only [Act.put, List.setIfInBounds_toArray, List.set_cons_zero, List.set_cons_succ])
  go_cut [32] (fun v32 wc => ∃ (kq : Nat) (x32_4 : Bool), v32 = .bool x32_4 ∧ Aside0 (catamaranlaw07_PlaceOne.j0 kq a1 t244 t245 t246 t247 x32_4 a0_0 a0_1 a0_2 a0_3 a0_4 a0_5 = some r) ∧ Aside0 (kq ≤ k) ∧ Aside0 (wc.heap[gb243]? = some (.cells #[.int .i64 a0_0, .int .i64 a0_1, .int .i64 a0_2, .int .i64 a0_3, .int .i64 a0_4, .int .i64 a0_5] 23 (0, 0))) ∧ Aside0 (Below w.heap.size w wc))
  case first =>
    have H := HC5.out
    clear HC5
    by_cases c10 : t248 = 0
    · rw [if_pos c10] at H
      have c10b0 : (t248 == 0) = true := beq_iff_eq.mpr c10
      have c10b1 : (t248 != 0) = false := bne_eq_false_iff_eq.mpr c10
      clear c10
      (first | rw [c10b0] | (simp only [i64_w, i32_w]; rw [c10b0]) | skip)
      have H' := Aside0.mk H
      clear H
      go_wp2
      (first | go_meet | (refine Go.Met.intro ?_; go_step; (repeat apply Exists.intro); refine ⟨?rel, ?eqf⟩; case eqf => ((try rw [c10b0]); (first | done | rfl))))
      case rel => exact ⟨_, (!t244), (by first | rfl | (simp; done) | (simp [*]; done)), H', ⟨by first | omega | exact Nat.le_refl _⟩, ⟨by (with_reducible repeat (first | refine blk_drewN ?_ _ | refine blk_drew ?_ | refine blk_alloc ?_ _)); exact BK243.out⟩, ⟨by repeat (first | (with_reducible first | exact HB.out | apply below_alloc | apply pw_below_drewN | apply below_drew1 | refine below_set ?_ GE243.out) | exact HB.out)⟩⟩
    · rw [if_neg c10] at H
      have c10b0 : (t248 == 0) = false := beq_eq_false_iff_ne.mpr c10
      have c10b1 : (t248 != 0) = true := bne_iff_ne.mpr c10
      (first | rw [c10b0] | (simp only [i64_w, i32_w]; rw [c10b0]) | skip)
      have H' := Aside0.mk H
      clear H
      go_wp2
      (first | go_meet | (refine Go.Met.intro ?_; go_step; (repeat apply Exists.intro); refine ⟨?rel, ?eqf⟩; case eqf => ((try rw [c10b0]); (first | done | rfl))))
      case rel => exact ⟨_, (true), (by first | rfl | (simp; done) | (simp [*]; done)), H', ⟨by first | omega | exact Nat.le_refl _⟩, ⟨by (with_reducible repeat (first | refine blk_drewN ?_ _ | refine blk_drew ?_ | refine blk_alloc ?_ _)); exact BK243.out⟩, ⟨by repeat (first | (with_reducible first | exact HB.out | apply below_alloc | apply pw_below_drewN | apply below_drew1 | refine below_set ?_ GE243.out) | exact HB.out)⟩⟩
  case rest =>
    clear HC5
    try clear c1
    try clear c2
    try clear p2
    try clear c5
    try clear c6
    try clear c10
    try clear c10b0
    try clear c10b1
    try clear hcz8_0 hcz8_1 hcz8_2 hcz8_3 hcz8_4 hcz8_5
    try clear hfz8_0 hfz8_1 hfz8_2 hfz8_3 hfz8_4 hfz8_5
    obtain ⟨kq, x32_4, rfl, HA, HJ4, BK243, HB⟩ := hcut
    cases kq with
    | zero => exact absurd HA.out (by simp [catamaranlaw07_PlaceOne.j0])
    | succ kj4 =>
      have H := HA.out
      clear HA
      simp only [catamaranlaw07_PlaceOne.j0] at H
      by_cases c11 : x32_4 = true
      · subst c11
        have H1 : (some t244) = some r := by rw [if_pos rfl] at H; exact H
        clear H
        have H := H1
        clear H1
        obtain rfl := Option.some.inj H
        go_wp2
        go_ret
        exact ⟨by first | rfl | (simp [errW_none, errW_some] <;> rfl) | (simp [*, errW_none, errW_some] <;> rfl), by repeat (first | (with_reducible first | exact HB.out | apply below_alloc | apply pw_below_drewN | apply below_drew1 | refine below_set ?_ GE243.out) | exact HB.out)⟩
      · replace c11 := Bool.eq_false_iff.mpr c11
        subst c11
        have H1 : ((place_Sectors.f a0_0 a0_1 a0_2 a0_3 a0_4 a0_5).bind fun bt249 => (if bt249.2 = 0 then (if a1 < 0 then (catamaranlaw07_PlaceOne.j1 kj4 a1 t244 t245 t246 t247 true a0_0 a0_1 a0_2 a0_3 a0_4 a0_5) else (catamaranlaw07_PlaceOne.j1 kj4 a1 t244 t245 t246 t247 (decide (a1 ≥ bt249.1)) a0_0 a0_1 a0_2 a0_3 a0_4 a0_5)) else (catamaranlaw07_PlaceOne.j1 kj4 a1 t244 t245 t246 t247 true a0_0 a0_1 a0_2 a0_3 a0_4 a0_5))) = some r := by rw [if_neg (show ¬ (false = true) by decide)] at H; exact H
        clear H
        have H := H1
        clear H1
        replace H := Option.bind_eq_some_iff.mp H
        obtain ⟨⟨t249, t250⟩, A120, H⟩ := H
        replace H : (if t250 = 0 then (if a1 < 0 then (catamaranlaw07_PlaceOne.j1 kj4 a1 t244 t245 t246 t247 true a0_0 a0_1 a0_2 a0_3 a0_4 a0_5) else (catamaranlaw07_PlaceOne.j1 kj4 a1 t244 t245 t246 t247 (decide (a1 ≥ t249)) a0_0 a0_1 a0_2 a0_3 a0_4 a0_5)) else (catamaranlaw07_PlaceOne.j1 kj4 a1 t244 t245 t246 t247 true a0_0 a0_1 a0_2 a0_3 a0_4 a0_5)) = some r := H
        have A12 := Aside0.mk A120
        clear A120
        have HC13 := Aside0.mk H
        clear H
        obtain ⟨hcz14_0, hcz14_1, hcz14_2, hcz14_3, hcz14_4, hcz14_5, hfz14_0, hfz14_1, hfz14_2, hfz14_3, hfz14_4, hfz14_5⟩ := blkc6 BK243.out
        go_upto_region 6 with (first | ((with_reducible refine gate_callee (f := 20) rfl ?_); refine goesL_ (some 36) rfl rfl Try.func20 (by kernel_rfl) rfl #[.agg #[.int .i64 a0_0, .int .i64 a0_1, .int .i64 a0_2, .int .i64 a0_3, .int .i64 a0_4, .int .i64 a0_5]] rfl (by (try simp only [List.map_toArray, List.map_cons, List.map_nil]); first | done | rfl | (simp only [List.length_drop, List.length_take]; rfl)) ?_; (with_reducible refine (place_Sectors.calls a0_0 a0_1 a0_2 a0_3 a0_4 a0_5 t249 t250 _ A12.out).mono ?_); rintro e w15 ⟨rfl, hb⟩; refine ⟨_, rfl, ?_⟩; have n0_ := Aside0.mk (blk_below (g := gb243) (o := .cells #[.int .i64 a0_0, .int .i64 a0_1, .int .i64 a0_2, .int .i64 a0_3, .int .i64 a0_4, .int .i64 a0_5] 23 (0, 0)) (by (with_reducible repeat (first | refine blk_drewN ?_ _ | refine blk_drew ?_ | refine blk_alloc ?_ _)); exact BK243.out) hb); have n1_ := Aside0.mk (below_step (by repeat (first | (with_reducible first | exact HB.out | apply below_alloc | apply pw_below_drewN | apply below_drew1 | refine below_set ?_ GE243.out) | exact HB.out)) hb); clear BK243; clear HB; have BK243 := n0_; have HB := n1_; clear n0_ n1_; (try clear hb); (try clear hb2); (try clear hk); (try clear hi)))
        (try simp only [Act.put, List.setIfInBounds_toArray, List.set_cons_zero, List.set_cons_succ])
        go_cut [49] (fun v49 wc => ∃ (kq : Nat) (x49_12 : Bool), v49 = .bool x49_12 ∧ Aside0 (catamaranlaw07_PlaceOne.j1 kq a1 t244 t245 t246 t247 x49_12 a0_0 a0_1 a0_2 a0_3 a0_4 a0_5 = some r) ∧ Aside0 (kq ≤ kj4) ∧ Aside0 (wc.heap[gb243]? = some (.cells #[.int .i64 a0_0, .int .i64 a0_1, .int .i64 a0_2, .int .i64 a0_3, .int .i64 a0_4, .int .i64 a0_5] 23 (0, 0))) ∧ Aside0 (Below w.heap.size w wc))
        case first =>
          have H := HC13.out
          clear HC13
          by_cases c16 : t250 = 0
          · rw [if_pos c16] at H
            have c16b0 : (t250 == 0) = true := beq_iff_eq.mpr c16
            have c16b1 : (t250 != 0) = false := bne_eq_false_iff_eq.mpr c16
            clear c16
            (first | rw [c16b0] | (simp only [i64_w, i32_w]; rw [c16b0]) | skip)
            by_cases c17 : a1 < 0
            · rw [if_pos c17] at H
              have c17b0 : decide (a1 < 0) = true := decide_eq_true c17
              clear c17
              have H' := Aside0.mk H
              clear H
              go_wp2
              (first | go_meet | (refine Go.Met.intro ?_; go_step; (repeat apply Exists.intro); refine ⟨?rel, ?eqf⟩; case eqf => ((try rw [c16b0]); (first | done | rfl))))
              case rel => exact ⟨_, (true), (by first | rfl | (simp; done) | (simp [*]; done)), H', ⟨by have := HJ4.out; first | omega | exact Nat.le_refl _⟩, ⟨by (with_reducible repeat (first | refine blk_drewN ?_ _ | refine blk_drew ?_ | refine blk_alloc ?_ _)); exact BK243.out⟩, ⟨by repeat (first | (with_reducible first | exact HB.out | apply below_alloc | apply pw_below_drewN | apply below_drew1 | refine below_set ?_ GE243.out) | exact HB.out)⟩⟩
            · rw [if_neg c17] at H
              have c17b0 : decide (a1 < 0) = false := decide_eq_false c17
              clear c17
              have H' := Aside0.mk H
              clear H
              go_wp2
              (first | go_meet | (refine Go.Met.intro ?_; go_step; (repeat apply Exists.intro); refine ⟨?rel, ?eqf⟩; case eqf => ((try rw [c16b0]); (first | done | rfl))))
              case rel => exact ⟨_, (decide (a1 ≥ t249)), (by first | rfl | (simp; done) | (simp [*]; done)), H', ⟨by have := HJ4.out; first | omega | exact Nat.le_refl _⟩, ⟨by (with_reducible repeat (first | refine blk_drewN ?_ _ | refine blk_drew ?_ | refine blk_alloc ?_ _)); exact BK243.out⟩, ⟨by repeat (first | (with_reducible first | exact HB.out | apply below_alloc | apply pw_below_drewN | apply below_drew1 | refine below_set ?_ GE243.out) | exact HB.out)⟩⟩
          · rw [if_neg c16] at H
            have c16b0 : (t250 == 0) = false := beq_eq_false_iff_ne.mpr c16
            have c16b1 : (t250 != 0) = true := bne_iff_ne.mpr c16
            (first | rw [c16b0] | (simp only [i64_w, i32_w]; rw [c16b0]) | skip)
            have H' := Aside0.mk H
            clear H
            go_wp2
            (first | go_meet | (refine Go.Met.intro ?_; go_step; (repeat apply Exists.intro); refine ⟨?rel, ?eqf⟩; case eqf => ((try rw [c16b0]); (first | done | rfl))))
            case rel => exact ⟨_, (true), (by first | rfl | (simp; done) | (simp [*]; done)), H', ⟨by have := HJ4.out; first | omega | exact Nat.le_refl _⟩, ⟨by (with_reducible repeat (first | refine blk_drewN ?_ _ | refine blk_drew ?_ | refine blk_alloc ?_ _)); exact BK243.out⟩, ⟨by repeat (first | (with_reducible first | exact HB.out | apply below_alloc | apply pw_below_drewN | apply below_drew1 | refine below_set ?_ GE243.out) | exact HB.out)⟩⟩
        case rest =>
          clear HC13
          try clear c1
          try clear c2
          try clear p2
          try clear c5
          try clear c6
          try clear c10
          try clear c10b0
          try clear c10b1
          try clear c11
          try clear c16
          try clear c16b0
          try clear c16b1
          try clear c17
          try clear c17b0
          try clear hcz14_0 hcz14_1 hcz14_2 hcz14_3 hcz14_4 hcz14_5
          try clear hcz8_0 hcz8_1 hcz8_2 hcz8_3 hcz8_4 hcz8_5
          try clear hfz14_0 hfz14_1 hfz14_2 hfz14_3 hfz14_4 hfz14_5
          try clear hfz8_0 hfz8_1 hfz8_2 hfz8_3 hfz8_4 hfz8_5
          try clear p2
          obtain ⟨kq, x49_12, rfl, HA, HJ12, BK243, HB⟩ := hcut
          cases kq with
          | zero => exact absurd HA.out (by simp [catamaranlaw07_PlaceOne.j1])
          | succ kj12 =>
            have H := HA.out
            clear HA
            simp only [catamaranlaw07_PlaceOne.j1] at H
            by_cases c18 : x49_12 = true
            · subst c18
              have H1 : (some false) = some r := by rw [if_pos rfl] at H; exact H
              clear H
              have H := H1
              clear H1
              exact absurd ((Option.some.inj H).trans hT_.out) (by decide)
            · replace c18 := Bool.eq_false_iff.mpr c18
              subst c18
              have H1 : (if t245 = 1 then (if t244 = true then (if a1 < 2 then (if t246 = 0 then (some (t247 == 0)) else (some false)) else (some false)) else (some false)) else (if t245 = 2 then ((place_Area.f a0_0 a0_1 a0_2 a0_3 a0_4 a0_5 t246 t247).bind fun bt251 => (if t244 = true then (if bt251.2 = 0 then (some (bt251.1 == a1)) else (some false)) else (some false))) else (if t245 = 3 then ((place_Page.f a0_0 a0_1 a0_2 a0_3 a0_4 a0_5 t246 t247).bind fun bt253 => (if t244 = true then (if bt253.2 = 0 then (some (bt253.1 == a1)) else (some false)) else (some false))) else (if t245 = 4 then ((place_Track.f a0_0 a0_1 a0_2 a0_3 a0_4 a0_5 t246 t247).bind fun bt255 => (if t244 = true then (if bt255.2 = 0 then (if a1 ≥ bt255.1 then (some (decide (a1 < (wrap64 (bt255.1 + 4))))) else (some false)) else (some false)) else (some false))) else (some false))))) = some r := by rw [if_neg (show ¬ (false = true) by decide)] at H; exact H
              clear H
              have H := H1
              clear H1
              by_cases c19 : t245 = 1
              · rw [if_pos c19] at H
                have c19b0 : (t245 == 1) = true := beq_iff_eq.mpr c19
                have c19b1 : (t245 != 1) = false := bne_eq_false_iff_eq.mpr c19
                clear c19
                by_cases c20 : t244 = true
                · subst c20
                  have H1 : (if a1 < 2 then (if t246 = 0 then (some (t247 == 0)) else (some false)) else (some false)) = some r := by rw [if_pos rfl] at H; exact H
                  clear H
                  have H := H1
                  clear H1
                  by_cases c21 : a1 < 2
                  · rw [if_pos c21] at H
                    have c21b0 : decide (a1 < 2) = true := decide_eq_true c21
                    clear c21
                    by_cases c22 : t246 = 0
                    · rw [if_pos c22] at H
                      have c22b0 : (t246 == 0) = true := beq_iff_eq.mpr c22
                      have c22b1 : (t246 != 0) = false := bne_eq_false_iff_eq.mpr c22
                      clear c22
                      obtain rfl := Option.some.inj H
                      go_wp2
                      go_ret
                      exact ⟨by first | rfl | (simp [errW_none, errW_some] <;> rfl) | (simp [*, errW_none, errW_some] <;> rfl), by repeat (first | (with_reducible first | exact HB.out | apply below_alloc | apply pw_below_drewN | apply below_drew1 | refine below_set ?_ GE243.out) | exact HB.out)⟩
                    · rw [if_neg c22] at H
                      have c22b0 : (t246 == 0) = false := beq_eq_false_iff_ne.mpr c22
                      have c22b1 : (t246 != 0) = true := bne_iff_ne.mpr c22
                      exact absurd ((Option.some.inj H).trans hT_.out) (by decide)
                  · rw [if_neg c21] at H
                    have c21b0 : decide (a1 < 2) = false := decide_eq_false c21
                    clear c21
                    exact absurd ((Option.some.inj H).trans hT_.out) (by decide)
                · replace c20 := Bool.eq_false_iff.mpr c20
                  subst c20
                  have H1 : (some false) = some r := by rw [if_neg (show ¬ (false = true) by decide)] at H; exact H
                  clear H
                  have H := H1
                  clear H1
                  exact absurd ((Option.some.inj H).trans hT_.out) (by decide)
              · rw [if_neg c19] at H
                have c19b0 : (t245 == 1) = false := beq_eq_false_iff_ne.mpr c19
                have c19b1 : (t245 != 1) = true := bne_iff_ne.mpr c19
                by_cases c23 : t245 = 2
                · rw [if_pos c23] at H
                  have c23b0 : (t245 == 2) = true := beq_iff_eq.mpr c23
                  have c23b1 : (t245 != 2) = false := bne_eq_false_iff_eq.mpr c23
                  clear c23
                  replace H := Option.bind_eq_some_iff.mp H
                  obtain ⟨⟨t251, t252⟩, A240, H⟩ := H
                  replace H : (if t244 = true then (if t252 = 0 then (some (t251 == a1)) else (some false)) else (some false)) = some r := H
                  have A24 := Aside0.mk A240
                  clear A240
                  by_cases c25 : t244 = true
                  · subst c25
                    have H1 : (if t252 = 0 then (some (t251 == a1)) else (some false)) = some r := by rw [if_pos rfl] at H; exact H
                    clear H
                    have H := H1
                    clear H1
                    by_cases c26 : t252 = 0
                    · rw [if_pos c26] at H
                      have c26b0 : (t252 == 0) = true := beq_iff_eq.mpr c26
                      have c26b1 : (t252 != 0) = false := bne_eq_false_iff_eq.mpr c26
                      clear c26
                      obtain rfl := Option.some.inj H
                      obtain ⟨hcz27_0, hcz27_1, hcz27_2, hcz27_3, hcz27_4, hcz27_5, hfz27_0, hfz27_1, hfz27_2, hfz27_3, hfz27_4, hfz27_5⟩ := blkc6 BK243.out
                      go_wp2_with (first | ((with_reducible refine gate_callee (f := 14) rfl ?_); refine goesL_ (some 72) rfl rfl Try.func14 (by kernel_rfl) rfl #[.agg #[.int .i64 a0_0, .int .i64 a0_1, .int .i64 a0_2, .int .i64 a0_3, .int .i64 a0_4, .int .i64 a0_5], .int .i64 t246, .int .i64 t247] rfl (by (try simp only [List.map_toArray, List.map_cons, List.map_nil]); first | done | rfl | (simp only [List.length_drop, List.length_take]; rfl)) ?_; (with_reducible refine (place_Area.calls a0_0 a0_1 a0_2 a0_3 a0_4 a0_5 t246 t247 t251 t252 _ A24.out).mono ?_); rintro e w28 ⟨rfl, hb⟩; refine ⟨_, rfl, ?_⟩; have n0_ := Aside0.mk (blk_below (g := gb243) (o := .cells #[.int .i64 a0_0, .int .i64 a0_1, .int .i64 a0_2, .int .i64 a0_3, .int .i64 a0_4, .int .i64 a0_5] 23 (0, 0)) (by (with_reducible repeat (first | refine blk_drewN ?_ _ | refine blk_drew ?_ | refine blk_alloc ?_ _)); exact BK243.out) hb); have n1_ := Aside0.mk (below_step (by repeat (first | (with_reducible first | exact HB.out | apply below_alloc | apply pw_below_drewN | apply below_drew1 | refine below_set ?_ GE243.out) | exact HB.out)) hb); clear BK243; clear HB; have BK243 := n0_; have HB := n1_; clear n0_ n1_; (try clear hb); (try clear hb2); (try clear hk); (try clear hi)))
                      go_ret
                      exact ⟨by first | rfl | (simp [errW_none, errW_some] <;> rfl) | (simp [*, errW_none, errW_some] <;> rfl), by repeat (first | (with_reducible first | exact HB.out | apply below_alloc | apply pw_below_drewN | apply below_drew1 | refine below_set ?_ GE243.out) | exact HB.out)⟩
                    · rw [if_neg c26] at H
                      have c26b0 : (t252 == 0) = false := beq_eq_false_iff_ne.mpr c26
                      have c26b1 : (t252 != 0) = true := bne_iff_ne.mpr c26
                      exact absurd ((Option.some.inj H).trans hT_.out) (by decide)
                  · replace c25 := Bool.eq_false_iff.mpr c25
                    subst c25
                    have H1 : (some false) = some r := by rw [if_neg (show ¬ (false = true) by decide)] at H; exact H
                    clear H
                    have H := H1
                    clear H1
                    exact absurd ((Option.some.inj H).trans hT_.out) (by decide)
                · rw [if_neg c23] at H
                  have c23b0 : (t245 == 2) = false := beq_eq_false_iff_ne.mpr c23
                  have c23b1 : (t245 != 2) = true := bne_iff_ne.mpr c23
                  by_cases c29 : t245 = 3
                  · rw [if_pos c29] at H
                    have c29b0 : (t245 == 3) = true := beq_iff_eq.mpr c29
                    have c29b1 : (t245 != 3) = false := bne_eq_false_iff_eq.mpr c29
                    clear c29
                    replace H := Option.bind_eq_some_iff.mp H
                    obtain ⟨⟨t253, t254⟩, A300, H⟩ := H
                    replace H : (if t244 = true then (if t254 = 0 then (some (t253 == a1)) else (some false)) else (some false)) = some r := H
                    have A30 := Aside0.mk A300
                    clear A300
                    by_cases c31 : t244 = true
                    · subst c31
                      have H1 : (if t254 = 0 then (some (t253 == a1)) else (some false)) = some r := by rw [if_pos rfl] at H; exact H
                      clear H
                      have H := H1
                      clear H1
                      by_cases c32 : t254 = 0
                      · rw [if_pos c32] at H
                        have c32b0 : (t254 == 0) = true := beq_iff_eq.mpr c32
                        have c32b1 : (t254 != 0) = false := bne_eq_false_iff_eq.mpr c32
                        clear c32
                        obtain rfl := Option.some.inj H
                        obtain ⟨hcz33_0, hcz33_1, hcz33_2, hcz33_3, hcz33_4, hcz33_5, hfz33_0, hfz33_1, hfz33_2, hfz33_3, hfz33_4, hfz33_5⟩ := blkc6 BK243.out
                        go_wp2_with (first | ((with_reducible refine gate_callee (f := 16) rfl ?_); refine goesL_ (some 91) rfl rfl Try.func16 (by kernel_rfl) rfl #[.agg #[.int .i64 a0_0, .int .i64 a0_1, .int .i64 a0_2, .int .i64 a0_3, .int .i64 a0_4, .int .i64 a0_5], .int .i64 t246, .int .i64 t247] rfl (by (try simp only [List.map_toArray, List.map_cons, List.map_nil]); first | done | rfl | (simp only [List.length_drop, List.length_take]; rfl)) ?_; (with_reducible refine (place_Page.calls a0_0 a0_1 a0_2 a0_3 a0_4 a0_5 t246 t247 t253 t254 _ A30.out).mono ?_); rintro e w34 ⟨rfl, hb⟩; refine ⟨_, rfl, ?_⟩; have n0_ := Aside0.mk (blk_below (g := gb243) (o := .cells #[.int .i64 a0_0, .int .i64 a0_1, .int .i64 a0_2, .int .i64 a0_3, .int .i64 a0_4, .int .i64 a0_5] 23 (0, 0)) (by (with_reducible repeat (first | refine blk_drewN ?_ _ | refine blk_drew ?_ | refine blk_alloc ?_ _)); exact BK243.out) hb); have n1_ := Aside0.mk (below_step (by repeat (first | (with_reducible first | exact HB.out | apply below_alloc | apply pw_below_drewN | apply below_drew1 | refine below_set ?_ GE243.out) | exact HB.out)) hb); clear BK243; clear HB; have BK243 := n0_; have HB := n1_; clear n0_ n1_; (try clear hb); (try clear hb2); (try clear hk); (try clear hi)))
                        go_ret
                        exact ⟨by first | rfl | (simp [errW_none, errW_some] <;> rfl) | (simp [*, errW_none, errW_some] <;> rfl), by repeat (first | (with_reducible first | exact HB.out | apply below_alloc | apply pw_below_drewN | apply below_drew1 | refine below_set ?_ GE243.out) | exact HB.out)⟩
                      · rw [if_neg c32] at H
                        have c32b0 : (t254 == 0) = false := beq_eq_false_iff_ne.mpr c32
                        have c32b1 : (t254 != 0) = true := bne_iff_ne.mpr c32
                        exact absurd ((Option.some.inj H).trans hT_.out) (by decide)
                    · replace c31 := Bool.eq_false_iff.mpr c31
                      subst c31
                      have H1 : (some false) = some r := by rw [if_neg (show ¬ (false = true) by decide)] at H; exact H
                      clear H
                      have H := H1
                      clear H1
                      exact absurd ((Option.some.inj H).trans hT_.out) (by decide)
                  · rw [if_neg c29] at H
                    have c29b0 : (t245 == 3) = false := beq_eq_false_iff_ne.mpr c29
                    have c29b1 : (t245 != 3) = true := bne_iff_ne.mpr c29
                    by_cases c35 : t245 = 4
                    · rw [if_pos c35] at H
                      have c35b0 : (t245 == 4) = true := beq_iff_eq.mpr c35
                      have c35b1 : (t245 != 4) = false := bne_eq_false_iff_eq.mpr c35
                      clear c35
                      replace H := Option.bind_eq_some_iff.mp H
                      obtain ⟨⟨t255, t256⟩, A360, H⟩ := H
                      replace H : (if t244 = true then (if t256 = 0 then (if a1 ≥ t255 then (some (decide (a1 < (wrap64 (t255 + 4))))) else (some false)) else (some false)) else (some false)) = some r := H
                      have A36 := Aside0.mk A360
                      clear A360
                      by_cases c37 : t244 = true
                      · subst c37
                        have H1 : (if t256 = 0 then (if a1 ≥ t255 then (some (decide (a1 < (wrap64 (t255 + 4))))) else (some false)) else (some false)) = some r := by rw [if_pos rfl] at H; exact H
                        clear H
                        have H := H1
                        clear H1
                        by_cases c38 : t256 = 0
                        · rw [if_pos c38] at H
                          have c38b0 : (t256 == 0) = true := beq_iff_eq.mpr c38
                          have c38b1 : (t256 != 0) = false := bne_eq_false_iff_eq.mpr c38
                          clear c38
                          by_cases c39 : a1 ≥ t255
                          · rw [if_pos c39] at H
                            have c39b0 : decide (t255 ≤ a1) = true := decide_eq_true c39
                            clear c39
                            obtain rfl := Option.some.inj H
                            obtain ⟨hcz40_0, hcz40_1, hcz40_2, hcz40_3, hcz40_4, hcz40_5, hfz40_0, hfz40_1, hfz40_2, hfz40_3, hfz40_4, hfz40_5⟩ := blkc6 BK243.out
                            go_wp2_with (first | ((with_reducible refine gate_callee (f := 18) rfl ?_); refine goesL_ (some 110) rfl rfl Try.func18 (by kernel_rfl) rfl #[.agg #[.int .i64 a0_0, .int .i64 a0_1, .int .i64 a0_2, .int .i64 a0_3, .int .i64 a0_4, .int .i64 a0_5], .int .i64 t246, .int .i64 t247] rfl (by (try simp only [List.map_toArray, List.map_cons, List.map_nil]); first | done | rfl | (simp only [List.length_drop, List.length_take]; rfl)) ?_; (with_reducible refine (place_Track.calls a0_0 a0_1 a0_2 a0_3 a0_4 a0_5 t246 t247 t255 t256 _ A36.out).mono ?_); rintro e w41 ⟨rfl, hb⟩; refine ⟨_, rfl, ?_⟩; have n0_ := Aside0.mk (blk_below (g := gb243) (o := .cells #[.int .i64 a0_0, .int .i64 a0_1, .int .i64 a0_2, .int .i64 a0_3, .int .i64 a0_4, .int .i64 a0_5] 23 (0, 0)) (by (with_reducible repeat (first | refine blk_drewN ?_ _ | refine blk_drew ?_ | refine blk_alloc ?_ _)); exact BK243.out) hb); have n1_ := Aside0.mk (below_step (by repeat (first | (with_reducible first | exact HB.out | apply below_alloc | apply pw_below_drewN | apply below_drew1 | refine below_set ?_ GE243.out) | exact HB.out)) hb); clear BK243; clear HB; have BK243 := n0_; have HB := n1_; clear n0_ n1_; (try clear hb); (try clear hb2); (try clear hk); (try clear hi)))
                            go_ret
                            exact ⟨by first | rfl | (simp [errW_none, errW_some] <;> rfl) | (simp [*, errW_none, errW_some] <;> rfl), by repeat (first | (with_reducible first | exact HB.out | apply below_alloc | apply pw_below_drewN | apply below_drew1 | refine below_set ?_ GE243.out) | exact HB.out)⟩
                          · rw [if_neg c39] at H
                            have c39b0 : decide (t255 ≤ a1) = false := decide_eq_false c39
                            clear c39
                            exact absurd ((Option.some.inj H).trans hT_.out) (by decide)
                        · rw [if_neg c38] at H
                          have c38b0 : (t256 == 0) = false := beq_eq_false_iff_ne.mpr c38
                          have c38b1 : (t256 != 0) = true := bne_iff_ne.mpr c38
                          exact absurd ((Option.some.inj H).trans hT_.out) (by decide)
                      · replace c37 := Bool.eq_false_iff.mpr c37
                        subst c37
                        have H1 : (some false) = some r := by rw [if_neg (show ¬ (false = true) by decide)] at H; exact H
                        clear H
                        have H := H1
                        clear H1
                        exact absurd ((Option.some.inj H).trans hT_.out) (by decide)
                    · rw [if_neg c35] at H
                      have c35b0 : (t245 == 4) = false := beq_eq_false_iff_ne.mpr c35
                      have c35b1 : (t245 != 4) = true := bne_iff_ne.mpr c35
                      exact absurd ((Option.some.inj H).trans hT_.out) (by decide)

/-- THE ONE PURE STATEMENT of catamaranlaw07_PlaceOne: yours. -/
def catamaranlaw07_PlaceOne.Pure : Prop := ∀ (a0_0 : Int) (a0_1 : Int) (a0_2 : Int) (a0_3 : Int) (a0_4 : Int) (a0_5 : Int) (a1 : Int), (Lit.int .i64 a0_0).wf = true → (Lit.int .i64 a0_1).wf = true → (Lit.int .i64 a0_2).wf = true → (Lit.int .i64 a0_3).wf = true → (Lit.int .i64 a0_4).wf = true → (Lit.int .i64 a0_5).wf = true → (Lit.int .i64 a1).wf = true → ∃ k, catamaranlaw07_PlaceOne.f k a0_0 a0_1 a0_2 a0_3 a0_4 a0_5 a1 = some true
theorem catamaranlaw07_PlaceOne.walk (P : catamaranlaw07_PlaceOne.Pure) (a0_0 : Int) (a0_1 : Int) (a0_2 : Int) (a0_3 : Int) (a0_4 : Int) (a0_5 : Int) (a1 : Int) (w : World)  (w0_0 : (Lit.int .i64 a0_0).wf = true) (w0_1 : (Lit.int .i64 a0_1).wf = true) (w0_2 : (Lit.int .i64 a0_2).wf = true) (w0_3 : (Lit.int .i64 a0_3).wf = true) (w0_4 : (Lit.int .i64 a0_4).wf = true) (w0_5 : (Lit.int .i64 a0_5).wf = true) (w1 : (Lit.int .i64 a1).wf = true) :
    Calls Try.prog 5 #[.agg #[.int .i64 a0_0, .int .i64 a0_1, .int .i64 a0_2, .int .i64 a0_3, .int .i64 a0_4, .int .i64 a0_5], .int .i64 a1] w fun e w' => e = .returned (.bool true) ∧ Below w.heap.size w w' := by
  obtain ⟨k, h⟩ := P a0_0 a0_1 a0_2 a0_3 a0_4 a0_5 a1 w0_0 w0_1 w0_2 w0_3 w0_4 w0_5 w1
  refine (catamaranlaw07_PlaceOne.calls k a0_0 a0_1 a0_2 a0_3 a0_4 a0_5 a1 true w h ⟨rfl⟩).mono ?_
  rintro e w' ⟨rfl, hd⟩
  exact ⟨rfl, hd⟩

/-! ### catamaranlaw07_PlaceBack: function 6 -/
def catamaranlaw07_PlaceBack.j0 : Nat → Int → Int → Int → Bool → Int → Int → Int → Int → Int → Int → Int → Int → Int → Int → Option (Bool)
  | 0, _, _, _, _, _, _, _, _, _, _, _, _, _, _ => none
  | k + 1, x1, x2, x3, x9, x12, x13, x14, x15, x258000, x258001, x258002, x258003, x258004, x258005 => if x13 = 0 then ((place_What.f x258000 x258001 x258002 x258003 x258004 x258005 x12).bind fun bt269 => (if x9 = true then (if bt269.2.2.2 = 0 then (if bt269.1 = 3 then (if bt269.2.1 = x1 then (if x15 = 0 then ((place_What.f x258000 x258001 x258002 x258003 x258004 x258005 (wrap64 (x14 + (wrap64 (Int.tmod x3 4))))).bind fun bt273 => (if bt269.2.2.1 = x2 then (if bt273.2.2.2 = 0 then (if bt273.1 = 4 then (if bt273.2.1 = x1 then (some (bt273.2.2.1 == x2)) else (some false)) else (some false)) else (some false)) else (some false))) else (some (bt269.2.2.1 == x2))) else (if x15 = 0 then ((place_What.f x258000 x258001 x258002 x258003 x258004 x258005 (wrap64 (x14 + (wrap64 (Int.tmod x3 4))))).bind fun bt277 => (some false)) else (some false))) else (if x15 = 0 then ((place_What.f x258000 x258001 x258002 x258003 x258004 x258005 (wrap64 (x14 + (wrap64 (Int.tmod x3 4))))).bind fun bt281 => (some false)) else (some false))) else (if x15 = 0 then ((place_What.f x258000 x258001 x258002 x258003 x258004 x258005 (wrap64 (x14 + (wrap64 (Int.tmod x3 4))))).bind fun bt285 => (some false)) else (some false))) else (if x15 = 0 then ((place_What.f x258000 x258001 x258002 x258003 x258004 x258005 (wrap64 (x14 + (wrap64 (Int.tmod x3 4))))).bind fun bt289 => (some false)) else (some false)))) else (if x15 = 0 then ((place_What.f x258000 x258001 x258002 x258003 x258004 x258005 (wrap64 (x14 + (wrap64 (Int.tmod x3 4))))).bind fun bt293 => (if x9 = true then (if bt293.2.2.2 = 0 then (if bt293.1 = 4 then (if bt293.2.1 = x1 then (some (bt293.2.2.1 == x2)) else (some false)) else (some false)) else (some false)) else (some false))) else (some x9))
def catamaranlaw07_PlaceBack.f (k : Nat) (a0_0 : Int) (a0_1 : Int) (a0_2 : Int) (a0_3 : Int) (a0_4 : Int) (a0_5 : Int) (a1 : Int) (a2 : Int) (a3 : Int) : Option (Bool) := (catamaranlaw07_alive.f).bind fun t258 => ((place_Area.f a0_0 a0_1 a0_2 a0_3 a0_4 a0_5 a1 a2).bind fun bt259 => ((place_Page.f a0_0 a0_1 a0_2 a0_3 a0_4 a0_5 a1 a2).bind fun bt261 => ((place_Track.f a0_0 a0_1 a0_2 a0_3 a0_4 a0_5 a1 a2).bind fun bt263 => (if bt259.2 = 0 then ((place_What.f a0_0 a0_1 a0_2 a0_3 a0_4 a0_5 bt259.1).bind fun bt265 => (if t258 = true then (if bt265.2.2.2 = 0 then (if bt265.1 = 2 then (if bt265.2.1 = a1 then (catamaranlaw07_PlaceBack.j0 k a1 a2 a3 (bt265.2.2.1 == a2) bt261.1 bt261.2 bt263.1 bt263.2 a0_0 a0_1 a0_2 a0_3 a0_4 a0_5) else (catamaranlaw07_PlaceBack.j0 k a1 a2 a3 false bt261.1 bt261.2 bt263.1 bt263.2 a0_0 a0_1 a0_2 a0_3 a0_4 a0_5)) else (catamaranlaw07_PlaceBack.j0 k a1 a2 a3 false bt261.1 bt261.2 bt263.1 bt263.2 a0_0 a0_1 a0_2 a0_3 a0_4 a0_5)) else (catamaranlaw07_PlaceBack.j0 k a1 a2 a3 false bt261.1 bt261.2 bt263.1 bt263.2 a0_0 a0_1 a0_2 a0_3 a0_4 a0_5)) else (catamaranlaw07_PlaceBack.j0 k a1 a2 a3 false bt261.1 bt261.2 bt263.1 bt263.2 a0_0 a0_1 a0_2 a0_3 a0_4 a0_5))) else (catamaranlaw07_PlaceBack.j0 k a1 a2 a3 t258 bt261.1 bt261.2 bt263.1 bt263.2 a0_0 a0_1 a0_2 a0_3 a0_4 a0_5)))))
theorem catamaranlaw07_PlaceBack.mono_l : ∀ k, (∀ y0 y1 y2 y3 y4 y5 y6 y7 y8 y9 y10 y11 y12 y13, LeO (catamaranlaw07_PlaceBack.j0 k y0 y1 y2 y3 y4 y5 y6 y7 y8 y9 y10 y11 y12 y13) (catamaranlaw07_PlaceBack.j0 (k + 1) y0 y1 y2 y3 y4 y5 y6 y7 y8 y9 y10 y11 y12 y13))
  | 0 => fun _ _ _ _ _ _ _ _ _ _ _ _ _ _ r h => by simp [catamaranlaw07_PlaceBack.j0] at h
  | k + 1 => by
    have ih0 := catamaranlaw07_PlaceBack.mono_l k
    · intro y0 y1 y2 y3 y4 y5 y6 y7 y8 y9 y10 y11 y12 y13
      unfold catamaranlaw07_PlaceBack.j0
      repeat' first
      | (with_reducible exact ih0 _ _ _ _ _ _ _ _ _ _ _ _ _ _)
      | (with_reducible exact LeO.refl _)
      | (with_reducible exact LeO.none _)
      | (with_reducible refine LeO.ite ?_ ?_)
      | (with_reducible refine LeO.bind ?_ (fun _ => ?_))
      | exact ih0 _ _ _ _ _ _ _ _ _ _ _ _ _ _
      | exact LeO.none _
      | refine LeO.ite ?_ ?_
      | refine LeO.bind ?_ (fun _ => ?_)
theorem catamaranlaw07_PlaceBack.mono : ∀ a0 a1 a2 a3 a4 a5 a6 a7 a8 k, LeO (catamaranlaw07_PlaceBack.f k a0 a1 a2 a3 a4 a5 a6 a7 a8) (catamaranlaw07_PlaceBack.f (k + 1) a0 a1 a2 a3 a4 a5 a6 a7 a8) := by
  intro a0 a1 a2 a3 a4 a5 a6 a7 a8 k
  have ih0 := catamaranlaw07_PlaceBack.mono_l k
  unfold catamaranlaw07_PlaceBack.f
  repeat' first
      | (with_reducible exact ih0 _ _ _ _ _ _ _ _ _ _ _ _ _ _)
      | (with_reducible exact LeO.refl _)
      | (with_reducible exact LeO.none _)
      | (with_reducible refine LeO.ite ?_ ?_)
      | (with_reducible refine LeO.bind ?_ (fun _ => ?_))
      | exact ih0 _ _ _ _ _ _ _ _ _ _ _ _ _ _
      | exact LeO.none _
      | refine LeO.ite ?_ ?_
      | refine LeO.bind ?_ (fun _ => ?_)
set_option maxHeartbeats 8000000 in
set_option maxRecDepth 100000 in
theorem catamaranlaw07_PlaceBack.calls (k : Nat) (a0_0 : Int) (a0_1 : Int) (a0_2 : Int) (a0_3 : Int) (a0_4 : Int) (a0_5 : Int) (a1 : Int) (a2 : Int) (a3 : Int) (r : Bool) (w : World) (h : catamaranlaw07_PlaceBack.f k a0_0 a0_1 a0_2 a0_3 a0_4 a0_5 a1 a2 a3 = some r) (hT_ : Aside0 (r = true)) :
    Calls Try.prog 6 #[.agg #[.int .i64 a0_0, .int .i64 a0_1, .int .i64 a0_2, .int .i64 a0_3, .int .i64 a0_4, .int .i64 a0_5], .int .i64 a1, .int .i64 a2, .int .u8 a3] w fun e w' => e = .returned (.bool r) ∧ Below w.heap.size w w' := by
  have hu23 := Try.underlying23
  have HB := Aside0.mk (Below.refl w.heap.size w)
  have H : ((catamaranlaw07_alive.f).bind fun t258 => ((place_Area.f a0_0 a0_1 a0_2 a0_3 a0_4 a0_5 a1 a2).bind fun bt259 => ((place_Page.f a0_0 a0_1 a0_2 a0_3 a0_4 a0_5 a1 a2).bind fun bt261 => ((place_Track.f a0_0 a0_1 a0_2 a0_3 a0_4 a0_5 a1 a2).bind fun bt263 => (if bt259.2 = 0 then ((place_What.f a0_0 a0_1 a0_2 a0_3 a0_4 a0_5 bt259.1).bind fun bt265 => (if t258 = true then (if bt265.2.2.2 = 0 then (if bt265.1 = 2 then (if bt265.2.1 = a1 then (catamaranlaw07_PlaceBack.j0 k a1 a2 a3 (bt265.2.2.1 == a2) bt261.1 bt261.2 bt263.1 bt263.2 a0_0 a0_1 a0_2 a0_3 a0_4 a0_5) else (catamaranlaw07_PlaceBack.j0 k a1 a2 a3 false bt261.1 bt261.2 bt263.1 bt263.2 a0_0 a0_1 a0_2 a0_3 a0_4 a0_5)) else (catamaranlaw07_PlaceBack.j0 k a1 a2 a3 false bt261.1 bt261.2 bt263.1 bt263.2 a0_0 a0_1 a0_2 a0_3 a0_4 a0_5)) else (catamaranlaw07_PlaceBack.j0 k a1 a2 a3 false bt261.1 bt261.2 bt263.1 bt263.2 a0_0 a0_1 a0_2 a0_3 a0_4 a0_5)) else (catamaranlaw07_PlaceBack.j0 k a1 a2 a3 false bt261.1 bt261.2 bt263.1 bt263.2 a0_0 a0_1 a0_2 a0_3 a0_4 a0_5))) else (catamaranlaw07_PlaceBack.j0 k a1 a2 a3 t258 bt261.1 bt261.2 bt263.1 bt263.2 a0_0 a0_1 a0_2 a0_3 a0_4 a0_5)))))) = some r := h
  clear h
  replace H := Option.bind_eq_some_iff.mp H
  obtain ⟨t258, A50, H⟩ := H
  replace H : ((place_Area.f a0_0 a0_1 a0_2 a0_3 a0_4 a0_5 a1 a2).bind fun bt259 => ((place_Page.f a0_0 a0_1 a0_2 a0_3 a0_4 a0_5 a1 a2).bind fun bt261 => ((place_Track.f a0_0 a0_1 a0_2 a0_3 a0_4 a0_5 a1 a2).bind fun bt263 => (if bt259.2 = 0 then ((place_What.f a0_0 a0_1 a0_2 a0_3 a0_4 a0_5 bt259.1).bind fun bt265 => (if t258 = true then (if bt265.2.2.2 = 0 then (if bt265.1 = 2 then (if bt265.2.1 = a1 then (catamaranlaw07_PlaceBack.j0 k a1 a2 a3 (bt265.2.2.1 == a2) bt261.1 bt261.2 bt263.1 bt263.2 a0_0 a0_1 a0_2 a0_3 a0_4 a0_5) else (catamaranlaw07_PlaceBack.j0 k a1 a2 a3 false bt261.1 bt261.2 bt263.1 bt263.2 a0_0 a0_1 a0_2 a0_3 a0_4 a0_5)) else (catamaranlaw07_PlaceBack.j0 k a1 a2 a3 false bt261.1 bt261.2 bt263.1 bt263.2 a0_0 a0_1 a0_2 a0_3 a0_4 a0_5)) else (catamaranlaw07_PlaceBack.j0 k a1 a2 a3 false bt261.1 bt261.2 bt263.1 bt263.2 a0_0 a0_1 a0_2 a0_3 a0_4 a0_5)) else (catamaranlaw07_PlaceBack.j0 k a1 a2 a3 false bt261.1 bt261.2 bt263.1 bt263.2 a0_0 a0_1 a0_2 a0_3 a0_4 a0_5))) else (catamaranlaw07_PlaceBack.j0 k a1 a2 a3 t258 bt261.1 bt261.2 bt263.1 bt263.2 a0_0 a0_1 a0_2 a0_3 a0_4 a0_5))))) = some r := H
  have A5 := Aside0.mk A50
  clear A50
  replace H := Option.bind_eq_some_iff.mp H
  obtain ⟨⟨t259, t260⟩, A60, H⟩ := H
  replace H : ((place_Page.f a0_0 a0_1 a0_2 a0_3 a0_4 a0_5 a1 a2).bind fun bt261 => ((place_Track.f a0_0 a0_1 a0_2 a0_3 a0_4 a0_5 a1 a2).bind fun bt263 => (if t260 = 0 then ((place_What.f a0_0 a0_1 a0_2 a0_3 a0_4 a0_5 t259).bind fun bt265 => (if t258 = true then (if bt265.2.2.2 = 0 then (if bt265.1 = 2 then (if bt265.2.1 = a1 then (catamaranlaw07_PlaceBack.j0 k a1 a2 a3 (bt265.2.2.1 == a2) bt261.1 bt261.2 bt263.1 bt263.2 a0_0 a0_1 a0_2 a0_3 a0_4 a0_5) else (catamaranlaw07_PlaceBack.j0 k a1 a2 a3 false bt261.1 bt261.2 bt263.1 bt263.2 a0_0 a0_1 a0_2 a0_3 a0_4 a0_5)) else (catamaranlaw07_PlaceBack.j0 k a1 a2 a3 false bt261.1 bt261.2 bt263.1 bt263.2 a0_0 a0_1 a0_2 a0_3 a0_4 a0_5)) else (catamaranlaw07_PlaceBack.j0 k a1 a2 a3 false bt261.1 bt261.2 bt263.1 bt263.2 a0_0 a0_1 a0_2 a0_3 a0_4 a0_5)) else (catamaranlaw07_PlaceBack.j0 k a1 a2 a3 false bt261.1 bt261.2 bt263.1 bt263.2 a0_0 a0_1 a0_2 a0_3 a0_4 a0_5))) else (catamaranlaw07_PlaceBack.j0 k a1 a2 a3 t258 bt261.1 bt261.2 bt263.1 bt263.2 a0_0 a0_1 a0_2 a0_3 a0_4 a0_5)))) = some r := H
  have A6 := Aside0.mk A60
  clear A60
  replace H := Option.bind_eq_some_iff.mp H
  obtain ⟨⟨t261, t262⟩, A70, H⟩ := H
  replace H : ((place_Track.f a0_0 a0_1 a0_2 a0_3 a0_4 a0_5 a1 a2).bind fun bt263 => (if t260 = 0 then ((place_What.f a0_0 a0_1 a0_2 a0_3 a0_4 a0_5 t259).bind fun bt265 => (if t258 = true then (if bt265.2.2.2 = 0 then (if bt265.1 = 2 then (if bt265.2.1 = a1 then (catamaranlaw07_PlaceBack.j0 k a1 a2 a3 (bt265.2.2.1 == a2) t261 t262 bt263.1 bt263.2 a0_0 a0_1 a0_2 a0_3 a0_4 a0_5) else (catamaranlaw07_PlaceBack.j0 k a1 a2 a3 false t261 t262 bt263.1 bt263.2 a0_0 a0_1 a0_2 a0_3 a0_4 a0_5)) else (catamaranlaw07_PlaceBack.j0 k a1 a2 a3 false t261 t262 bt263.1 bt263.2 a0_0 a0_1 a0_2 a0_3 a0_4 a0_5)) else (catamaranlaw07_PlaceBack.j0 k a1 a2 a3 false t261 t262 bt263.1 bt263.2 a0_0 a0_1 a0_2 a0_3 a0_4 a0_5)) else (catamaranlaw07_PlaceBack.j0 k a1 a2 a3 false t261 t262 bt263.1 bt263.2 a0_0 a0_1 a0_2 a0_3 a0_4 a0_5))) else (catamaranlaw07_PlaceBack.j0 k a1 a2 a3 t258 t261 t262 bt263.1 bt263.2 a0_0 a0_1 a0_2 a0_3 a0_4 a0_5))) = some r := H
  have A7 := Aside0.mk A70
  clear A70
  replace H := Option.bind_eq_some_iff.mp H
  obtain ⟨⟨t263, t264⟩, A80, H⟩ := H
  replace H : (if t260 = 0 then ((place_What.f a0_0 a0_1 a0_2 a0_3 a0_4 a0_5 t259).bind fun bt265 => (if t258 = true then (if bt265.2.2.2 = 0 then (if bt265.1 = 2 then (if bt265.2.1 = a1 then (catamaranlaw07_PlaceBack.j0 k a1 a2 a3 (bt265.2.2.1 == a2) t261 t262 t263 t264 a0_0 a0_1 a0_2 a0_3 a0_4 a0_5) else (catamaranlaw07_PlaceBack.j0 k a1 a2 a3 false t261 t262 t263 t264 a0_0 a0_1 a0_2 a0_3 a0_4 a0_5)) else (catamaranlaw07_PlaceBack.j0 k a1 a2 a3 false t261 t262 t263 t264 a0_0 a0_1 a0_2 a0_3 a0_4 a0_5)) else (catamaranlaw07_PlaceBack.j0 k a1 a2 a3 false t261 t262 t263 t264 a0_0 a0_1 a0_2 a0_3 a0_4 a0_5)) else (catamaranlaw07_PlaceBack.j0 k a1 a2 a3 false t261 t262 t263 t264 a0_0 a0_1 a0_2 a0_3 a0_4 a0_5))) else (catamaranlaw07_PlaceBack.j0 k a1 a2 a3 t258 t261 t262 t263 t264 a0_0 a0_1 a0_2 a0_3 a0_4 a0_5)) = some r := H
  have A8 := Aside0.mk A80
  clear A80
  have HC9 := Aside0.mk H
  clear H
  go_enter Try.func6, Try.ntmps6
  go_upto_if 51 with (first | ((with_reducible refine gate_dst (N := 4) rfl ?_); refine box_event ?hg (N := 4) ?hd (cs := #[.int .i64 a0_0, .int .i64 a0_1, .int .i64 a0_2, .int .i64 a0_3, .int .i64 a0_4, .int .i64 a0_5]) (t := 23) ?hr ?_; (case hd => rfl); (case hg => rfl); (case hr => first | (go_simp; done) | (go_simp; rfl)); intro gb257 hg w10 hbox hb; have n0_ := Aside0.mk (below_step (by repeat (first | (with_reducible first | exact HB.out | apply below_alloc | apply pw_below_drewN | apply below_drew1) | exact HB.out)) hb); have n1_ := Aside0.mk (hbox); have n2_ := Aside0.mk ((by rw [hg]; exact (below_size (by repeat (first | (with_reducible first | exact HB.out | apply below_alloc | apply pw_below_drewN | apply below_drew1) | exact HB.out))) : w.heap.size ≤ gb257)); have n3_ := Aside0.mk ((by rw [hg]; exact (below_size (by repeat (first | (with_reducible first | exact HB.out | apply below_alloc | apply pw_below_drewN | apply below_drew1) | exact HB.out))) : w.heap.size ≤ gb257)); clear HB; have HB := n0_; have BK257 := n1_; have GW257 := n2_; have GE257 := n3_; clear n0_ n1_ n2_ n3_; clear hb hbox hg) | ((with_reducible refine gate_callee (f := 28) rfl ?_); refine goesL_ (some 28) rfl rfl Try.func28 (by kernel_rfl) rfl #[] rfl (by (try simp only [List.map_toArray, List.map_cons, List.map_nil]); first | done | rfl | (simp only [List.length_drop, List.length_take]; rfl)) ?_; (with_reducible refine (catamaranlaw07_alive.calls  t258 _ A5.out).mono ?_); rintro e w11 ⟨rfl, hb⟩; refine ⟨_, rfl, ?_⟩; have n0_ := Aside0.mk (blk_below (g := gb257) (o := .cells #[.int .i64 a0_0, .int .i64 a0_1, .int .i64 a0_2, .int .i64 a0_3, .int .i64 a0_4, .int .i64 a0_5] 23 (0, 0)) (by (with_reducible repeat (first | refine blk_drewN ?_ _ | refine blk_drew ?_ | refine blk_alloc ?_ _)); exact BK257.out) hb); have n1_ := Aside0.mk (below_step (by repeat (first | (with_reducible first | exact HB.out | apply below_alloc | apply pw_below_drewN | apply below_drew1 | refine below_set ?_ GE257.out) | exact HB.out)) hb); clear BK257; clear HB; have BK257 := n0_; have HB := n1_; clear n0_ n1_; (try clear hb); (try clear hb2); (try clear hk); (try clear hi); obtain ⟨hcz12_0, hcz12_1, hcz12_2, hcz12_3, hcz12_4, hcz12_5, hfz12_0, hfz12_1, hfz12_2, hfz12_3, hfz12_4, hfz12_5⟩ := blkc6 BK257.out) | ((with_reducible refine gate_callee (f := 14) rfl ?_); refine goesL_ (some 33) rfl rfl Try.func14 (by kernel_rfl) rfl #[.agg #[.int .i64 a0_0, .int .i64 a0_1, .int .i64 a0_2, .int .i64 a0_3, .int .i64 a0_4, .int .i64 a0_5], .int .i64 a1, .int .i64 a2] rfl (by (try simp only [List.map_toArray, List.map_cons, List.map_nil]); first | done | rfl | (simp only [List.length_drop, List.length_take]; rfl)) ?_; (with_reducible refine (place_Area.calls a0_0 a0_1 a0_2 a0_3 a0_4 a0_5 a1 a2 t259 t260 _ A6.out).mono ?_); rintro e w13 ⟨rfl, hb⟩; refine ⟨_, rfl, ?_⟩; have n0_ := Aside0.mk (blk_below (g := gb257) (o := .cells #[.int .i64 a0_0, .int .i64 a0_1, .int .i64 a0_2, .int .i64 a0_3, .int .i64 a0_4, .int .i64 a0_5] 23 (0, 0)) (by (with_reducible repeat (first | refine blk_drewN ?_ _ | refine blk_drew ?_ | refine blk_alloc ?_ _)); exact BK257.out) hb); have n1_ := Aside0.mk (below_step (by repeat (first | (with_reducible first | exact HB.out | apply below_alloc | apply pw_below_drewN | apply below_drew1 | refine below_set ?_ GE257.out) | exact HB.out)) hb); clear BK257; clear HB; have BK257 := n0_; have HB := n1_; clear n0_ n1_; (try clear hb); (try clear hb2); (try clear hk); (try clear hi); obtain ⟨hcz14_0, hcz14_1, hcz14_2, hcz14_3, hcz14_4, hcz14_5, hfz14_0, hfz14_1, hfz14_2, hfz14_3, hfz14_4, hfz14_5⟩ := blkc6 BK257.out) | ((with_reducible refine gate_callee (f := 16) rfl ?_); refine goesL_ (some 40) rfl rfl Try.func16 (by kernel_rfl) rfl #[.agg #[.int .i64 a0_0, .int .i64 a0_1, .int .i64 a0_2, .int .i64 a0_3, .int .i64 a0_4, .int .i64 a0_5], .int .i64 a1, .int .i64 a2] rfl (by (try simp only [List.map_toArray, List.map_cons, List.map_nil]); first | done | rfl | (simp only [List.length_drop, List.length_take]; rfl)) ?_; (with_reducible refine (place_Page.calls a0_0 a0_1 a0_2 a0_3 a0_4 a0_5 a1 a2 t261 t262 _ A7.out).mono ?_); rintro e w15 ⟨rfl, hb⟩; refine ⟨_, rfl, ?_⟩; have n0_ := Aside0.mk (blk_below (g := gb257) (o := .cells #[.int .i64 a0_0, .int .i64 a0_1, .int .i64 a0_2, .int .i64 a0_3, .int .i64 a0_4, .int .i64 a0_5] 23 (0, 0)) (by (with_reducible repeat (first | refine blk_drewN ?_ _ | refine blk_drew ?_ | refine blk_alloc ?_ _)); exact BK257.out) hb); have n1_ := Aside0.mk (below_step (by repeat (first | (with_reducible first | exact HB.out | apply below_alloc | apply pw_below_drewN | apply below_drew1 | refine below_set ?_ GE257.out) | exact HB.out)) hb); clear BK257; clear HB; have BK257 := n0_; have HB := n1_; clear n0_ n1_; (try clear hb); (try clear hb2); (try clear hk); (try clear hi); obtain ⟨hcz16_0, hcz16_1, hcz16_2, hcz16_3, hcz16_4, hcz16_5, hfz16_0, hfz16_1, hfz16_2, hfz16_3, hfz16_4, hfz16_5⟩ := blkc6 BK257.out) | ((with_reducible refine gate_callee (f := 18) rfl ?_); refine goesL_ (some 47) rfl rfl Try.func18 (by kernel_rfl) rfl #[.agg #[.int .i64 a0_0, .int .i64 a0_1, .int .i64 a0_2, .int .i64 a0_3, .int .i64 a0_4, .int .i64 a0_5], .int .i64 a1, .int .i64 a2] rfl (by (try simp only [List.map_toArray, List.map_cons, List.map_nil]); first | done | rfl | (simp only [List.length_drop, List.length_take]; rfl)) ?_; (with_reducible refine (place_Track.calls a0_0 a0_1 a0_2 a0_3 a0_4 a0_5 a1 a2 t263 t264 _ A8.out).mono ?_); rintro e w17 ⟨rfl, hb⟩; refine ⟨_, rfl, ?_⟩; have n0_ := Aside0.mk (blk_below (g := gb257) (o := .cells #[.int .i64 a0_0, .int .i64 a0_1, .int .i64 a0_2, .int .i64 a0_3, .int .i64 a0_4, .int .i64 a0_5] 23 (0, 0)) (by (with_reducible repeat (first | refine blk_drewN ?_ _ | refine blk_drew ?_ | refine blk_alloc ?_ _)); exact BK257.out) hb); have n1_ := Aside0.mk (below_step (by repeat (first | (with_reducible first | exact HB.out | apply below_alloc | apply pw_below_drewN | apply below_drew1 | refine below_set ?_ GE257.out) | exact HB.out)) hb); clear BK257; clear HB; have BK257 := n0_; have HB := n1_; clear n0_ n1_; (try clear hb); (try clear hb2); (try clear hk); (try clear hi)))
  (try simp only [Act.put, List.setIfInBounds_toArray, List.set_cons_zero, List.set_cons_succ])
  go_cut [9] (fun v9 wc => ∃ (kq : Nat) (x9_8 : Bool), v9 = .bool x9_8 ∧ Aside0 (catamaranlaw07_PlaceBack.j0 kq a1 a2 a3 x9_8 t261 t262 t263 t264 a0_0 a0_1 a0_2 a0_3 a0_4 a0_5 = some r) ∧ Aside0 (kq ≤ k) ∧ Aside0 (wc.heap[gb257]? = some (.cells #[.int .i64 a0_0, .int .i64 a0_1, .int .i64 a0_2, .int .i64 a0_3, .int .i64 a0_4, .int .i64 a0_5] 23 (0, 0))) ∧ Aside0 (Below w.heap.size w wc))
  case first =>
    have H := HC9.out
    clear HC9
    by_cases c18 : t260 = 0
    · rw [if_pos c18] at H
      have c18b0 : (t260 == 0) = true := beq_iff_eq.mpr c18
      have c18b1 : (t260 != 0) = false := bne_eq_false_iff_eq.mpr c18
      clear c18
      (first | rw [c18b0] | (simp only [i64_w, i32_w]; rw [c18b0]) | skip)
      replace H := Option.bind_eq_some_iff.mp H
      obtain ⟨⟨t265, t266, t267, t268⟩, A190, H⟩ := H
      replace H : (if t258 = true then (if t268 = 0 then (if t265 = 2 then (if t266 = a1 then (catamaranlaw07_PlaceBack.j0 k a1 a2 a3 (t267 == a2) t261 t262 t263 t264 a0_0 a0_1 a0_2 a0_3 a0_4 a0_5) else (catamaranlaw07_PlaceBack.j0 k a1 a2 a3 false t261 t262 t263 t264 a0_0 a0_1 a0_2 a0_3 a0_4 a0_5)) else (catamaranlaw07_PlaceBack.j0 k a1 a2 a3 false t261 t262 t263 t264 a0_0 a0_1 a0_2 a0_3 a0_4 a0_5)) else (catamaranlaw07_PlaceBack.j0 k a1 a2 a3 false t261 t262 t263 t264 a0_0 a0_1 a0_2 a0_3 a0_4 a0_5)) else (catamaranlaw07_PlaceBack.j0 k a1 a2 a3 false t261 t262 t263 t264 a0_0 a0_1 a0_2 a0_3 a0_4 a0_5)) = some r := H
      have A19 := Aside0.mk A190
      clear A190
      by_cases c20 : t258 = true
      · subst c20
        have H1 : (if t268 = 0 then (if t265 = 2 then (if t266 = a1 then (catamaranlaw07_PlaceBack.j0 k a1 a2 a3 (t267 == a2) t261 t262 t263 t264 a0_0 a0_1 a0_2 a0_3 a0_4 a0_5) else (catamaranlaw07_PlaceBack.j0 k a1 a2 a3 false t261 t262 t263 t264 a0_0 a0_1 a0_2 a0_3 a0_4 a0_5)) else (catamaranlaw07_PlaceBack.j0 k a1 a2 a3 false t261 t262 t263 t264 a0_0 a0_1 a0_2 a0_3 a0_4 a0_5)) else (catamaranlaw07_PlaceBack.j0 k a1 a2 a3 false t261 t262 t263 t264 a0_0 a0_1 a0_2 a0_3 a0_4 a0_5)) = some r := by rw [if_pos rfl] at H; exact H
        clear H
        have H := H1
        clear H1
        by_cases c21 : t268 = 0
        · rw [if_pos c21] at H
          have c21b0 : (t268 == 0) = true := beq_iff_eq.mpr c21
          have c21b1 : (t268 != 0) = false := bne_eq_false_iff_eq.mpr c21
          clear c21
          by_cases c22 : t265 = 2
          · rw [if_pos c22] at H
            have c22b0 : (t265 == 2) = true := beq_iff_eq.mpr c22
            have c22b1 : (t265 != 2) = false := bne_eq_false_iff_eq.mpr c22
            clear c22
            by_cases c23 : t266 = a1
            · rw [if_pos c23] at H
              have c23b0 : (t266 == a1) = true := beq_iff_eq.mpr c23
              have c23b1 : (t266 != a1) = false := bne_eq_false_iff_eq.mpr c23
              clear c23
              have H' := Aside0.mk H
              clear H
              obtain ⟨hcz24_0, hcz24_1, hcz24_2, hcz24_3, hcz24_4, hcz24_5, hfz24_0, hfz24_1, hfz24_2, hfz24_3, hfz24_4, hfz24_5⟩ := blkc6 BK257.out
              go_wp2_with (first | ((with_reducible refine gate_callee (f := 24) rfl ?_); refine goesL_ (some 55) rfl rfl Try.func24 (by kernel_rfl) rfl #[.agg #[.int .i64 a0_0, .int .i64 a0_1, .int .i64 a0_2, .int .i64 a0_3, .int .i64 a0_4, .int .i64 a0_5], .int .i64 t259] rfl (by (try simp only [List.map_toArray, List.map_cons, List.map_nil]); first | done | rfl | (simp only [List.length_drop, List.length_take]; rfl)) ?_; (with_reducible refine (place_What.calls a0_0 a0_1 a0_2 a0_3 a0_4 a0_5 t259 t265 t266 t267 t268 _ A19.out).mono ?_); rintro e w25 ⟨rfl, hb⟩; refine ⟨_, rfl, ?_⟩; have n0_ := Aside0.mk (blk_below (g := gb257) (o := .cells #[.int .i64 a0_0, .int .i64 a0_1, .int .i64 a0_2, .int .i64 a0_3, .int .i64 a0_4, .int .i64 a0_5] 23 (0, 0)) (by (with_reducible repeat (first | refine blk_drewN ?_ _ | refine blk_drew ?_ | refine blk_alloc ?_ _)); exact BK257.out) hb); have n1_ := Aside0.mk (below_step (by repeat (first | (with_reducible first | exact HB.out | apply below_alloc | apply pw_below_drewN | apply below_drew1 | refine below_set ?_ GE257.out) | exact HB.out)) hb); clear BK257; clear HB; have BK257 := n0_; have HB := n1_; clear n0_ n1_; (try clear hb); (try clear hb2); (try clear hk); (try clear hi)))
              (first | go_meet | (refine Go.Met.intro ?_; go_step; (repeat apply Exists.intro); refine ⟨?rel, ?eqf⟩; case eqf => ((try rw [c18b0]); (first | done | rfl))))
              case rel => exact ⟨_, ((t267 == a2)), (by first | rfl | (simp; done) | (simp [*]; done)), H', ⟨by first | omega | exact Nat.le_refl _⟩, ⟨by (with_reducible repeat (first | refine blk_drewN ?_ _ | refine blk_drew ?_ | refine blk_alloc ?_ _)); exact BK257.out⟩, ⟨by repeat (first | (with_reducible first | exact HB.out | apply below_alloc | apply pw_below_drewN | apply below_drew1 | refine below_set ?_ GE257.out) | exact HB.out)⟩⟩
            · rw [if_neg c23] at H
              have c23b0 : (t266 == a1) = false := beq_eq_false_iff_ne.mpr c23
              have c23b1 : (t266 != a1) = true := bne_iff_ne.mpr c23
              have H' := Aside0.mk H
              clear H
              obtain ⟨hcz26_0, hcz26_1, hcz26_2, hcz26_3, hcz26_4, hcz26_5, hfz26_0, hfz26_1, hfz26_2, hfz26_3, hfz26_4, hfz26_5⟩ := blkc6 BK257.out
              go_wp2_with (first | ((with_reducible refine gate_callee (f := 24) rfl ?_); refine goesL_ (some 55) rfl rfl Try.func24 (by kernel_rfl) rfl #[.agg #[.int .i64 a0_0, .int .i64 a0_1, .int .i64 a0_2, .int .i64 a0_3, .int .i64 a0_4, .int .i64 a0_5], .int .i64 t259] rfl (by (try simp only [List.map_toArray, List.map_cons, List.map_nil]); first | done | rfl | (simp only [List.length_drop, List.length_take]; rfl)) ?_; (with_reducible refine (place_What.calls a0_0 a0_1 a0_2 a0_3 a0_4 a0_5 t259 t265 t266 t267 t268 _ A19.out).mono ?_); rintro e w27 ⟨rfl, hb⟩; refine ⟨_, rfl, ?_⟩; have n0_ := Aside0.mk (blk_below (g := gb257) (o := .cells #[.int .i64 a0_0, .int .i64 a0_1, .int .i64 a0_2, .int .i64 a0_3, .int .i64 a0_4, .int .i64 a0_5] 23 (0, 0)) (by (with_reducible repeat (first | refine blk_drewN ?_ _ | refine blk_drew ?_ | refine blk_alloc ?_ _)); exact BK257.out) hb); have n1_ := Aside0.mk (below_step (by repeat (first | (with_reducible first | exact HB.out | apply below_alloc | apply pw_below_drewN | apply below_drew1 | refine below_set ?_ GE257.out) | exact HB.out)) hb); clear BK257; clear HB; have BK257 := n0_; have HB := n1_; clear n0_ n1_; (try clear hb); (try clear hb2); (try clear hk); (try clear hi)))
              (first | go_meet | (refine Go.Met.intro ?_; go_step; (repeat apply Exists.intro); refine ⟨?rel, ?eqf⟩; case eqf => ((try rw [c18b0]); (first | done | rfl))))
              case rel => exact ⟨_, (false), (by first | rfl | (simp; done) | (simp [*]; done)), H', ⟨by first | omega | exact Nat.le_refl _⟩, ⟨by (with_reducible repeat (first | refine blk_drewN ?_ _ | refine blk_drew ?_ | refine blk_alloc ?_ _)); exact BK257.out⟩, ⟨by repeat (first | (with_reducible first | exact HB.out | apply below_alloc | apply pw_below_drewN | apply below_drew1 | refine below_set ?_ GE257.out) | exact HB.out)⟩⟩
          · rw [if_neg c22] at H
            have c22b0 : (t265 == 2) = false := beq_eq_false_iff_ne.mpr c22
            have c22b1 : (t265 != 2) = true := bne_iff_ne.mpr c22
            have H' := Aside0.mk H
            clear H
            obtain ⟨hcz28_0, hcz28_1, hcz28_2, hcz28_3, hcz28_4, hcz28_5, hfz28_0, hfz28_1, hfz28_2, hfz28_3, hfz28_4, hfz28_5⟩ := blkc6 BK257.out
            go_wp2_with (first | ((with_reducible refine gate_callee (f := 24) rfl ?_); refine goesL_ (some 55) rfl rfl Try.func24 (by kernel_rfl) rfl #[.agg #[.int .i64 a0_0, .int .i64 a0_1, .int .i64 a0_2, .int .i64 a0_3, .int .i64 a0_4, .int .i64 a0_5], .int .i64 t259] rfl (by (try simp only [List.map_toArray, List.map_cons, List.map_nil]); first | done | rfl | (simp only [List.length_drop, List.length_take]; rfl)) ?_; (with_reducible refine (place_What.calls a0_0 a0_1 a0_2 a0_3 a0_4 a0_5 t259 t265 t266 t267 t268 _ A19.out).mono ?_); rintro e w29 ⟨rfl, hb⟩; refine ⟨_, rfl, ?_⟩; have n0_ := Aside0.mk (blk_below (g := gb257) (o := .cells #[.int .i64 a0_0, .int .i64 a0_1, .int .i64 a0_2, .int .i64 a0_3, .int .i64 a0_4, .int .i64 a0_5] 23 (0, 0)) (by (with_reducible repeat (first | refine blk_drewN ?_ _ | refine blk_drew ?_ | refine blk_alloc ?_ _)); exact BK257.out) hb); have n1_ := Aside0.mk (below_step (by repeat (first | (with_reducible first | exact HB.out | apply below_alloc | apply pw_below_drewN | apply below_drew1 | refine below_set ?_ GE257.out) | exact HB.out)) hb); clear BK257; clear HB; have BK257 := n0_; have HB := n1_; clear n0_ n1_; (try clear hb); (try clear hb2); (try clear hk); (try clear hi)))
            (first | go_meet | (refine Go.Met.intro ?_; go_step; (repeat apply Exists.intro); refine ⟨?rel, ?eqf⟩; case eqf => ((try rw [c18b0]); (first | done | rfl))))
            case rel => exact ⟨_, (false), (by first | rfl | (simp; done) | (simp [*]; done)), H', ⟨by first | omega | exact Nat.le_refl _⟩, ⟨by (with_reducible repeat (first | refine blk_drewN ?_ _ | refine blk_drew ?_ | refine blk_alloc ?_ _)); exact BK257.out⟩, ⟨by repeat (first | (with_reducible first | exact HB.out | apply below_alloc | apply pw_below_drewN | apply below_drew1 | refine below_set ?_ GE257.out) | exact HB.out)⟩⟩
        · rw [if_neg c21] at H
          have c21b0 : (t268 == 0) = false := beq_eq_false_iff_ne.mpr c21
          have c21b1 : (t268 != 0) = true := bne_iff_ne.mpr c21
          have H' := Aside0.mk H
          clear H
          obtain ⟨hcz30_0, hcz30_1, hcz30_2, hcz30_3, hcz30_4, hcz30_5, hfz30_0, hfz30_1, hfz30_2, hfz30_3, hfz30_4, hfz30_5⟩ := blkc6 BK257.out
          go_wp2_with (first | ((with_reducible refine gate_callee (f := 24) rfl ?_); refine goesL_ (some 55) rfl rfl Try.func24 (by kernel_rfl) rfl #[.agg #[.int .i64 a0_0, .int .i64 a0_1, .int .i64 a0_2, .int .i64 a0_3, .int .i64 a0_4, .int .i64 a0_5], .int .i64 t259] rfl (by (try simp only [List.map_toArray, List.map_cons, List.map_nil]); first | done | rfl | (simp only [List.length_drop, List.length_take]; rfl)) ?_; (with_reducible refine (place_What.calls a0_0 a0_1 a0_2 a0_3 a0_4 a0_5 t259 t265 t266 t267 t268 _ A19.out).mono ?_); rintro e w31 ⟨rfl, hb⟩; refine ⟨_, rfl, ?_⟩; have n0_ := Aside0.mk (blk_below (g := gb257) (o := .cells #[.int .i64 a0_0, .int .i64 a0_1, .int .i64 a0_2, .int .i64 a0_3, .int .i64 a0_4, .int .i64 a0_5] 23 (0, 0)) (by (with_reducible repeat (first | refine blk_drewN ?_ _ | refine blk_drew ?_ | refine blk_alloc ?_ _)); exact BK257.out) hb); have n1_ := Aside0.mk (below_step (by repeat (first | (with_reducible first | exact HB.out | apply below_alloc | apply pw_below_drewN | apply below_drew1 | refine below_set ?_ GE257.out) | exact HB.out)) hb); clear BK257; clear HB; have BK257 := n0_; have HB := n1_; clear n0_ n1_; (try clear hb); (try clear hb2); (try clear hk); (try clear hi)))
          (first | go_meet | (refine Go.Met.intro ?_; go_step; (repeat apply Exists.intro); refine ⟨?rel, ?eqf⟩; case eqf => ((try rw [c18b0]); (first | done | rfl))))
          case rel => exact ⟨_, (false), (by first | rfl | (simp; done) | (simp [*]; done)), H', ⟨by first | omega | exact Nat.le_refl _⟩, ⟨by (with_reducible repeat (first | refine blk_drewN ?_ _ | refine blk_drew ?_ | refine blk_alloc ?_ _)); exact BK257.out⟩, ⟨by repeat (first | (with_reducible first | exact HB.out | apply below_alloc | apply pw_below_drewN | apply below_drew1 | refine below_set ?_ GE257.out) | exact HB.out)⟩⟩
      · replace c20 := Bool.eq_false_iff.mpr c20
        subst c20
        have H1 : (catamaranlaw07_PlaceBack.j0 k a1 a2 a3 false t261 t262 t263 t264 a0_0 a0_1 a0_2 a0_3 a0_4 a0_5) = some r := by rw [if_neg (show ¬ (false = true) by decide)] at H; exact H
        clear H
        have H := H1
        clear H1
        have H' := Aside0.mk H
        clear H
        obtain ⟨hcz32_0, hcz32_1, hcz32_2, hcz32_3, hcz32_4, hcz32_5, hfz32_0, hfz32_1, hfz32_2, hfz32_3, hfz32_4, hfz32_5⟩ := blkc6 BK257.out
        go_wp2_with (first | ((with_reducible refine gate_callee (f := 24) rfl ?_); refine goesL_ (some 55) rfl rfl Try.func24 (by kernel_rfl) rfl #[.agg #[.int .i64 a0_0, .int .i64 a0_1, .int .i64 a0_2, .int .i64 a0_3, .int .i64 a0_4, .int .i64 a0_5], .int .i64 t259] rfl (by (try simp only [List.map_toArray, List.map_cons, List.map_nil]); first | done | rfl | (simp only [List.length_drop, List.length_take]; rfl)) ?_; (with_reducible refine (place_What.calls a0_0 a0_1 a0_2 a0_3 a0_4 a0_5 t259 t265 t266 t267 t268 _ A19.out).mono ?_); rintro e w33 ⟨rfl, hb⟩; refine ⟨_, rfl, ?_⟩; have n0_ := Aside0.mk (blk_below (g := gb257) (o := .cells #[.int .i64 a0_0, .int .i64 a0_1, .int .i64 a0_2, .int .i64 a0_3, .int .i64 a0_4, .int .i64 a0_5] 23 (0, 0)) (by (with_reducible repeat (first | refine blk_drewN ?_ _ | refine blk_drew ?_ | refine blk_alloc ?_ _)); exact BK257.out) hb); have n1_ := Aside0.mk (below_step (by repeat (first | (with_reducible first | exact HB.out | apply below_alloc | apply pw_below_drewN | apply below_drew1 | refine below_set ?_ GE257.out) | exact HB.out)) hb); clear BK257; clear HB; have BK257 := n0_; have HB := n1_; clear n0_ n1_; (try clear hb); (try clear hb2); (try clear hk); (try clear hi)))
        (first | go_meet | (refine Go.Met.intro ?_; go_step; (repeat apply Exists.intro); refine ⟨?rel, ?eqf⟩; case eqf => ((try rw [c18b0]); (first | done | rfl))))
        case rel => exact ⟨_, (false), (by first | rfl | (simp; done) | (simp [*]; done)), H', ⟨by first | omega | exact Nat.le_refl _⟩, ⟨by (with_reducible repeat (first | refine blk_drewN ?_ _ | refine blk_drew ?_ | refine blk_alloc ?_ _)); exact BK257.out⟩, ⟨by repeat (first | (with_reducible first | exact HB.out | apply below_alloc | apply pw_below_drewN | apply below_drew1 | refine below_set ?_ GE257.out) | exact HB.out)⟩⟩
    · rw [if_neg c18] at H
      have c18b0 : (t260 == 0) = false := beq_eq_false_iff_ne.mpr c18
      have c18b1 : (t260 != 0) = true := bne_iff_ne.mpr c18
      (first | rw [c18b0] | (simp only [i64_w, i32_w]; rw [c18b0]) | skip)
      have H' := Aside0.mk H
      clear H
      go_wp2
      (first | go_meet | (refine Go.Met.intro ?_; go_step; (repeat apply Exists.intro); refine ⟨?rel, ?eqf⟩; case eqf => ((try rw [c18b0]); (first | done | rfl))))
      case rel => exact ⟨_, (t258), (by first | rfl | (simp; done) | (simp [*]; done)), H', ⟨by first | omega | exact Nat.le_refl _⟩, ⟨by (with_reducible repeat (first | refine blk_drewN ?_ _ | refine blk_drew ?_ | refine blk_alloc ?_ _)); exact BK257.out⟩, ⟨by repeat (first | (with_reducible first | exact HB.out | apply below_alloc | apply pw_below_drewN | apply below_drew1 | refine below_set ?_ GE257.out) | exact HB.out)⟩⟩
  case rest =>
    clear HC9
    try clear c1
    try clear c2
    try clear p2
    try clear c6
    try clear c14
    try clear c16
    try clear c18
    try clear c18b0
    try clear c18b1
    try clear c20
    try clear c21
    try clear c21b0
    try clear c21b1
    try clear c22
    try clear c22b0
    try clear c22b1
    try clear c23
    try clear c23b0
    try clear c23b1
    try clear c24
    try clear c28
    try clear hcz12_0 hcz12_1 hcz12_2 hcz12_3 hcz12_4 hcz12_5
    try clear hcz14_0 hcz14_1 hcz14_2 hcz14_3 hcz14_4 hcz14_5
    try clear hcz16_0 hcz16_1 hcz16_2 hcz16_3 hcz16_4 hcz16_5
    try clear hcz24_0 hcz24_1 hcz24_2 hcz24_3 hcz24_4 hcz24_5
    try clear hcz26_0 hcz26_1 hcz26_2 hcz26_3 hcz26_4 hcz26_5
    try clear hcz28_0 hcz28_1 hcz28_2 hcz28_3 hcz28_4 hcz28_5
    try clear hcz30_0 hcz30_1 hcz30_2 hcz30_3 hcz30_4 hcz30_5
    try clear hcz32_0 hcz32_1 hcz32_2 hcz32_3 hcz32_4 hcz32_5
    try clear hfz12_0 hfz12_1 hfz12_2 hfz12_3 hfz12_4 hfz12_5
    try clear hfz14_0 hfz14_1 hfz14_2 hfz14_3 hfz14_4 hfz14_5
    try clear hfz16_0 hfz16_1 hfz16_2 hfz16_3 hfz16_4 hfz16_5
    try clear hfz24_0 hfz24_1 hfz24_2 hfz24_3 hfz24_4 hfz24_5
    try clear hfz26_0 hfz26_1 hfz26_2 hfz26_3 hfz26_4 hfz26_5
    try clear hfz28_0 hfz28_1 hfz28_2 hfz28_3 hfz28_4 hfz28_5
    try clear hfz30_0 hfz30_1 hfz30_2 hfz30_3 hfz30_4 hfz30_5
    try clear hfz32_0 hfz32_1 hfz32_2 hfz32_3 hfz32_4 hfz32_5
    obtain ⟨kq, x9_8, rfl, HA, HJ8, BK257, HB⟩ := hcut
    cases kq with
    | zero => exact absurd HA.out (by simp [catamaranlaw07_PlaceBack.j0])
    | succ kj8 =>
      have H := HA.out
      clear HA
      simp only [catamaranlaw07_PlaceBack.j0] at H
      by_cases c34 : t262 = 0
      · rw [if_pos c34] at H
        have c34b0 : (t262 == 0) = true := beq_iff_eq.mpr c34
        have c34b1 : (t262 != 0) = false := bne_eq_false_iff_eq.mpr c34
        clear c34
        replace H := Option.bind_eq_some_iff.mp H
        obtain ⟨⟨t269, t270, t271, t272⟩, A350, H⟩ := H
        replace H : (if x9_8 = true then (if t272 = 0 then (if t269 = 3 then (if t270 = a1 then (if t264 = 0 then ((place_What.f a0_0 a0_1 a0_2 a0_3 a0_4 a0_5 (wrap64 (t263 + (wrap64 (Int.tmod a3 4))))).bind fun bt273 => (if t271 = a2 then (if bt273.2.2.2 = 0 then (if bt273.1 = 4 then (if bt273.2.1 = a1 then (some (bt273.2.2.1 == a2)) else (some false)) else (some false)) else (some false)) else (some false))) else (some (t271 == a2))) else (if t264 = 0 then ((place_What.f a0_0 a0_1 a0_2 a0_3 a0_4 a0_5 (wrap64 (t263 + (wrap64 (Int.tmod a3 4))))).bind fun bt277 => (some false)) else (some false))) else (if t264 = 0 then ((place_What.f a0_0 a0_1 a0_2 a0_3 a0_4 a0_5 (wrap64 (t263 + (wrap64 (Int.tmod a3 4))))).bind fun bt281 => (some false)) else (some false))) else (if t264 = 0 then ((place_What.f a0_0 a0_1 a0_2 a0_3 a0_4 a0_5 (wrap64 (t263 + (wrap64 (Int.tmod a3 4))))).bind fun bt285 => (some false)) else (some false))) else (if t264 = 0 then ((place_What.f a0_0 a0_1 a0_2 a0_3 a0_4 a0_5 (wrap64 (t263 + (wrap64 (Int.tmod a3 4))))).bind fun bt289 => (some false)) else (some false))) = some r := H
        have A35 := Aside0.mk A350
        clear A350
        by_cases c36 : x9_8 = true
        · subst c36
          have H1 : (if t272 = 0 then (if t269 = 3 then (if t270 = a1 then (if t264 = 0 then ((place_What.f a0_0 a0_1 a0_2 a0_3 a0_4 a0_5 (wrap64 (t263 + (wrap64 (Int.tmod a3 4))))).bind fun bt273 => (if t271 = a2 then (if bt273.2.2.2 = 0 then (if bt273.1 = 4 then (if bt273.2.1 = a1 then (some (bt273.2.2.1 == a2)) else (some false)) else (some false)) else (some false)) else (some false))) else (some (t271 == a2))) else (if t264 = 0 then ((place_What.f a0_0 a0_1 a0_2 a0_3 a0_4 a0_5 (wrap64 (t263 + (wrap64 (Int.tmod a3 4))))).bind fun bt277 => (some false)) else (some false))) else (if t264 = 0 then ((place_What.f a0_0 a0_1 a0_2 a0_3 a0_4 a0_5 (wrap64 (t263 + (wrap64 (Int.tmod a3 4))))).bind fun bt281 => (some false)) else (some false))) else (if t264 = 0 then ((place_What.f a0_0 a0_1 a0_2 a0_3 a0_4 a0_5 (wrap64 (t263 + (wrap64 (Int.tmod a3 4))))).bind fun bt285 => (some false)) else (some false))) = some r := by rw [if_pos rfl] at H; exact H
          clear H
          have H := H1
          clear H1
          by_cases c37 : t272 = 0
          · rw [if_pos c37] at H
            have c37b0 : (t272 == 0) = true := beq_iff_eq.mpr c37
            have c37b1 : (t272 != 0) = false := bne_eq_false_iff_eq.mpr c37
            clear c37
            by_cases c38 : t269 = 3
            · rw [if_pos c38] at H
              have c38b0 : (t269 == 3) = true := beq_iff_eq.mpr c38
              have c38b1 : (t269 != 3) = false := bne_eq_false_iff_eq.mpr c38
              clear c38
              by_cases c39 : t270 = a1
              · rw [if_pos c39] at H
                have c39b0 : (t270 == a1) = true := beq_iff_eq.mpr c39
                have c39b1 : (t270 != a1) = false := bne_eq_false_iff_eq.mpr c39
                clear c39
                by_cases c40 : t264 = 0
                · rw [if_pos c40] at H
                  have c40b0 : (t264 == 0) = true := beq_iff_eq.mpr c40
                  have c40b1 : (t264 != 0) = false := bne_eq_false_iff_eq.mpr c40
                  clear c40
                  replace H := Option.bind_eq_some_iff.mp H
                  obtain ⟨⟨t273, t274, t275, t276⟩, A410, H⟩ := H
                  replace H : (if t271 = a2 then (if t276 = 0 then (if t273 = 4 then (if t274 = a1 then (some (t275 == a2)) else (some false)) else (some false)) else (some false)) else (some false)) = some r := H
                  have A41 := Aside0.mk A410
                  clear A410
                  by_cases c42 : t271 = a2
                  · rw [if_pos c42] at H
                    have c42b0 : (t271 == a2) = true := beq_iff_eq.mpr c42
                    have c42b1 : (t271 != a2) = false := bne_eq_false_iff_eq.mpr c42
                    clear c42
                    by_cases c43 : t276 = 0
                    · rw [if_pos c43] at H
                      have c43b0 : (t276 == 0) = true := beq_iff_eq.mpr c43
                      have c43b1 : (t276 != 0) = false := bne_eq_false_iff_eq.mpr c43
                      clear c43
                      by_cases c44 : t273 = 4
                      · rw [if_pos c44] at H
                        have c44b0 : (t273 == 4) = true := beq_iff_eq.mpr c44
                        have c44b1 : (t273 != 4) = false := bne_eq_false_iff_eq.mpr c44
                        clear c44
                        by_cases c45 : t274 = a1
                        · rw [if_pos c45] at H
                          have c45b0 : (t274 == a1) = true := beq_iff_eq.mpr c45
                          have c45b1 : (t274 != a1) = false := bne_eq_false_iff_eq.mpr c45
                          clear c45
                          obtain rfl := Option.some.inj H
                          obtain ⟨hcz46_0, hcz46_1, hcz46_2, hcz46_3, hcz46_4, hcz46_5, hfz46_0, hfz46_1, hfz46_2, hfz46_3, hfz46_4, hfz46_5⟩ := blkc6 BK257.out
                          go_wp2_with (first | ((with_reducible refine gate_callee (f := 24) rfl ?_); refine goesL_ (some 84) rfl rfl Try.func24 (by kernel_rfl) rfl #[.agg #[.int .i64 a0_0, .int .i64 a0_1, .int .i64 a0_2, .int .i64 a0_3, .int .i64 a0_4, .int .i64 a0_5], .int .i64 t261] rfl (by (try simp only [List.map_toArray, List.map_cons, List.map_nil]); first | done | rfl | (simp only [List.length_drop, List.length_take]; rfl)) ?_; (with_reducible refine (place_What.calls a0_0 a0_1 a0_2 a0_3 a0_4 a0_5 t261 t269 t270 t271 t272 _ A35.out).mono ?_); rintro e w47 ⟨rfl, hb⟩; refine ⟨_, rfl, ?_⟩; have n0_ := Aside0.mk (blk_below (g := gb257) (o := .cells #[.int .i64 a0_0, .int .i64 a0_1, .int .i64 a0_2, .int .i64 a0_3, .int .i64 a0_4, .int .i64 a0_5] 23 (0, 0)) (by (with_reducible repeat (first | refine blk_drewN ?_ _ | refine blk_drew ?_ | refine blk_alloc ?_ _)); exact BK257.out) hb); have n1_ := Aside0.mk (below_step (by repeat (first | (with_reducible first | exact HB.out | apply below_alloc | apply pw_below_drewN | apply below_drew1 | refine below_set ?_ GE257.out) | exact HB.out)) hb); clear BK257; clear HB; have BK257 := n0_; have HB := n1_; clear n0_ n1_; (try clear hb); (try clear hb2); (try clear hk); (try clear hi); obtain ⟨hcz48_0, hcz48_1, hcz48_2, hcz48_3, hcz48_4, hcz48_5, hfz48_0, hfz48_1, hfz48_2, hfz48_3, hfz48_4, hfz48_5⟩ := blkc6 BK257.out) | ((with_reducible refine gate_callee (f := 24) rfl ?_); refine goesL_ (some 117) rfl rfl Try.func24 (by kernel_rfl) rfl #[.agg #[.int .i64 a0_0, .int .i64 a0_1, .int .i64 a0_2, .int .i64 a0_3, .int .i64 a0_4, .int .i64 a0_5], .int .i64 (wrap64 (t263 + (wrap64 (Int.tmod a3 4))))] rfl (by (try simp only [List.map_toArray, List.map_cons, List.map_nil]); first | done | rfl | (simp only [List.length_drop, List.length_take]; rfl)) ?_; (with_reducible refine (place_What.calls a0_0 a0_1 a0_2 a0_3 a0_4 a0_5 (wrap64 (t263 + (wrap64 (Int.tmod a3 4)))) t273 t274 t275 t276 _ A41.out).mono ?_); rintro e w49 ⟨rfl, hb⟩; refine ⟨_, rfl, ?_⟩; have n0_ := Aside0.mk (blk_below (g := gb257) (o := .cells #[.int .i64 a0_0, .int .i64 a0_1, .int .i64 a0_2, .int .i64 a0_3, .int .i64 a0_4, .int .i64 a0_5] 23 (0, 0)) (by (with_reducible repeat (first | refine blk_drewN ?_ _ | refine blk_drew ?_ | refine blk_alloc ?_ _)); exact BK257.out) hb); have n1_ := Aside0.mk (below_step (by repeat (first | (with_reducible first | exact HB.out | apply below_alloc | apply pw_below_drewN | apply below_drew1 | refine below_set ?_ GE257.out) | exact HB.out)) hb); clear BK257; clear HB; have BK257 := n0_; have HB := n1_; clear n0_ n1_; (try clear hb); (try clear hb2); (try clear hk); (try clear hi)))
                          go_ret
                          exact ⟨by first | rfl | (simp [errW_none, errW_some] <;> rfl) | (simp [*, errW_none, errW_some] <;> rfl), by repeat (first | (with_reducible first | exact HB.out | apply below_alloc | apply pw_below_drewN | apply below_drew1 | refine below_set ?_ GE257.out) | exact HB.out)⟩
                        · rw [if_neg c45] at H
                          have c45b0 : (t274 == a1) = false := beq_eq_false_iff_ne.mpr c45
                          have c45b1 : (t274 != a1) = true := bne_iff_ne.mpr c45
                          exact absurd ((Option.some.inj H).trans hT_.out) (by decide)
                      · rw [if_neg c44] at H
                        have c44b0 : (t273 == 4) = false := beq_eq_false_iff_ne.mpr c44
                        have c44b1 : (t273 != 4) = true := bne_iff_ne.mpr c44
                        exact absurd ((Option.some.inj H).trans hT_.out) (by decide)
                    · rw [if_neg c43] at H
                      have c43b0 : (t276 == 0) = false := beq_eq_false_iff_ne.mpr c43
                      have c43b1 : (t276 != 0) = true := bne_iff_ne.mpr c43
                      exact absurd ((Option.some.inj H).trans hT_.out) (by decide)
                  · rw [if_neg c42] at H
                    have c42b0 : (t271 == a2) = false := beq_eq_false_iff_ne.mpr c42
                    have c42b1 : (t271 != a2) = true := bne_iff_ne.mpr c42
                    exact absurd ((Option.some.inj H).trans hT_.out) (by decide)
                · rw [if_neg c40] at H
                  have c40b0 : (t264 == 0) = false := beq_eq_false_iff_ne.mpr c40
                  have c40b1 : (t264 != 0) = true := bne_iff_ne.mpr c40
                  obtain rfl := Option.some.inj H
                  obtain ⟨hcz50_0, hcz50_1, hcz50_2, hcz50_3, hcz50_4, hcz50_5, hfz50_0, hfz50_1, hfz50_2, hfz50_3, hfz50_4, hfz50_5⟩ := blkc6 BK257.out
                  go_wp2_with (first | ((with_reducible refine gate_callee (f := 24) rfl ?_); refine goesL_ (some 84) rfl rfl Try.func24 (by kernel_rfl) rfl #[.agg #[.int .i64 a0_0, .int .i64 a0_1, .int .i64 a0_2, .int .i64 a0_3, .int .i64 a0_4, .int .i64 a0_5], .int .i64 t261] rfl (by (try simp only [List.map_toArray, List.map_cons, List.map_nil]); first | done | rfl | (simp only [List.length_drop, List.length_take]; rfl)) ?_; (with_reducible refine (place_What.calls a0_0 a0_1 a0_2 a0_3 a0_4 a0_5 t261 t269 t270 t271 t272 _ A35.out).mono ?_); rintro e w51 ⟨rfl, hb⟩; refine ⟨_, rfl, ?_⟩; have n0_ := Aside0.mk (blk_below (g := gb257) (o := .cells #[.int .i64 a0_0, .int .i64 a0_1, .int .i64 a0_2, .int .i64 a0_3, .int .i64 a0_4, .int .i64 a0_5] 23 (0, 0)) (by (with_reducible repeat (first | refine blk_drewN ?_ _ | refine blk_drew ?_ | refine blk_alloc ?_ _)); exact BK257.out) hb); have n1_ := Aside0.mk (below_step (by repeat (first | (with_reducible first | exact HB.out | apply below_alloc | apply pw_below_drewN | apply below_drew1 | refine below_set ?_ GE257.out) | exact HB.out)) hb); clear BK257; clear HB; have BK257 := n0_; have HB := n1_; clear n0_ n1_; (try clear hb); (try clear hb2); (try clear hk); (try clear hi)))
                  go_ret
                  exact ⟨by first | rfl | (simp [errW_none, errW_some] <;> rfl) | (simp [*, errW_none, errW_some] <;> rfl), by repeat (first | (with_reducible first | exact HB.out | apply below_alloc | apply pw_below_drewN | apply below_drew1 | refine below_set ?_ GE257.out) | exact HB.out)⟩
              · rw [if_neg c39] at H
                have c39b0 : (t270 == a1) = false := beq_eq_false_iff_ne.mpr c39
                have c39b1 : (t270 != a1) = true := bne_iff_ne.mpr c39
                by_cases c52 : t264 = 0
                · rw [if_pos c52] at H
                  have c52b0 : (t264 == 0) = true := beq_iff_eq.mpr c52
                  have c52b1 : (t264 != 0) = false := bne_eq_false_iff_eq.mpr c52
                  clear c52
                  replace H := Option.bind_eq_some_iff.mp H
                  obtain ⟨⟨t277, t278, t279, t280⟩, A530, H⟩ := H
                  replace H : (some false) = some r := H
                  have A53 := Aside0.mk A530
                  clear A530
                  exact absurd ((Option.some.inj H).trans hT_.out) (by decide)
                · rw [if_neg c52] at H
                  have c52b0 : (t264 == 0) = false := beq_eq_false_iff_ne.mpr c52
                  have c52b1 : (t264 != 0) = true := bne_iff_ne.mpr c52
                  exact absurd ((Option.some.inj H).trans hT_.out) (by decide)
            · rw [if_neg c38] at H
              have c38b0 : (t269 == 3) = false := beq_eq_false_iff_ne.mpr c38
              have c38b1 : (t269 != 3) = true := bne_iff_ne.mpr c38
              by_cases c54 : t264 = 0
              · rw [if_pos c54] at H
                have c54b0 : (t264 == 0) = true := beq_iff_eq.mpr c54
                have c54b1 : (t264 != 0) = false := bne_eq_false_iff_eq.mpr c54
                clear c54
                replace H := Option.bind_eq_some_iff.mp H
                obtain ⟨⟨t281, t282, t283, t284⟩, A550, H⟩ := H
                replace H : (some false) = some r := H
                have A55 := Aside0.mk A550
                clear A550
                exact absurd ((Option.some.inj H).trans hT_.out) (by decide)
              · rw [if_neg c54] at H
                have c54b0 : (t264 == 0) = false := beq_eq_false_iff_ne.mpr c54
                have c54b1 : (t264 != 0) = true := bne_iff_ne.mpr c54
                exact absurd ((Option.some.inj H).trans hT_.out) (by decide)
          · rw [if_neg c37] at H
            have c37b0 : (t272 == 0) = false := beq_eq_false_iff_ne.mpr c37
            have c37b1 : (t272 != 0) = true := bne_iff_ne.mpr c37
            by_cases c56 : t264 = 0
            · rw [if_pos c56] at H
              have c56b0 : (t264 == 0) = true := beq_iff_eq.mpr c56
              have c56b1 : (t264 != 0) = false := bne_eq_false_iff_eq.mpr c56
              clear c56
              replace H := Option.bind_eq_some_iff.mp H
              obtain ⟨⟨t285, t286, t287, t288⟩, A570, H⟩ := H
              replace H : (some false) = some r := H
              have A57 := Aside0.mk A570
              clear A570
              exact absurd ((Option.some.inj H).trans hT_.out) (by decide)
            · rw [if_neg c56] at H
              have c56b0 : (t264 == 0) = false := beq_eq_false_iff_ne.mpr c56
              have c56b1 : (t264 != 0) = true := bne_iff_ne.mpr c56
              exact absurd ((Option.some.inj H).trans hT_.out) (by decide)
        · replace c36 := Bool.eq_false_iff.mpr c36
          subst c36
          have H1 : (if t264 = 0 then ((place_What.f a0_0 a0_1 a0_2 a0_3 a0_4 a0_5 (wrap64 (t263 + (wrap64 (Int.tmod a3 4))))).bind fun bt289 => (some false)) else (some false)) = some r := by rw [if_neg (show ¬ (false = true) by decide)] at H; exact H
          clear H
          have H := H1
          clear H1
          by_cases c58 : t264 = 0
          · rw [if_pos c58] at H
            have c58b0 : (t264 == 0) = true := beq_iff_eq.mpr c58
            have c58b1 : (t264 != 0) = false := bne_eq_false_iff_eq.mpr c58
            clear c58
            replace H := Option.bind_eq_some_iff.mp H
            obtain ⟨⟨t289, t290, t291, t292⟩, A590, H⟩ := H
            replace H : (some false) = some r := H
            have A59 := Aside0.mk A590
            clear A590
            exact absurd ((Option.some.inj H).trans hT_.out) (by decide)
          · rw [if_neg c58] at H
            have c58b0 : (t264 == 0) = false := beq_eq_false_iff_ne.mpr c58
            have c58b1 : (t264 != 0) = true := bne_iff_ne.mpr c58
            exact absurd ((Option.some.inj H).trans hT_.out) (by decide)
      · rw [if_neg c34] at H
        have c34b0 : (t262 == 0) = false := beq_eq_false_iff_ne.mpr c34
        have c34b1 : (t262 != 0) = true := bne_iff_ne.mpr c34
        by_cases c60 : t264 = 0
        · rw [if_pos c60] at H
          have c60b0 : (t264 == 0) = true := beq_iff_eq.mpr c60
          have c60b1 : (t264 != 0) = false := bne_eq_false_iff_eq.mpr c60
          clear c60
          replace H := Option.bind_eq_some_iff.mp H
          obtain ⟨⟨t293, t294, t295, t296⟩, A610, H⟩ := H
          replace H : (if x9_8 = true then (if t296 = 0 then (if t293 = 4 then (if t294 = a1 then (some (t295 == a2)) else (some false)) else (some false)) else (some false)) else (some false)) = some r := H
          have A61 := Aside0.mk A610
          clear A610
          by_cases c62 : x9_8 = true
          · subst c62
            have H1 : (if t296 = 0 then (if t293 = 4 then (if t294 = a1 then (some (t295 == a2)) else (some false)) else (some false)) else (some false)) = some r := by rw [if_pos rfl] at H; exact H
            clear H
            have H := H1
            clear H1
            by_cases c63 : t296 = 0
            · rw [if_pos c63] at H
              have c63b0 : (t296 == 0) = true := beq_iff_eq.mpr c63
              have c63b1 : (t296 != 0) = false := bne_eq_false_iff_eq.mpr c63
              clear c63
              by_cases c64 : t293 = 4
              · rw [if_pos c64] at H
                have c64b0 : (t293 == 4) = true := beq_iff_eq.mpr c64
                have c64b1 : (t293 != 4) = false := bne_eq_false_iff_eq.mpr c64
                clear c64
                by_cases c65 : t294 = a1
                · rw [if_pos c65] at H
                  have c65b0 : (t294 == a1) = true := beq_iff_eq.mpr c65
                  have c65b1 : (t294 != a1) = false := bne_eq_false_iff_eq.mpr c65
                  clear c65
                  obtain rfl := Option.some.inj H
                  obtain ⟨hcz66_0, hcz66_1, hcz66_2, hcz66_3, hcz66_4, hcz66_5, hfz66_0, hfz66_1, hfz66_2, hfz66_3, hfz66_4, hfz66_5⟩ := blkc6 BK257.out
                  go_wp2_with (first | ((with_reducible refine gate_callee (f := 24) rfl ?_); refine goesL_ (some 117) rfl rfl Try.func24 (by kernel_rfl) rfl #[.agg #[.int .i64 a0_0, .int .i64 a0_1, .int .i64 a0_2, .int .i64 a0_3, .int .i64 a0_4, .int .i64 a0_5], .int .i64 (wrap64 (t263 + (wrap64 (Int.tmod a3 4))))] rfl (by (try simp only [List.map_toArray, List.map_cons, List.map_nil]); first | done | rfl | (simp only [List.length_drop, List.length_take]; rfl)) ?_; (with_reducible refine (place_What.calls a0_0 a0_1 a0_2 a0_3 a0_4 a0_5 (wrap64 (t263 + (wrap64 (Int.tmod a3 4)))) t293 t294 t295 t296 _ A61.out).mono ?_); rintro e w67 ⟨rfl, hb⟩; refine ⟨_, rfl, ?_⟩; have n0_ := Aside0.mk (blk_below (g := gb257) (o := .cells #[.int .i64 a0_0, .int .i64 a0_1, .int .i64 a0_2, .int .i64 a0_3, .int .i64 a0_4, .int .i64 a0_5] 23 (0, 0)) (by (with_reducible repeat (first | refine blk_drewN ?_ _ | refine blk_drew ?_ | refine blk_alloc ?_ _)); exact BK257.out) hb); have n1_ := Aside0.mk (below_step (by repeat (first | (with_reducible first | exact HB.out | apply below_alloc | apply pw_below_drewN | apply below_drew1 | refine below_set ?_ GE257.out) | exact HB.out)) hb); clear BK257; clear HB; have BK257 := n0_; have HB := n1_; clear n0_ n1_; (try clear hb); (try clear hb2); (try clear hk); (try clear hi)))
                  go_ret
                  exact ⟨by first | rfl | (simp [errW_none, errW_some] <;> rfl) | (simp [*, errW_none, errW_some] <;> rfl), by repeat (first | (with_reducible first | exact HB.out | apply below_alloc | apply pw_below_drewN | apply below_drew1 | refine below_set ?_ GE257.out) | exact HB.out)⟩
                · rw [if_neg c65] at H
                  have c65b0 : (t294 == a1) = false := beq_eq_false_iff_ne.mpr c65
                  have c65b1 : (t294 != a1) = true := bne_iff_ne.mpr c65
                  exact absurd ((Option.some.inj H).trans hT_.out) (by decide)
              · rw [if_neg c64] at H
                have c64b0 : (t293 == 4) = false := beq_eq_false_iff_ne.mpr c64
                have c64b1 : (t293 != 4) = true := bne_iff_ne.mpr c64
                exact absurd ((Option.some.inj H).trans hT_.out) (by decide)
            · rw [if_neg c63] at H
              have c63b0 : (t296 == 0) = false := beq_eq_false_iff_ne.mpr c63
              have c63b1 : (t296 != 0) = true := bne_iff_ne.mpr c63
              exact absurd ((Option.some.inj H).trans hT_.out) (by decide)
          · replace c62 := Bool.eq_false_iff.mpr c62
            subst c62
            have H1 : (some false) = some r := by rw [if_neg (show ¬ (false = true) by decide)] at H; exact H
            clear H
            have H := H1
            clear H1
            exact absurd ((Option.some.inj H).trans hT_.out) (by decide)
        · rw [if_neg c60] at H
          have c60b0 : (t264 == 0) = false := beq_eq_false_iff_ne.mpr c60
          have c60b1 : (t264 != 0) = true := bne_iff_ne.mpr c60
          obtain rfl := Option.some.inj H
          go_wp2
          go_ret
          exact ⟨by first | rfl | (simp [errW_none, errW_some] <;> rfl) | (simp [*, errW_none, errW_some] <;> rfl), by repeat (first | (with_reducible first | exact HB.out | apply below_alloc | apply pw_below_drewN | apply below_drew1 | refine below_set ?_ GE257.out) | exact HB.out)⟩

/-- THE ONE PURE STATEMENT of catamaranlaw07_PlaceBack: yours. -/
def catamaranlaw07_PlaceBack.Pure : Prop := ∀ (a0_0 : Int) (a0_1 : Int) (a0_2 : Int) (a0_3 : Int) (a0_4 : Int) (a0_5 : Int) (a1 : Int) (a2 : Int) (a3 : Int), (Lit.int .i64 a0_0).wf = true → (Lit.int .i64 a0_1).wf = true → (Lit.int .i64 a0_2).wf = true → (Lit.int .i64 a0_3).wf = true → (Lit.int .i64 a0_4).wf = true → (Lit.int .i64 a0_5).wf = true → (Lit.int .i64 a1).wf = true → (Lit.int .i64 a2).wf = true → (Lit.int .u8 a3).wf = true → ∃ k, catamaranlaw07_PlaceBack.f k a0_0 a0_1 a0_2 a0_3 a0_4 a0_5 a1 a2 a3 = some true
theorem catamaranlaw07_PlaceBack.walk (P : catamaranlaw07_PlaceBack.Pure) (a0_0 : Int) (a0_1 : Int) (a0_2 : Int) (a0_3 : Int) (a0_4 : Int) (a0_5 : Int) (a1 : Int) (a2 : Int) (a3 : Int) (w : World)  (w0_0 : (Lit.int .i64 a0_0).wf = true) (w0_1 : (Lit.int .i64 a0_1).wf = true) (w0_2 : (Lit.int .i64 a0_2).wf = true) (w0_3 : (Lit.int .i64 a0_3).wf = true) (w0_4 : (Lit.int .i64 a0_4).wf = true) (w0_5 : (Lit.int .i64 a0_5).wf = true) (w1 : (Lit.int .i64 a1).wf = true) (w2 : (Lit.int .i64 a2).wf = true) (w3 : (Lit.int .u8 a3).wf = true) :
    Calls Try.prog 6 #[.agg #[.int .i64 a0_0, .int .i64 a0_1, .int .i64 a0_2, .int .i64 a0_3, .int .i64 a0_4, .int .i64 a0_5], .int .i64 a1, .int .i64 a2, .int .u8 a3] w fun e w' => e = .returned (.bool true) ∧ Below w.heap.size w w' := by
  obtain ⟨k, h⟩ := P a0_0 a0_1 a0_2 a0_3 a0_4 a0_5 a1 a2 a3 w0_0 w0_1 w0_2 w0_3 w0_4 w0_5 w1 w2 w3
  refine (catamaranlaw07_PlaceBack.calls k a0_0 a0_1 a0_2 a0_3 a0_4 a0_5 a1 a2 a3 true w h ⟨rfl⟩).mono ?_
  rintro e w' ⟨rfl, hd⟩
  exact ⟨rfl, hd⟩

end Go.Proofs.Ytammdlgpelljmaa.PPl
