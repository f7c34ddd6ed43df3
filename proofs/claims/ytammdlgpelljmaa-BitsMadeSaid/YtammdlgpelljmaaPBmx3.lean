-- written by wip/myprint.py out of the translation
import Derived.Test.YtammdlgpelljmaaPBmx0
import Derived.Test.YtammdlgpelljmaaPBmx1
import Derived.Test.YtammdlgpelljmaaPBmx2
namespace Go.Proofs.Ytammdlgpelljmaa.PBm
open Go.RowKit Go.Proofs.YtammdlgpelljmaaW.PrintWords Go.Proofs.YtammdlgpelljmaaW.PrintLast Go.Proofs.YtammdlgpelljmaaW.PrintMore
attribute [local go_sem] max2_int min2_int max_two min_two max_three min_three max_four min_four   -- for this text's walks alone
set_option linter.unusedVariables false
set_option linter.unusedSimpArgs false

/-! ### catamaranlaw03_BitsMade: function 8 -/
mutual
def catamaranlaw03_BitsMade.j0 : Nat → Int → List Int → List Int → Bool → Option (Bool)
  | 0, _, _, _, _ => none
  | k + 1, x0, x1, x2, x26 => if x26 = true then (some true) else ((some (([] : List Int) : List Int)).bind fun y144 => (if y144.length + x1.length < 140737488355328 then ((some (y144 ++ x1 : List Int)).bind fun y147 => ((some (([] : List Int) : List Int)).bind fun y150 => (if y150.length + x2.length < 17592186044416 then ((some (y150 ++ x2 : List Int)).bind fun y153 => ((bits_Of.f x0 y153).bind fun bt156 => ((catamaranref03_Of.f k x0 x2).bind fun bt160 => ((bits_All.f x0).bind fun bt164 => ((catamaranref03_All.f k x0).bind fun bt168 => (if (strOfNums bt156.1).toList = (strOfNums bt160.1).toList then (if bt156.2 = bt160.2 then (if (strOfNums bt164.1).toList = (strOfNums bt168.1).toList then (if bt164.2 = bt168.2 then ((bits_Check.f k x0 y147).bind fun t172 => ((catamaranref03_Check.f k x0 x1).bind fun t173 => (catamaranlaw03_BitsMade.j1 k x1 x2 y147 y153 bt156.1 (t172 == t173)))) else (catamaranlaw03_BitsMade.j1 k x1 x2 y147 y153 bt156.1 false)) else (catamaranlaw03_BitsMade.j1 k x1 x2 y147 y153 bt156.1 false)) else (catamaranlaw03_BitsMade.j1 k x1 x2 y147 y153 bt156.1 false)) else (catamaranlaw03_BitsMade.j1 k x1 x2 y147 y153 bt156.1 false))))))) else (none)))) else (none)))
def catamaranlaw03_BitsMade.j1 : Nat → List Int → List Int → List Int → List Int → List Int → Bool → Option (Bool)
  | 0, _, _, _, _, _, _ => none
  | k + 1, x1, x2, x7, x8, x9, x17 => catamaranlaw03_BitsMade.l0 k x1 x2 x7 x8 x9 x17 0
def catamaranlaw03_BitsMade.l0 : Nat → List Int → List Int → List Int → List Int → List Int → Bool → Int → Option (Bool)
  | 0, _, _, _, _, _, _, _ => none
  | k + 1, x1, x2, x7, x8, x9, x17, x18 => if x18 < (x9.length : Int) then (if 0 ≤ x18 then (catamaranlaw03_BitsMade.l0 k x1 x2 x7 x8 (x9.set (x18 : Int).toNat 7) x17 (wrap64 (x18 + 1))) else (none)) else (if x17 = true then (if (strOfNums x7).toList = (strOfNums x1).toList then ((catamaranref03_SameInts.f k x8 x2).bind fun t175 => (some t175)) else (some false)) else (some false))
end
def catamaranlaw03_BitsMade.f (k : Nat) (a0 : Int) (l1 : List Int) (l2 : List Int) : Option (Bool) := if (l1.length : Int) > 100 then (catamaranlaw03_BitsMade.j0 k a0 l1 l2 true) else (catamaranlaw03_BitsMade.j0 k a0 l1 l2 (decide ((l2.length : Int) > 100)))
theorem catamaranlaw03_BitsMade.mono_l : ∀ k, (∀ y0 y1 y2 y3, LeO (catamaranlaw03_BitsMade.j0 k y0 y1 y2 y3) (catamaranlaw03_BitsMade.j0 (k + 1) y0 y1 y2 y3)) ∧ (∀ y0 y1 y2 y3 y4 y5, LeO (catamaranlaw03_BitsMade.j1 k y0 y1 y2 y3 y4 y5) (catamaranlaw03_BitsMade.j1 (k + 1) y0 y1 y2 y3 y4 y5)) ∧ (∀ y0 y1 y2 y3 y4 y5 y6, LeO (catamaranlaw03_BitsMade.l0 k y0 y1 y2 y3 y4 y5 y6) (catamaranlaw03_BitsMade.l0 (k + 1) y0 y1 y2 y3 y4 y5 y6))
  | 0 => ⟨fun _ _ _ _ r h => by simp [catamaranlaw03_BitsMade.j0] at h, fun _ _ _ _ _ _ r h => by simp [catamaranlaw03_BitsMade.j1] at h, fun _ _ _ _ _ _ _ r h => by simp [catamaranlaw03_BitsMade.l0] at h⟩
  | k + 1 => by
    obtain ⟨ih0, ih1, ih2⟩ := catamaranlaw03_BitsMade.mono_l k
    refine ⟨?_, ?_, ?_⟩
    · intro y0 y1 y2 y3
      unfold catamaranlaw03_BitsMade.j0
      repeat' first
      | (with_reducible exact ih0 _ _ _ _)
      | (with_reducible exact ih1 _ _ _ _ _ _)
      | (with_reducible exact ih2 _ _ _ _ _ _ _)
      | (with_reducible exact bits_Check.mono _ _ _)
      | (with_reducible exact catamaranref03_All.mono _ _)
      | (with_reducible exact catamaranref03_Check.mono _ _ _)
      | (with_reducible exact catamaranref03_Of.mono _ _ _)
      | (with_reducible exact catamaranref03_SameInts.mono _ _ _)
      | (with_reducible exact LeO.refl _)
      | (with_reducible exact LeO.none _)
      | (with_reducible refine LeO.ite ?_ ?_)
      | (with_reducible refine LeO.bind ?_ (fun _ => ?_))
      | exact ih0 _ _ _ _
      | exact ih1 _ _ _ _ _ _
      | exact ih2 _ _ _ _ _ _ _
      | exact bits_Check.mono _ _ _
      | exact catamaranref03_All.mono _ _
      | exact catamaranref03_Check.mono _ _ _
      | exact catamaranref03_Of.mono _ _ _
      | exact catamaranref03_SameInts.mono _ _ _
      | exact LeO.none _
      | refine LeO.ite ?_ ?_
      | refine LeO.bind ?_ (fun _ => ?_)
    · intro y0 y1 y2 y3 y4 y5
      unfold catamaranlaw03_BitsMade.j1
      repeat' first
      | (with_reducible exact ih0 _ _ _ _)
      | (with_reducible exact ih1 _ _ _ _ _ _)
      | (with_reducible exact ih2 _ _ _ _ _ _ _)
      | (with_reducible exact bits_Check.mono _ _ _)
      | (with_reducible exact catamaranref03_All.mono _ _)
      | (with_reducible exact catamaranref03_Check.mono _ _ _)
      | (with_reducible exact catamaranref03_Of.mono _ _ _)
      | (with_reducible exact catamaranref03_SameInts.mono _ _ _)
      | (with_reducible exact LeO.refl _)
      | (with_reducible exact LeO.none _)
      | (with_reducible refine LeO.ite ?_ ?_)
      | (with_reducible refine LeO.bind ?_ (fun _ => ?_))
      | exact ih0 _ _ _ _
      | exact ih1 _ _ _ _ _ _
      | exact ih2 _ _ _ _ _ _ _
      | exact bits_Check.mono _ _ _
      | exact catamaranref03_All.mono _ _
      | exact catamaranref03_Check.mono _ _ _
      | exact catamaranref03_Of.mono _ _ _
      | exact catamaranref03_SameInts.mono _ _ _
      | exact LeO.none _
      | refine LeO.ite ?_ ?_
      | refine LeO.bind ?_ (fun _ => ?_)
    · intro y0 y1 y2 y3 y4 y5 y6
      unfold catamaranlaw03_BitsMade.l0
      repeat' first
      | (with_reducible exact ih0 _ _ _ _)
      | (with_reducible exact ih1 _ _ _ _ _ _)
      | (with_reducible exact ih2 _ _ _ _ _ _ _)
      | (with_reducible exact bits_Check.mono _ _ _)
      | (with_reducible exact catamaranref03_All.mono _ _)
      | (with_reducible exact catamaranref03_Check.mono _ _ _)
      | (with_reducible exact catamaranref03_Of.mono _ _ _)
      | (with_reducible exact catamaranref03_SameInts.mono _ _ _)
      | (with_reducible exact LeO.refl _)
      | (with_reducible exact LeO.none _)
      | (with_reducible refine LeO.ite ?_ ?_)
      | (with_reducible refine LeO.bind ?_ (fun _ => ?_))
      | exact ih0 _ _ _ _
      | exact ih1 _ _ _ _ _ _
      | exact ih2 _ _ _ _ _ _ _
      | exact bits_Check.mono _ _ _
      | exact catamaranref03_All.mono _ _
      | exact catamaranref03_Check.mono _ _ _
      | exact catamaranref03_Of.mono _ _ _
      | exact catamaranref03_SameInts.mono _ _ _
      | exact LeO.none _
      | refine LeO.ite ?_ ?_
      | refine LeO.bind ?_ (fun _ => ?_)
theorem catamaranlaw03_BitsMade.mono : ∀ a0 a1 a2 k, LeO (catamaranlaw03_BitsMade.f k a0 a1 a2) (catamaranlaw03_BitsMade.f (k + 1) a0 a1 a2) := by
  intro a0 a1 a2 k
  obtain ⟨ih0, ih1, ih2⟩ := catamaranlaw03_BitsMade.mono_l k
  unfold catamaranlaw03_BitsMade.f
  repeat' first
      | (with_reducible exact ih0 _ _ _ _)
      | (with_reducible exact ih1 _ _ _ _ _ _)
      | (with_reducible exact ih2 _ _ _ _ _ _ _)
      | (with_reducible exact bits_Check.mono _ _ _)
      | (with_reducible exact catamaranref03_All.mono _ _)
      | (with_reducible exact catamaranref03_Check.mono _ _ _)
      | (with_reducible exact catamaranref03_Of.mono _ _ _)
      | (with_reducible exact catamaranref03_SameInts.mono _ _ _)
      | (with_reducible exact LeO.refl _)
      | (with_reducible exact LeO.none _)
      | (with_reducible refine LeO.ite ?_ ?_)
      | (with_reducible refine LeO.bind ?_ (fun _ => ?_))
      | exact ih0 _ _ _ _
      | exact ih1 _ _ _ _ _ _
      | exact ih2 _ _ _ _ _ _ _
      | exact bits_Check.mono _ _ _
      | exact catamaranref03_All.mono _ _
      | exact catamaranref03_Check.mono _ _ _
      | exact catamaranref03_Of.mono _ _ _
      | exact catamaranref03_SameInts.mono _ _ _
      | exact LeO.none _
      | refine LeO.ite ?_ ?_
      | refine LeO.bind ?_ (fun _ => ?_)
set_option maxHeartbeats 8000000 in
set_option maxRecDepth 100000 in
theorem catamaranlaw03_BitsMade.calls (k : Nat) (a0 : Int) (A1 : Option Addr) (c1 : Nat) (l1 : List Int) (A2 : Option Addr) (c2 : Nat) (l2 : List Int) (r : Bool) (w : World) (hr1 : Kd.C (Kd.int .u8) w A1 l1.length l1) (hc1 : l1.length ≤ c1) (hr2 : Kd.C (Kd.int .i64) w A2 l2.length l2) (hc2 : l2.length ≤ c2) (h : catamaranlaw03_BitsMade.f k a0 l1 l2 = some r) (hT_ : Aside0 (r = true)) :
    Calls Try.prog 8 #[.int .i64 a0, .slice A1 l1.length c1, .slice A2 l2.length c2] w fun e w' => e = .returned (.bool r) ∧ Below w.heap.size w w' := by
  have HR1 := Aside0.mk hr1
  have HC1 := Aside0.mk hc1
  clear hr1 hc1
  have HR2 := Aside0.mk hr2
  have HC2 := Aside0.mk hc2
  clear hr2 hc2
  have HB := Aside0.mk (Below.refl w.heap.size w)
  have H : (if (l1.length : Int) > 100 then (catamaranlaw03_BitsMade.j0 k a0 l1 l2 true) else (catamaranlaw03_BitsMade.j0 k a0 l1 l2 (decide ((l2.length : Int) > 100)))) = some r := h
  clear h
  have HC4 := Aside0.mk H
  clear H
  go_enter Try.func8, Try.ntmps8
  go_upto_region 1 with (fail)
  go_cut [26] (fun v26 wc => ∃ (kq : Nat) (x26_3 : Bool), v26 = .bool x26_3 ∧ Aside0 (catamaranlaw03_BitsMade.j0 kq a0 l1 l2 x26_3 = some r) ∧ Aside0 (kq ≤ k) ∧ Aside0 (Below w.heap.size w wc))
  case first =>
    have H := HC4.out
    clear HC4
    by_cases c5 : (l1.length : Int) > 100
    · rw [if_pos c5] at H
      have c5b0 : decide (100 < (l1.length : Int)) = true := decide_eq_true c5
      have c5b1 : decide (100 < l1.length) = true := decide_eq_true (by omega)
      clear c5
      (first | rw [c5b0] | (simp only [i64_w, i32_w]; rw [c5b0]) | skip)
      have H' := Aside0.mk H
      clear H
      go_wp2
      (first | go_meet | (refine Go.Met.intro ?_; go_step; (repeat apply Exists.intro); refine ⟨?rel, ?eqf⟩; case eqf => ((try rw [c5b0]); (first | done | rfl))))
      case rel => exact ⟨_, (true), (by first | rfl | (simp; done) | (simp [*]; done)), H', ⟨by first | omega | exact Nat.le_refl _⟩, ⟨by repeat (first | (with_reducible first | exact HB.out | apply below_alloc | apply pw_below_drewN | apply below_drew1) | exact HB.out)⟩⟩
    · rw [if_neg c5] at H
      have c5b0 : decide (100 < (l1.length : Int)) = false := decide_eq_false c5
      have c5b1 : decide (100 < l1.length) = false := decide_eq_false (by omega)
      clear c5
      (first | rw [c5b0] | (simp only [i64_w, i32_w]; rw [c5b0]) | skip)
      have H' := Aside0.mk H
      clear H
      go_wp2
      (first | go_meet | (refine Go.Met.intro ?_; go_step; (repeat apply Exists.intro); refine ⟨?rel, ?eqf⟩; case eqf => ((try rw [c5b0]); (first | done | rfl))))
      case rel => exact ⟨_, (decide ((l2.length : Int) > 100)), (by first | rfl | (simp; done) | (simp [*]; done)), H', ⟨by first | omega | exact Nat.le_refl _⟩, ⟨by repeat (first | (with_reducible first | exact HB.out | apply below_alloc | apply pw_below_drewN | apply below_drew1) | exact HB.out)⟩⟩
  case rest =>
    clear HC4
    try clear c1
    try clear c2
    try clear p2
    try clear c5
    try clear c5b0
    try clear c5b1
    obtain ⟨kq, x26_3, rfl, HA, HJ3, HB⟩ := hcut
    cases kq with
    | zero => exact absurd HA.out (by simp [catamaranlaw03_BitsMade.j0])
    | succ kj3 =>
      have H := HA.out
      clear HA
      simp only [catamaranlaw03_BitsMade.j0] at H
      by_cases c6 : x26_3 = true
      · subst c6
        have H1 : (some true) = some r := by rw [if_pos rfl] at H; exact H
        clear H
        have H := H1
        clear H1
        obtain rfl := Option.some.inj H
        go_wp2
        go_ret
        exact ⟨by first | rfl | (simp [errW_none, errW_some] <;> rfl) | (simp [*, errW_none, errW_some] <;> rfl), by repeat (first | (with_reducible first | exact HB.out | apply below_alloc | apply pw_below_drewN | apply below_drew1) | exact HB.out)⟩
      · replace c6 := Bool.eq_false_iff.mpr c6
        subst c6
        have H1 : ((some (([] : List Int) : List Int)).bind fun y144 => (if y144.length + l1.length < 140737488355328 then ((some (y144 ++ l1 : List Int)).bind fun y147 => ((some (([] : List Int) : List Int)).bind fun y150 => (if y150.length + l2.length < 17592186044416 then ((some (y150 ++ l2 : List Int)).bind fun y153 => ((bits_Of.f a0 y153).bind fun bt156 => ((catamaranref03_Of.f kj3 a0 l2).bind fun bt160 => ((bits_All.f a0).bind fun bt164 => ((catamaranref03_All.f kj3 a0).bind fun bt168 => (if (strOfNums bt156.1).toList = (strOfNums bt160.1).toList then (if bt156.2 = bt160.2 then (if (strOfNums bt164.1).toList = (strOfNums bt168.1).toList then (if bt164.2 = bt168.2 then ((bits_Check.f kj3 a0 y147).bind fun t172 => ((catamaranref03_Check.f kj3 a0 l1).bind fun t173 => (catamaranlaw03_BitsMade.j1 kj3 l1 l2 y147 y153 bt156.1 (t172 == t173)))) else (catamaranlaw03_BitsMade.j1 kj3 l1 l2 y147 y153 bt156.1 false)) else (catamaranlaw03_BitsMade.j1 kj3 l1 l2 y147 y153 bt156.1 false)) else (catamaranlaw03_BitsMade.j1 kj3 l1 l2 y147 y153 bt156.1 false)) else (catamaranlaw03_BitsMade.j1 kj3 l1 l2 y147 y153 bt156.1 false))))))) else (none)))) else (none))) = some r := by rw [if_neg (show ¬ (false = true) by decide)] at H; exact H
        clear H
        have H := H1
        clear H1
        obtain ⟨y144, hy144⟩ : ∃ y_ : List Int, y_ = (([] : List Int)) := ⟨_, rfl⟩
        replace H : (if y144.length + l1.length < 140737488355328 then ((some (y144 ++ l1 : List Int)).bind fun y147 => ((some (([] : List Int) : List Int)).bind fun y150 => (if y150.length + l2.length < 17592186044416 then ((some (y150 ++ l2 : List Int)).bind fun y153 => ((bits_Of.f a0 y153).bind fun bt156 => ((catamaranref03_Of.f kj3 a0 l2).bind fun bt160 => ((bits_All.f a0).bind fun bt164 => ((catamaranref03_All.f kj3 a0).bind fun bt168 => (if (strOfNums bt156.1).toList = (strOfNums bt160.1).toList then (if bt156.2 = bt160.2 then (if (strOfNums bt164.1).toList = (strOfNums bt168.1).toList then (if bt164.2 = bt168.2 then ((bits_Check.f kj3 a0 y147).bind fun t172 => ((catamaranref03_Check.f kj3 a0 l1).bind fun t173 => (catamaranlaw03_BitsMade.j1 kj3 l1 l2 y147 y153 bt156.1 (t172 == t173)))) else (catamaranlaw03_BitsMade.j1 kj3 l1 l2 y147 y153 bt156.1 false)) else (catamaranlaw03_BitsMade.j1 kj3 l1 l2 y147 y153 bt156.1 false)) else (catamaranlaw03_BitsMade.j1 kj3 l1 l2 y147 y153 bt156.1 false)) else (catamaranlaw03_BitsMade.j1 kj3 l1 l2 y147 y153 bt156.1 false))))))) else (none)))) else (none)) = some r := by first | (rw [hy144]; with_reducible exact H) | (have H2_ := (Option.bind_some _ _).symm.trans H; rw [hy144]; with_reducible exact H2_) | (have H2_ := (Option.bind_some _ _).symm.trans H; with_reducible exact H2_) | with_reducible exact H | (rw [hy144]; exact H) | exact H
        have Ny144 := Aside0.mk hy144
        clear hy144
        by_cases c7 : y144.length + l1.length < 140737488355328
        · rw [if_pos c7] at H
          have LMc7 := Aside0.mk c7
          clear c7
          obtain ⟨y147, hy147⟩ : ∃ y_ : List Int, y_ = (y144 ++ l1) := ⟨_, rfl⟩
          replace H : ((some (([] : List Int) : List Int)).bind fun y150 => (if y150.length + l2.length < 17592186044416 then ((some (y150 ++ l2 : List Int)).bind fun y153 => ((bits_Of.f a0 y153).bind fun bt156 => ((catamaranref03_Of.f kj3 a0 l2).bind fun bt160 => ((bits_All.f a0).bind fun bt164 => ((catamaranref03_All.f kj3 a0).bind fun bt168 => (if (strOfNums bt156.1).toList = (strOfNums bt160.1).toList then (if bt156.2 = bt160.2 then (if (strOfNums bt164.1).toList = (strOfNums bt168.1).toList then (if bt164.2 = bt168.2 then ((bits_Check.f kj3 a0 y147).bind fun t172 => ((catamaranref03_Check.f kj3 a0 l1).bind fun t173 => (catamaranlaw03_BitsMade.j1 kj3 l1 l2 y147 y153 bt156.1 (t172 == t173)))) else (catamaranlaw03_BitsMade.j1 kj3 l1 l2 y147 y153 bt156.1 false)) else (catamaranlaw03_BitsMade.j1 kj3 l1 l2 y147 y153 bt156.1 false)) else (catamaranlaw03_BitsMade.j1 kj3 l1 l2 y147 y153 bt156.1 false)) else (catamaranlaw03_BitsMade.j1 kj3 l1 l2 y147 y153 bt156.1 false))))))) else (none))) = some r := by first | (rw [hy147]; with_reducible exact H) | (have H2_ := (Option.bind_some _ _).symm.trans H; rw [hy147]; with_reducible exact H2_) | (have H2_ := (Option.bind_some _ _).symm.trans H; with_reducible exact H2_) | with_reducible exact H | (rw [hy147]; exact H) | exact H
          have Ny147 := Aside0.mk hy147
          clear hy147
          obtain ⟨y150, hy150⟩ : ∃ y_ : List Int, y_ = (([] : List Int)) := ⟨_, rfl⟩
          replace H : (if y150.length + l2.length < 17592186044416 then ((some (y150 ++ l2 : List Int)).bind fun y153 => ((bits_Of.f a0 y153).bind fun bt156 => ((catamaranref03_Of.f kj3 a0 l2).bind fun bt160 => ((bits_All.f a0).bind fun bt164 => ((catamaranref03_All.f kj3 a0).bind fun bt168 => (if (strOfNums bt156.1).toList = (strOfNums bt160.1).toList then (if bt156.2 = bt160.2 then (if (strOfNums bt164.1).toList = (strOfNums bt168.1).toList then (if bt164.2 = bt168.2 then ((bits_Check.f kj3 a0 y147).bind fun t172 => ((catamaranref03_Check.f kj3 a0 l1).bind fun t173 => (catamaranlaw03_BitsMade.j1 kj3 l1 l2 y147 y153 bt156.1 (t172 == t173)))) else (catamaranlaw03_BitsMade.j1 kj3 l1 l2 y147 y153 bt156.1 false)) else (catamaranlaw03_BitsMade.j1 kj3 l1 l2 y147 y153 bt156.1 false)) else (catamaranlaw03_BitsMade.j1 kj3 l1 l2 y147 y153 bt156.1 false)) else (catamaranlaw03_BitsMade.j1 kj3 l1 l2 y147 y153 bt156.1 false))))))) else (none)) = some r := by first | (rw [hy150]; with_reducible exact H) | (have H2_ := (Option.bind_some _ _).symm.trans H; rw [hy150]; with_reducible exact H2_) | (have H2_ := (Option.bind_some _ _).symm.trans H; with_reducible exact H2_) | with_reducible exact H | (rw [hy150]; exact H) | exact H
          have Ny150 := Aside0.mk hy150
          clear hy150
          by_cases c8 : y150.length + l2.length < 17592186044416
          · rw [if_pos c8] at H
            have LMc8 := Aside0.mk c8
            clear c8
            obtain ⟨y153, hy153⟩ : ∃ y_ : List Int, y_ = (y150 ++ l2) := ⟨_, rfl⟩
            replace H : ((bits_Of.f a0 y153).bind fun bt156 => ((catamaranref03_Of.f kj3 a0 l2).bind fun bt160 => ((bits_All.f a0).bind fun bt164 => ((catamaranref03_All.f kj3 a0).bind fun bt168 => (if (strOfNums bt156.1).toList = (strOfNums bt160.1).toList then (if bt156.2 = bt160.2 then (if (strOfNums bt164.1).toList = (strOfNums bt168.1).toList then (if bt164.2 = bt168.2 then ((bits_Check.f kj3 a0 y147).bind fun t172 => ((catamaranref03_Check.f kj3 a0 l1).bind fun t173 => (catamaranlaw03_BitsMade.j1 kj3 l1 l2 y147 y153 bt156.1 (t172 == t173)))) else (catamaranlaw03_BitsMade.j1 kj3 l1 l2 y147 y153 bt156.1 false)) else (catamaranlaw03_BitsMade.j1 kj3 l1 l2 y147 y153 bt156.1 false)) else (catamaranlaw03_BitsMade.j1 kj3 l1 l2 y147 y153 bt156.1 false)) else (catamaranlaw03_BitsMade.j1 kj3 l1 l2 y147 y153 bt156.1 false)))))) = some r := by first | (rw [hy153]; with_reducible exact H) | (have H2_ := (Option.bind_some _ _).symm.trans H; rw [hy153]; with_reducible exact H2_) | (have H2_ := (Option.bind_some _ _).symm.trans H; with_reducible exact H2_) | with_reducible exact H | (rw [hy153]; exact H) | exact H
            have Ny153 := Aside0.mk hy153
            clear hy153
            replace H := Option.bind_eq_some_iff.mp H
            obtain ⟨⟨t156, t157⟩, A90, H⟩ := H
            replace H : ((catamaranref03_Of.f kj3 a0 l2).bind fun bt160 => ((bits_All.f a0).bind fun bt164 => ((catamaranref03_All.f kj3 a0).bind fun bt168 => (if (strOfNums t156).toList = (strOfNums bt160.1).toList then (if t157 = bt160.2 then (if (strOfNums bt164.1).toList = (strOfNums bt168.1).toList then (if bt164.2 = bt168.2 then ((bits_Check.f kj3 a0 y147).bind fun t172 => ((catamaranref03_Check.f kj3 a0 l1).bind fun t173 => (catamaranlaw03_BitsMade.j1 kj3 l1 l2 y147 y153 t156 (t172 == t173)))) else (catamaranlaw03_BitsMade.j1 kj3 l1 l2 y147 y153 t156 false)) else (catamaranlaw03_BitsMade.j1 kj3 l1 l2 y147 y153 t156 false)) else (catamaranlaw03_BitsMade.j1 kj3 l1 l2 y147 y153 t156 false)) else (catamaranlaw03_BitsMade.j1 kj3 l1 l2 y147 y153 t156 false))))) = some r := H
            have A9 := Aside0.mk A90
            clear A90
            replace H := Option.bind_eq_some_iff.mp H
            obtain ⟨⟨t160, t161⟩, A100, H⟩ := H
            replace H : ((bits_All.f a0).bind fun bt164 => ((catamaranref03_All.f kj3 a0).bind fun bt168 => (if (strOfNums t156).toList = (strOfNums t160).toList then (if t157 = t161 then (if (strOfNums bt164.1).toList = (strOfNums bt168.1).toList then (if bt164.2 = bt168.2 then ((bits_Check.f kj3 a0 y147).bind fun t172 => ((catamaranref03_Check.f kj3 a0 l1).bind fun t173 => (catamaranlaw03_BitsMade.j1 kj3 l1 l2 y147 y153 t156 (t172 == t173)))) else (catamaranlaw03_BitsMade.j1 kj3 l1 l2 y147 y153 t156 false)) else (catamaranlaw03_BitsMade.j1 kj3 l1 l2 y147 y153 t156 false)) else (catamaranlaw03_BitsMade.j1 kj3 l1 l2 y147 y153 t156 false)) else (catamaranlaw03_BitsMade.j1 kj3 l1 l2 y147 y153 t156 false)))) = some r := H
            have A10 := Aside0.mk A100
            clear A100
            replace H := Option.bind_eq_some_iff.mp H
            obtain ⟨⟨t164, t165⟩, A110, H⟩ := H
            replace H : ((catamaranref03_All.f kj3 a0).bind fun bt168 => (if (strOfNums t156).toList = (strOfNums t160).toList then (if t157 = t161 then (if (strOfNums t164).toList = (strOfNums bt168.1).toList then (if t165 = bt168.2 then ((bits_Check.f kj3 a0 y147).bind fun t172 => ((catamaranref03_Check.f kj3 a0 l1).bind fun t173 => (catamaranlaw03_BitsMade.j1 kj3 l1 l2 y147 y153 t156 (t172 == t173)))) else (catamaranlaw03_BitsMade.j1 kj3 l1 l2 y147 y153 t156 false)) else (catamaranlaw03_BitsMade.j1 kj3 l1 l2 y147 y153 t156 false)) else (catamaranlaw03_BitsMade.j1 kj3 l1 l2 y147 y153 t156 false)) else (catamaranlaw03_BitsMade.j1 kj3 l1 l2 y147 y153 t156 false))) = some r := H
            have A11 := Aside0.mk A110
            clear A110
            replace H := Option.bind_eq_some_iff.mp H
            obtain ⟨⟨t168, t169⟩, A120, H⟩ := H
            replace H : (if (strOfNums t156).toList = (strOfNums t160).toList then (if t157 = t161 then (if (strOfNums t164).toList = (strOfNums t168).toList then (if t165 = t169 then ((bits_Check.f kj3 a0 y147).bind fun t172 => ((catamaranref03_Check.f kj3 a0 l1).bind fun t173 => (catamaranlaw03_BitsMade.j1 kj3 l1 l2 y147 y153 t156 (t172 == t173)))) else (catamaranlaw03_BitsMade.j1 kj3 l1 l2 y147 y153 t156 false)) else (catamaranlaw03_BitsMade.j1 kj3 l1 l2 y147 y153 t156 false)) else (catamaranlaw03_BitsMade.j1 kj3 l1 l2 y147 y153 t156 false)) else (catamaranlaw03_BitsMade.j1 kj3 l1 l2 y147 y153 t156 false)) = some r := H
            have A12 := Aside0.mk A120
            clear A120
            have HC13 := Aside0.mk H
            clear H
            go_upto_region 8 with (first | ((with_reducible refine gate_dst (N := 27) rfl ?_); (try (refine gate_guard (by rfl) ?_; dsimp only)); refine Kd.R_lit (Kd.int .u8) _ 5 ?hg (N := 27) ?hd (xs := ([] : List Int)) (inner := []) (ok := fun _ => True) (okp := fun _ => True) ?hr ?hp (fun _ hk => hk) trivial (Below.refl _ _) (Nat.le_refl _) (by simp) ?_; (case hd => rfl); (case hg => rfl); (case hr => first | (go_simp; done) | (go_simp; rfl)); (case hp => exact (Reps.none _ _)); intro v145 w14 ho15 hb hg_ hnew_; clear hg_ hnew_; (first | rw [← Ny144.out] at ho15 | (simp only [Int.reduceToNat] at ho15; rw [← Ny144.out] at ho15)); have n0_ := Aside0.mk (Kd.R_lower ho15 (below_size (by repeat (first | (with_reducible first | exact HB.out | apply below_alloc | apply pw_below_drewN | apply below_drew1) | exact HB.out)))); have n1_ := Aside0.mk (below_step (by repeat (first | (with_reducible first | exact HB.out | apply below_alloc | apply pw_below_drewN | apply below_drew1) | exact HB.out)) hb); clear HB; have HO146 := n0_; have HB := n1_; clear n0_ n1_; clear hb ho15) | ((with_reducible refine gate_builtin (b := .append) (xs := #[.tmp 27, .tmp 28]) rfl ?_); (try (refine gate_guard (by rfl) ?_; dsimp only)); at_builtin; refine Kd.R_append_rows (Kd.int .u8) (w0 := w) w.heap.size rfl (.tmp 27) (.tmp 28) 42 5 (.int .u8 0) 1 rfl Try.underlying42 info5 rfl (by decide) (by omega) v145 y144 l1 _ _ _ (fun _ => True) (fun _ => False) rfl rfl ?aO ?aR (fun _ _ h => h) (fun _ h => h.elim) ?aF ?aB ?aS ?aL ?_; (case aR => repeat (first | exact (Kd.C_below HR1.out HB.out) | (with_reducible refine Kd.C_alloc ?_ _) | (with_reducible refine Kd.C_drewN ?_ _) | (with_reducible refine Kd.C_drew ?_))); (case aB => exact (by repeat (first | (with_reducible first | exact HB.out | apply below_alloc | apply pw_below_drewN | apply below_drew1) | exact HB.out))); (case aF => exact (fun _ _ => trivial)); (case aO => exact (by (with_reducible repeat (first | apply Kd.R_alloc | apply Kd.R_drewN | apply Kd.R_drew)); exact HO146.out)); (case aS => exact (below_size (by repeat (first | (with_reducible first | exact HB.out | apply below_alloc | apply pw_below_drewN | apply below_drew1) | exact HB.out)))); (case aL => have := LMc7.out; omega); intro v148 w16 ho hb hg hat; rw [← Ny147.out] at ho; have n0_ := Aside0.mk (hb); have n1_ := Aside0.mk (ho); clear HB; clear HO146; have HB := n0_; have HO149 := n1_; clear n0_ n1_; clear ho hb hg hat) | ((with_reducible refine gate_dst (N := 30) rfl ?_); (try (refine gate_guard (by rfl) ?_; dsimp only)); refine Kd.R_lit (Kd.int .i64) _ 3 ?hg (N := 30) ?hd (xs := ([] : List Int)) (inner := []) (ok := fun _ => True) (okp := fun _ => True) ?hr ?hp (fun _ hk => hk) trivial (Below.refl _ _) (Nat.le_refl _) (by simp) ?_; (case hd => rfl); (case hg => rfl); (case hr => first | (go_simp; done) | (go_simp; rfl)); (case hp => exact (Reps.none _ _)); intro v151 w17 ho18 hb hg_ hnew_; clear hg_ hnew_; (first | rw [← Ny150.out] at ho18 | (simp only [Int.reduceToNat] at ho18; rw [← Ny150.out] at ho18)); have n0_ := Aside0.mk (Kd.R_below (by (with_reducible repeat (first | apply Kd.R_alloc | apply Kd.R_drewN | apply Kd.R_drew)); exact HO149.out) hb); have n1_ := Aside0.mk (Kd.R_lower ho18 (below_size (by repeat (first | (with_reducible first | exact HB.out | apply below_alloc | apply pw_below_drewN | apply below_drew1) | exact HB.out)))); have n2_ := Aside0.mk (below_step (by repeat (first | (with_reducible first | exact HB.out | apply below_alloc | apply pw_below_drewN | apply below_drew1) | exact HB.out)) hb); clear HO149; clear HB; have HO149 := n0_; have HO152 := n1_; have HB := n2_; clear n0_ n1_ n2_; clear hb ho18) | ((with_reducible refine gate_builtin (b := .append) (xs := #[.tmp 30, .tmp 31]) rfl ?_); (try (refine gate_guard (by rfl) ?_; dsimp only)); at_builtin; refine Kd.R_append_rows (Kd.int .i64) (w0 := w) w.heap.size rfl (.tmp 30) (.tmp 31) 43 3 (.int .i64 0) 8 rfl Try.underlying43 info3 rfl (by decide) (by omega) v151 y150 l2 _ _ _ (fun _ => True) (fun _ => False) rfl rfl ?aO ?aR (fun _ _ h => h) (fun _ h => h.elim) ?aF ?aB ?aS ?aL ?_; (case aR => repeat (first | exact (Kd.C_below HR2.out HB.out) | (with_reducible refine Kd.C_alloc ?_ _) | (with_reducible refine Kd.C_drewN ?_ _) | (with_reducible refine Kd.C_drew ?_))); (case aB => exact (by repeat (first | (with_reducible first | exact HB.out | apply below_alloc | apply pw_below_drewN | apply below_drew1) | exact HB.out))); (case aF => exact (fun _ _ => trivial)); (case aO => exact (by (with_reducible repeat (first | apply Kd.R_alloc | apply Kd.R_drewN | apply Kd.R_drew)); exact HO152.out)); (case aS => exact (below_size (by repeat (first | (with_reducible first | exact HB.out | apply below_alloc | apply pw_below_drewN | apply below_drew1) | exact HB.out)))); (case aL => have := LMc8.out; omega); intro v154 w19 ho hb hg hat; rw [← Ny153.out] at ho; have n0_ := Aside0.mk (Kd.R_over' (by (with_reducible repeat (first | apply Kd.R_alloc | apply Kd.R_drewN | apply Kd.R_drew)); exact HO149.out) (Kd.R_typed (by (with_reducible repeat (first | apply Kd.R_alloc | apply Kd.R_drewN | apply Kd.R_drew)); exact HO152.out)) (by decide) hg); have n1_ := Aside0.mk (hb); have n2_ := Aside0.mk (ho); clear HO149; clear HB; clear HO152; have HO149 := n0_; have HB := n1_; have HO155 := n2_; clear n0_ n1_ n2_; clear ho hb hg hat; obtain ⟨Ao20, co20, eo20⟩ := Kd.R_slice HO155.out; subst eo20) | ((with_reducible refine gate_callee (f := 30) rfl ?_); refine goesL_ (some 36) rfl rfl Try.func30 (by kernel_rfl) rfl #[.int .i64 a0, .slice Ao20 y153.length co20] rfl (by (try simp only [List.map_toArray, List.map_cons, List.map_nil]); first | done | rfl | (simp only [List.length_drop, List.length_take]; rfl)) ?_; (with_reducible refine (bits_Of.calls a0 _ _ y153 t156 t157 _ ?side1 ?side2 A9.out).mono ?_); (case side1 => repeat (first | exact (Kd.R_reads' HO155.out).2.2 | (with_reducible refine Kd.C_alloc ?_ _) | (with_reducible refine Kd.C_drewN ?_ _) | (with_reducible refine Kd.C_drew ?_))); (case side2 => exact (Kd.R_reads' HO155.out).2.1); rintro e w21 ⟨v158, rfl, ho0, hb⟩; refine ⟨_, rfl, ?_⟩; have n0_ := Aside0.mk (Kd.R_elder' (by (with_reducible repeat (first | apply Kd.R_alloc | apply Kd.R_drewN | apply Kd.R_drew)); exact HO149.out) (Kd.R_base ho0) hb); have n1_ := Aside0.mk (Kd.R_below (by (with_reducible repeat (first | apply Kd.R_alloc | apply Kd.R_drewN | apply Kd.R_drew)); exact HO155.out) hb); have n2_ := Aside0.mk (Kd.R_lower (Kd.R_new' ho0 (Kd.R_lt (by (with_reducible repeat (first | apply Kd.R_alloc | apply Kd.R_drewN | apply Kd.R_drew)); exact HO149.out))) (below_size (by repeat (first | (with_reducible first | exact HB.out | apply below_alloc | apply pw_below_drewN | apply below_drew1) | exact HB.out)))); have n3_ := Aside0.mk (below_step (by repeat (first | (with_reducible first | exact HB.out | apply below_alloc | apply pw_below_drewN | apply below_drew1) | exact HB.out)) hb); clear HO149; clear HO155; clear HB; have HO149 := n0_; have HO155 := n1_; have HO159 := n2_; have HB := n3_; clear n0_ n1_ n2_ n3_; (try clear hb); (try clear hb2); (try clear hk); (try clear hi); (try clear ho0)) | ((with_reducible refine gate_callee (f := 31) rfl ?_); refine goesL_ (some 42) rfl rfl Try.func31 (by kernel_rfl) rfl #[.int .i64 a0, .slice A2 l2.length c2] rfl (by (try simp only [List.map_toArray, List.map_cons, List.map_nil]); first | done | rfl | (simp only [List.length_drop, List.length_take]; rfl)) ?_; (with_reducible refine (catamaranref03_Of.calls kj3 a0 _ _ l2 t160 t161 _ ?side1 ?side2 A10.out).mono ?_); (case side1 => repeat (first | exact (Kd.C_below HR2.out HB.out) | (with_reducible refine Kd.C_alloc ?_ _) | (with_reducible refine Kd.C_drewN ?_ _) | (with_reducible refine Kd.C_drew ?_))); (case side2 => exact HC2.out); rintro e w22 ⟨v162, rfl, ho0, hb⟩; refine ⟨_, rfl, ?_⟩; (try (obtain ⟨Az_, cz_, ez_⟩ := (by first | exact Kd.N_slice ho0 | exact Kd.R_slice ho0 | exact Kd.V_slice ho0 | exact Kd.S_slice ho0); subst ez_)); have n0_ := Aside0.mk (Kd.R_elder' (by (with_reducible repeat (first | apply Kd.R_alloc | apply Kd.R_drewN | apply Kd.R_drew)); exact HO149.out) (Kd.R_base ho0) hb); have n1_ := Aside0.mk (Kd.R_below (by (with_reducible repeat (first | apply Kd.R_alloc | apply Kd.R_drewN | apply Kd.R_drew)); exact HO155.out) hb); have n2_ := Aside0.mk (Kd.R_elder' (by (with_reducible repeat (first | apply Kd.R_alloc | apply Kd.R_drewN | apply Kd.R_drew)); exact HO159.out) (Kd.R_base ho0) hb); have n3_ := Aside0.mk (Kd.R_lower (Kd.R_new' (Kd.R_new' ho0 (Kd.R_lt (by (with_reducible repeat (first | apply Kd.R_alloc | apply Kd.R_drewN | apply Kd.R_drew)); exact HO149.out))) (Kd.R_lt (by (with_reducible repeat (first | apply Kd.R_alloc | apply Kd.R_drewN | apply Kd.R_drew)); exact HO159.out))) (below_size (by repeat (first | (with_reducible first | exact HB.out | apply below_alloc | apply pw_below_drewN | apply below_drew1) | exact HB.out)))); have n4_ := Aside0.mk (below_step (by repeat (first | (with_reducible first | exact HB.out | apply below_alloc | apply pw_below_drewN | apply below_drew1) | exact HB.out)) hb); clear HO149; clear HO155; clear HO159; clear HB; have HO149 := n0_; have HO155 := n1_; have HO159 := n2_; have HO163 := n3_; have HB := n4_; clear n0_ n1_ n2_ n3_ n4_; (try clear hb); (try clear hb2); (try clear hk); (try clear hi); (try clear ho0)) | ((with_reducible refine gate_callee (f := 32) rfl ?_); refine goesL_ (some 47) rfl rfl Try.func32 (by kernel_rfl) rfl #[.int .i64 a0] rfl (by (try simp only [List.map_toArray, List.map_cons, List.map_nil]); first | done | rfl | (simp only [List.length_drop, List.length_take]; rfl)) ?_; (with_reducible refine (bits_All.calls a0 t164 t165 _ A11.out).mono ?_); rintro e w23 ⟨v166, rfl, ho0, hb⟩; refine ⟨_, rfl, ?_⟩; (try (obtain ⟨Az_, cz_, ez_⟩ := (by first | exact Kd.N_slice ho0 | exact Kd.R_slice ho0 | exact Kd.V_slice ho0 | exact Kd.S_slice ho0); subst ez_)); have n0_ := Aside0.mk (Kd.R_elder' (by (with_reducible repeat (first | apply Kd.R_alloc | apply Kd.R_drewN | apply Kd.R_drew)); exact HO149.out) (Kd.R_base ho0) hb); have n1_ := Aside0.mk (Kd.R_below (by (with_reducible repeat (first | apply Kd.R_alloc | apply Kd.R_drewN | apply Kd.R_drew)); exact HO155.out) hb); have n2_ := Aside0.mk (Kd.R_elder' (by (with_reducible repeat (first | apply Kd.R_alloc | apply Kd.R_drewN | apply Kd.R_drew)); exact HO159.out) (Kd.R_base ho0) hb); have n3_ := Aside0.mk (Kd.R_elder' (by (with_reducible repeat (first | apply Kd.R_alloc | apply Kd.R_drewN | apply Kd.R_drew)); exact HO163.out) (Kd.R_base ho0) hb); have n4_ := Aside0.mk (Kd.R_lower (Kd.R_new' (Kd.R_new' (Kd.R_new' ho0 (Kd.R_lt (by (with_reducible repeat (first | apply Kd.R_alloc | apply Kd.R_drewN | apply Kd.R_drew)); exact HO149.out))) (Kd.R_lt (by (with_reducible repeat (first | apply Kd.R_alloc | apply Kd.R_drewN | apply Kd.R_drew)); exact HO159.out))) (Kd.R_lt (by (with_reducible repeat (first | apply Kd.R_alloc | apply Kd.R_drewN | apply Kd.R_drew)); exact HO163.out))) (below_size (by repeat (first | (with_reducible first | exact HB.out | apply below_alloc | apply pw_below_drewN | apply below_drew1) | exact HB.out)))); have n5_ := Aside0.mk (below_step (by repeat (first | (with_reducible first | exact HB.out | apply below_alloc | apply pw_below_drewN | apply below_drew1) | exact HB.out)) hb); clear HO149; clear HO155; clear HO159; clear HO163; clear HB; have HO149 := n0_; have HO155 := n1_; have HO159 := n2_; have HO163 := n3_; have HO167 := n4_; have HB := n5_; clear n0_ n1_ n2_ n3_ n4_ n5_; (try clear hb); (try clear hb2); (try clear hk); (try clear hi); (try clear ho0)) | ((with_reducible refine gate_callee (f := 33) rfl ?_); refine goesL_ (some 52) rfl rfl Try.func33 (by kernel_rfl) rfl #[.int .i64 a0] rfl (by (try simp only [List.map_toArray, List.map_cons, List.map_nil]); first | done | rfl | (simp only [List.length_drop, List.length_take]; rfl)) ?_; (with_reducible refine (catamaranref03_All.calls kj3 a0 t168 t169 _ A12.out).mono ?_); rintro e w24 ⟨v170, rfl, ho0, hb⟩; refine ⟨_, rfl, ?_⟩; (try (obtain ⟨Az_, cz_, ez_⟩ := (by first | exact Kd.N_slice ho0 | exact Kd.R_slice ho0 | exact Kd.V_slice ho0 | exact Kd.S_slice ho0); subst ez_)); have n0_ := Aside0.mk (Kd.R_elder' (by (with_reducible repeat (first | apply Kd.R_alloc | apply Kd.R_drewN | apply Kd.R_drew)); exact HO149.out) (Kd.R_base ho0) hb); have n1_ := Aside0.mk (Kd.R_below (by (with_reducible repeat (first | apply Kd.R_alloc | apply Kd.R_drewN | apply Kd.R_drew)); exact HO155.out) hb); have n2_ := Aside0.mk (Kd.R_elder' (by (with_reducible repeat (first | apply Kd.R_alloc | apply Kd.R_drewN | apply Kd.R_drew)); exact HO159.out) (Kd.R_base ho0) hb); have n3_ := Aside0.mk (Kd.R_elder' (by (with_reducible repeat (first | apply Kd.R_alloc | apply Kd.R_drewN | apply Kd.R_drew)); exact HO163.out) (Kd.R_base ho0) hb); have n4_ := Aside0.mk (Kd.R_elder' (by (with_reducible repeat (first | apply Kd.R_alloc | apply Kd.R_drewN | apply Kd.R_drew)); exact HO167.out) (Kd.R_base ho0) hb); have n5_ := Aside0.mk (Kd.R_lower (Kd.R_new' (Kd.R_new' (Kd.R_new' (Kd.R_new' ho0 (Kd.R_lt (by (with_reducible repeat (first | apply Kd.R_alloc | apply Kd.R_drewN | apply Kd.R_drew)); exact HO149.out))) (Kd.R_lt (by (with_reducible repeat (first | apply Kd.R_alloc | apply Kd.R_drewN | apply Kd.R_drew)); exact HO159.out))) (Kd.R_lt (by (with_reducible repeat (first | apply Kd.R_alloc | apply Kd.R_drewN | apply Kd.R_drew)); exact HO163.out))) (Kd.R_lt (by (with_reducible repeat (first | apply Kd.R_alloc | apply Kd.R_drewN | apply Kd.R_drew)); exact HO167.out))) (below_size (by repeat (first | (with_reducible first | exact HB.out | apply below_alloc | apply pw_below_drewN | apply below_drew1) | exact HB.out)))); have n6_ := Aside0.mk (below_step (by repeat (first | (with_reducible first | exact HB.out | apply below_alloc | apply pw_below_drewN | apply below_drew1) | exact HB.out)) hb); clear HO149; clear HO155; clear HO159; clear HO163; clear HO167; clear HB; have HO149 := n0_; have HO155 := n1_; have HO159 := n2_; have HO163 := n3_; have HO167 := n4_; have HO171 := n5_; have HB := n6_; clear n0_ n1_ n2_ n3_ n4_ n5_ n6_; (try clear hb); (try clear hb2); (try clear hk); (try clear hi); (try clear ho0)))
            (try simp only [Act.put, List.setIfInBounds_toArray, List.set_cons_zero, List.set_cons_succ])
            go_cut [17] (fun v17 wc => ∃ (kq : Nat) (x17_12 : Bool), v17 = .bool x17_12 ∧ Aside0 (catamaranlaw03_BitsMade.j1 kq l1 l2 y147 y153 t156 x17_12 = some r) ∧ Aside0 (kq ≤ kj3) ∧ Aside0 (Kd.R (Kd.int .u8) 5 wc w.heap.size (fun k_ => some k_ ≠ (v158 : Value).ownBlock) v148 y147) ∧ Aside0 (Kd.R (Kd.int .i64) 3 wc w.heap.size (fun _ => True) (.slice Ao20 y153.length co20) y153) ∧ Aside0 (Kd.R (Kd.int .u8) 5 wc w.heap.size (fun k_ => some k_ ≠ (v148 : Value).ownBlock) v158 t156) ∧ Aside0 (Below w.heap.size w wc))
            case first =>
              have H := HC13.out
              clear HC13
              by_cases c25 : (strOfNums t156).toList = (strOfNums t160).toList
              · rw [if_pos c25] at H
                have c25b0 : ((strOfNums t156).toList == (strOfNums t160).toList) = true := beq_iff_eq.mpr c25
                have c25b1 : ((strOfNums t156).toList != (strOfNums t160).toList) = false := bne_eq_false_iff_eq.mpr c25
                clear c25
                (first | rw [c25b0] | (simp only [i64_w, i32_w]; rw [c25b0]) | skip)
                by_cases c26 : t157 = t161
                · rw [if_pos c26] at H
                  have c26b0 : (t157 == t161) = true := beq_iff_eq.mpr c26
                  have c26b1 : (t157 != t161) = false := bne_eq_false_iff_eq.mpr c26
                  clear c26
                  by_cases c27 : (strOfNums t164).toList = (strOfNums t168).toList
                  · rw [if_pos c27] at H
                    have c27b0 : ((strOfNums t164).toList == (strOfNums t168).toList) = true := beq_iff_eq.mpr c27
                    have c27b1 : ((strOfNums t164).toList != (strOfNums t168).toList) = false := bne_eq_false_iff_eq.mpr c27
                    clear c27
                    by_cases c28 : t165 = t169
                    · rw [if_pos c28] at H
                      have c28b0 : (t165 == t169) = true := beq_iff_eq.mpr c28
                      have c28b1 : (t165 != t169) = false := bne_eq_false_iff_eq.mpr c28
                      clear c28
                      replace H := Option.bind_eq_some_iff.mp H
                      obtain ⟨t172, A290, H⟩ := H
                      replace H : ((catamaranref03_Check.f kj3 a0 l1).bind fun t173 => (catamaranlaw03_BitsMade.j1 kj3 l1 l2 y147 y153 t156 (t172 == t173))) = some r := H
                      have A29 := Aside0.mk A290
                      clear A290
                      replace H := Option.bind_eq_some_iff.mp H
                      obtain ⟨t173, A300, H⟩ := H
                      replace H : (catamaranlaw03_BitsMade.j1 kj3 l1 l2 y147 y153 t156 (t172 == t173)) = some r := H
                      have A30 := Aside0.mk A300
                      clear A300
                      have H' := Aside0.mk H
                      clear H
                      have hcv31 := own_string (P := Try.prog) Try.underlying42 Try.underlying5 Try.underlying9 (Kd.own_of_R HO159.out)
                      have hcw31 := fun m_ => own_string (P := Try.prog) Try.underlying42 Try.underlying5 Try.underlying9 (Kd.own_of_R (Kd.R_drewN HO159.out m_))
                      have hcv32 := own_string (P := Try.prog) Try.underlying42 Try.underlying5 Try.underlying9 (Kd.own_of_R HO163.out)
                      have hcw32 := fun m_ => own_string (P := Try.prog) Try.underlying42 Try.underlying5 Try.underlying9 (Kd.own_of_R (Kd.R_drewN HO163.out m_))
                      have hcv33 := own_string (P := Try.prog) Try.underlying42 Try.underlying5 Try.underlying9 (Kd.own_of_R HO167.out)
                      have hcw33 := fun m_ => own_string (P := Try.prog) Try.underlying42 Try.underlying5 Try.underlying9 (Kd.own_of_R (Kd.R_drewN HO167.out m_))
                      have hcv34 := own_string (P := Try.prog) Try.underlying42 Try.underlying5 Try.underlying9 (Kd.own_of_R HO171.out)
                      have hcw34 := fun m_ => own_string (P := Try.prog) Try.underlying42 Try.underlying5 Try.underlying9 (Kd.own_of_R (Kd.R_drewN HO171.out m_))
                      obtain ⟨Ao35, co35, eo35⟩ := Kd.R_slice HO149.out
                      subst eo35
                      go_wp2_with (first | (go_at_call 34; (with_reducible refine (bits_Check.calls kj3 a0 _ _ y147 t172 _ ?side1 ?side2 A29.out).mono ?_); (case side1 => repeat (first | exact (Kd.R_reads' HO149.out).2.2 | (with_reducible refine Kd.C_alloc ?_ _) | (with_reducible refine Kd.C_drewN ?_ _) | (with_reducible refine Kd.C_drew ?_))); (case side2 => exact (Kd.R_reads' HO149.out).2.1); rintro e w36 ⟨rfl, hb⟩; have n0_ := Aside0.mk (Kd.R_below (by (with_reducible repeat (first | apply Kd.R_alloc | apply Kd.R_drewN | apply Kd.R_drew)); exact HO149.out) hb); have n1_ := Aside0.mk (Kd.R_below (by (with_reducible repeat (first | apply Kd.R_alloc | apply Kd.R_drewN | apply Kd.R_drew)); exact HO155.out) hb); have n2_ := Aside0.mk (Kd.R_below (by (with_reducible repeat (first | apply Kd.R_alloc | apply Kd.R_drewN | apply Kd.R_drew)); exact HO159.out) hb); have n3_ := Aside0.mk (Kd.R_below (by (with_reducible repeat (first | apply Kd.R_alloc | apply Kd.R_drewN | apply Kd.R_drew)); exact HO163.out) hb); have n4_ := Aside0.mk (Kd.R_below (by (with_reducible repeat (first | apply Kd.R_alloc | apply Kd.R_drewN | apply Kd.R_drew)); exact HO167.out) hb); have n5_ := Aside0.mk (Kd.R_below (by (with_reducible repeat (first | apply Kd.R_alloc | apply Kd.R_drewN | apply Kd.R_drew)); exact HO171.out) hb); have n6_ := Aside0.mk (below_step (by repeat (first | (with_reducible first | exact HB.out | apply below_alloc | apply pw_below_drewN | apply below_drew1) | exact HB.out)) hb); clear HO149; clear HO155; clear HO159; clear HO163; clear HO167; clear HO171; clear HB; have HO149 := n0_; have HO155 := n1_; have HO159 := n2_; have HO163 := n3_; have HO167 := n4_; have HO171 := n5_; have HB := n6_; clear n0_ n1_ n2_ n3_ n4_ n5_ n6_; (try clear hb); (try clear hb2); (try clear hk); (try clear hi)) | (go_at_call 35; (with_reducible refine (catamaranref03_Check.calls kj3 a0 _ _ l1 t173 _ ?side1 ?side2 A30.out).mono ?_); (case side1 => repeat (first | exact (Kd.C_below HR1.out HB.out) | (with_reducible refine Kd.C_alloc ?_ _) | (with_reducible refine Kd.C_drewN ?_ _) | (with_reducible refine Kd.C_drew ?_))); (case side2 => exact HC1.out); rintro e w' ⟨rfl, ⟨nd, rfl⟩⟩))
                      (first | go_meet | (refine Go.Met.intro ?_; go_step; (repeat apply Exists.intro); refine ⟨?rel, ?eqf⟩; case eqf => ((try rw [c25b0]); (first | done | rfl))))
                      case rel => exact ⟨_, ((t172 == t173)), (by first | rfl | (simp; done) | (simp [*]; done)), H', ⟨by have := HJ3.out; first | omega | exact Nat.le_refl _⟩, ⟨by (with_reducible repeat (first | apply Kd.R_alloc | apply Kd.R_drewN | apply Kd.R_drew)); exact Kd.R_mono HO149.out (fun _ hk => hk.1.1.1.2)⟩, ⟨by (with_reducible repeat (first | apply Kd.R_alloc | apply Kd.R_drewN | apply Kd.R_drew)); exact HO155.out⟩, ⟨by (with_reducible repeat (first | apply Kd.R_alloc | apply Kd.R_drewN | apply Kd.R_drew)); exact Kd.R_mono HO159.out (fun _ hk => hk.1.1.1.2)⟩, ⟨by repeat (first | (with_reducible first | exact HB.out | apply below_alloc | apply pw_below_drewN | apply below_drew1) | exact HB.out)⟩⟩
                    · rw [if_neg c28] at H
                      have c28b0 : (t165 == t169) = false := beq_eq_false_iff_ne.mpr c28
                      have c28b1 : (t165 != t169) = true := bne_iff_ne.mpr c28
                      have H' := Aside0.mk H
                      clear H
                      have hcv37 := own_string (P := Try.prog) Try.underlying42 Try.underlying5 Try.underlying9 (Kd.own_of_R HO159.out)
                      have hcw37 := fun m_ => own_string (P := Try.prog) Try.underlying42 Try.underlying5 Try.underlying9 (Kd.own_of_R (Kd.R_drewN HO159.out m_))
                      have hcv38 := own_string (P := Try.prog) Try.underlying42 Try.underlying5 Try.underlying9 (Kd.own_of_R HO163.out)
                      have hcw38 := fun m_ => own_string (P := Try.prog) Try.underlying42 Try.underlying5 Try.underlying9 (Kd.own_of_R (Kd.R_drewN HO163.out m_))
                      have hcv39 := own_string (P := Try.prog) Try.underlying42 Try.underlying5 Try.underlying9 (Kd.own_of_R HO167.out)
                      have hcw39 := fun m_ => own_string (P := Try.prog) Try.underlying42 Try.underlying5 Try.underlying9 (Kd.own_of_R (Kd.R_drewN HO167.out m_))
                      have hcv40 := own_string (P := Try.prog) Try.underlying42 Try.underlying5 Try.underlying9 (Kd.own_of_R HO171.out)
                      have hcw40 := fun m_ => own_string (P := Try.prog) Try.underlying42 Try.underlying5 Try.underlying9 (Kd.own_of_R (Kd.R_drewN HO171.out m_))
                      go_wp2
                      (first | go_meet | (refine Go.Met.intro ?_; go_step; (repeat apply Exists.intro); refine ⟨?rel, ?eqf⟩; case eqf => ((try rw [c25b0]); (first | done | rfl))))
                      case rel => exact ⟨_, (false), (by first | rfl | (simp; done) | (simp [*]; done)), H', ⟨by have := HJ3.out; first | omega | exact Nat.le_refl _⟩, ⟨by (with_reducible repeat (first | apply Kd.R_alloc | apply Kd.R_drewN | apply Kd.R_drew)); exact Kd.R_mono HO149.out (fun _ hk => hk.1.1.1.2)⟩, ⟨by (with_reducible repeat (first | apply Kd.R_alloc | apply Kd.R_drewN | apply Kd.R_drew)); exact HO155.out⟩, ⟨by (with_reducible repeat (first | apply Kd.R_alloc | apply Kd.R_drewN | apply Kd.R_drew)); exact Kd.R_mono HO159.out (fun _ hk => hk.1.1.1.2)⟩, ⟨by repeat (first | (with_reducible first | exact HB.out | apply below_alloc | apply pw_below_drewN | apply below_drew1) | exact HB.out)⟩⟩
                  · rw [if_neg c27] at H
                    have c27b0 : ((strOfNums t164).toList == (strOfNums t168).toList) = false := beq_eq_false_iff_ne.mpr c27
                    have c27b1 : ((strOfNums t164).toList != (strOfNums t168).toList) = true := bne_iff_ne.mpr c27
                    have H' := Aside0.mk H
                    clear H
                    have hcv41 := own_string (P := Try.prog) Try.underlying42 Try.underlying5 Try.underlying9 (Kd.own_of_R HO159.out)
                    have hcw41 := fun m_ => own_string (P := Try.prog) Try.underlying42 Try.underlying5 Try.underlying9 (Kd.own_of_R (Kd.R_drewN HO159.out m_))
                    have hcv42 := own_string (P := Try.prog) Try.underlying42 Try.underlying5 Try.underlying9 (Kd.own_of_R HO163.out)
                    have hcw42 := fun m_ => own_string (P := Try.prog) Try.underlying42 Try.underlying5 Try.underlying9 (Kd.own_of_R (Kd.R_drewN HO163.out m_))
                    have hcv43 := own_string (P := Try.prog) Try.underlying42 Try.underlying5 Try.underlying9 (Kd.own_of_R HO167.out)
                    have hcw43 := fun m_ => own_string (P := Try.prog) Try.underlying42 Try.underlying5 Try.underlying9 (Kd.own_of_R (Kd.R_drewN HO167.out m_))
                    have hcv44 := own_string (P := Try.prog) Try.underlying42 Try.underlying5 Try.underlying9 (Kd.own_of_R HO171.out)
                    have hcw44 := fun m_ => own_string (P := Try.prog) Try.underlying42 Try.underlying5 Try.underlying9 (Kd.own_of_R (Kd.R_drewN HO171.out m_))
                    go_wp2
                    (first | go_meet | (refine Go.Met.intro ?_; go_step; (repeat apply Exists.intro); refine ⟨?rel, ?eqf⟩; case eqf => ((try rw [c25b0]); (first | done | rfl))))
                    case rel => exact ⟨_, (false), (by first | rfl | (simp; done) | (simp [*]; done)), H', ⟨by have := HJ3.out; first | omega | exact Nat.le_refl _⟩, ⟨by (with_reducible repeat (first | apply Kd.R_alloc | apply Kd.R_drewN | apply Kd.R_drew)); exact Kd.R_mono HO149.out (fun _ hk => hk.1.1.1.2)⟩, ⟨by (with_reducible repeat (first | apply Kd.R_alloc | apply Kd.R_drewN | apply Kd.R_drew)); exact HO155.out⟩, ⟨by (with_reducible repeat (first | apply Kd.R_alloc | apply Kd.R_drewN | apply Kd.R_drew)); exact Kd.R_mono HO159.out (fun _ hk => hk.1.1.1.2)⟩, ⟨by repeat (first | (with_reducible first | exact HB.out | apply below_alloc | apply pw_below_drewN | apply below_drew1) | exact HB.out)⟩⟩
                · rw [if_neg c26] at H
                  have c26b0 : (t157 == t161) = false := beq_eq_false_iff_ne.mpr c26
                  have c26b1 : (t157 != t161) = true := bne_iff_ne.mpr c26
                  have H' := Aside0.mk H
                  clear H
                  have hcv45 := own_string (P := Try.prog) Try.underlying42 Try.underlying5 Try.underlying9 (Kd.own_of_R HO159.out)
                  have hcw45 := fun m_ => own_string (P := Try.prog) Try.underlying42 Try.underlying5 Try.underlying9 (Kd.own_of_R (Kd.R_drewN HO159.out m_))
                  have hcv46 := own_string (P := Try.prog) Try.underlying42 Try.underlying5 Try.underlying9 (Kd.own_of_R HO163.out)
                  have hcw46 := fun m_ => own_string (P := Try.prog) Try.underlying42 Try.underlying5 Try.underlying9 (Kd.own_of_R (Kd.R_drewN HO163.out m_))
                  go_wp2
                  (first | go_meet | (refine Go.Met.intro ?_; go_step; (repeat apply Exists.intro); refine ⟨?rel, ?eqf⟩; case eqf => ((try rw [c25b0]); (first | done | rfl))))
                  case rel => exact ⟨_, (false), (by first | rfl | (simp; done) | (simp [*]; done)), H', ⟨by have := HJ3.out; first | omega | exact Nat.le_refl _⟩, ⟨by (with_reducible repeat (first | apply Kd.R_alloc | apply Kd.R_drewN | apply Kd.R_drew)); exact Kd.R_mono HO149.out (fun _ hk => hk.1.1.1.2)⟩, ⟨by (with_reducible repeat (first | apply Kd.R_alloc | apply Kd.R_drewN | apply Kd.R_drew)); exact HO155.out⟩, ⟨by (with_reducible repeat (first | apply Kd.R_alloc | apply Kd.R_drewN | apply Kd.R_drew)); exact Kd.R_mono HO159.out (fun _ hk => hk.1.1.1.2)⟩, ⟨by repeat (first | (with_reducible first | exact HB.out | apply below_alloc | apply pw_below_drewN | apply below_drew1) | exact HB.out)⟩⟩
              · rw [if_neg c25] at H
                have c25b0 : ((strOfNums t156).toList == (strOfNums t160).toList) = false := beq_eq_false_iff_ne.mpr c25
                have c25b1 : ((strOfNums t156).toList != (strOfNums t160).toList) = true := bne_iff_ne.mpr c25
                (first | rw [c25b0] | (simp only [i64_w, i32_w]; rw [c25b0]) | skip)
                have H' := Aside0.mk H
                clear H
                have hcv47 := own_string (P := Try.prog) Try.underlying42 Try.underlying5 Try.underlying9 (Kd.own_of_R HO159.out)
                have hcw47 := fun m_ => own_string (P := Try.prog) Try.underlying42 Try.underlying5 Try.underlying9 (Kd.own_of_R (Kd.R_drewN HO159.out m_))
                have hcv48 := own_string (P := Try.prog) Try.underlying42 Try.underlying5 Try.underlying9 (Kd.own_of_R HO163.out)
                have hcw48 := fun m_ => own_string (P := Try.prog) Try.underlying42 Try.underlying5 Try.underlying9 (Kd.own_of_R (Kd.R_drewN HO163.out m_))
                go_wp2
                (first | go_meet | (refine Go.Met.intro ?_; go_step; (repeat apply Exists.intro); refine ⟨?rel, ?eqf⟩; case eqf => ((try rw [c25b0]); (first | done | rfl))))
                case rel => exact ⟨_, (false), (by first | rfl | (simp; done) | (simp [*]; done)), H', ⟨by have := HJ3.out; first | omega | exact Nat.le_refl _⟩, ⟨by (with_reducible repeat (first | apply Kd.R_alloc | apply Kd.R_drewN | apply Kd.R_drew)); exact Kd.R_mono HO149.out (fun _ hk => hk.1.1.1.2)⟩, ⟨by (with_reducible repeat (first | apply Kd.R_alloc | apply Kd.R_drewN | apply Kd.R_drew)); exact HO155.out⟩, ⟨by (with_reducible repeat (first | apply Kd.R_alloc | apply Kd.R_drewN | apply Kd.R_drew)); exact Kd.R_mono HO159.out (fun _ hk => hk.1.1.1.2)⟩, ⟨by repeat (first | (with_reducible first | exact HB.out | apply below_alloc | apply pw_below_drewN | apply below_drew1) | exact HB.out)⟩⟩
            case rest =>
              clear HC13
              try clear c1
              try clear c2
              try clear p2
              try clear c3
              try clear hcv3
              try clear hcw3
              try clear hcv4
              try clear hcw4
              try clear c5
              try clear c5b0
              try clear c5b1
              try clear c6
              try clear c7
              try clear c8
              try clear c25
              try clear c25b0
              try clear c25b1
              try clear c26
              try clear c26b0
              try clear c26b1
              try clear c27
              try clear c27b0
              try clear c27b1
              try clear c28
              try clear c28b0
              try clear c28b1
              try clear c30
              try clear c31
              try clear hcv31
              try clear hcw31
              try clear c32
              try clear hcv32
              try clear hcw32
              try clear c33
              try clear hcv33
              try clear hcw33
              try clear hcv34
              try clear hcw34
              try clear hcv37
              try clear hcw37
              try clear hcv38
              try clear hcw38
              try clear hcv39
              try clear hcw39
              try clear hcv40
              try clear hcw40
              try clear hcv41
              try clear hcw41
              try clear hcv42
              try clear hcw42
              try clear hcv43
              try clear hcw43
              try clear hcv44
              try clear hcw44
              try clear hcv45
              try clear hcw45
              try clear hcv46
              try clear hcw46
              try clear hcv47
              try clear hcw47
              try clear hcv48
              try clear hcw48
              try clear p2
              obtain ⟨kq, x17_12, rfl, HA, HJ12, HO_7, HO_8, HO_9, HB⟩ := hcut
              cases kq with
              | zero => exact absurd HA.out (by simp [catamaranlaw03_BitsMade.j1])
              | succ kj12 =>
                have H := HA.out
                clear HA
                simp only [catamaranlaw03_BitsMade.j1] at H
                have H' := Aside0.mk H
                clear H
                go_wp2
                go_loopg [18] kj12 (fun kq v18 w' => ∃ (x9_3 : List Int) (x18_3 : Int), v18 = .int .i64 x18_3 ∧ Aside0 (catamaranlaw03_BitsMade.l0 kq l1 l2 y147 y153 x9_3 x17_12 x18_3 = some r) ∧ Aside0 (kq ≤ kj12) ∧ Aside0 (Kd.R (Kd.int .u8) 5 w' w.heap.size (fun k_ => some k_ ≠ (v158 : Value).ownBlock) v148 y147) ∧ Aside0 (Kd.R (Kd.int .i64) 3 w' w.heap.size (fun _ => True) (.slice Ao20 y153.length co20) y153) ∧ Aside0 (Kd.R (Kd.int .u8) 5 w' w.heap.size (fun k_ => some k_ ≠ (v148 : Value).ownBlock) v158 x9_3) ∧ Aside0 (Below w.heap.size w w'))
                case atStart => exact ⟨(t156), (0), (by first | rfl | (simp; done) | (simp [*]; done)), H', ⟨Nat.le_refl _⟩, ⟨by (with_reducible repeat (first | apply Kd.R_alloc | apply Kd.R_drewN | apply Kd.R_drew)); exact HO_7.out⟩, ⟨by (with_reducible repeat (first | apply Kd.R_alloc | apply Kd.R_drewN | apply Kd.R_drew)); exact HO_8.out⟩, ⟨by (with_reducible repeat (first | apply Kd.R_alloc | apply Kd.R_drewN | apply Kd.R_drew)); exact HO_9.out⟩, ⟨by repeat (first | (with_reducible first | exact HB.out | apply below_alloc | apply pw_below_drewN | apply below_drew1) | exact HB.out)⟩⟩
                case round =>
                  clear H'
                  try clear c1
                  try clear c2
                  try clear p2
                  try clear c3
                  try clear hcv3
                  try clear hcw3
                  try clear hcv4
                  try clear hcw4
                  try clear c5
                  try clear c5b0
                  try clear c5b1
                  try clear c6
                  try clear c7
                  try clear c8
                  try clear c25
                  try clear c25b0
                  try clear c25b1
                  try clear c26
                  try clear c26b0
                  try clear c26b1
                  try clear c27
                  try clear c27b0
                  try clear c27b1
                  try clear c28
                  try clear c28b0
                  try clear c28b1
                  try clear c30
                  try clear c31
                  try clear hcv31
                  try clear hcw31
                  try clear c32
                  try clear hcv32
                  try clear hcw32
                  try clear c33
                  try clear hcv33
                  try clear hcw33
                  try clear hcv34
                  try clear hcw34
                  try clear hcv37
                  try clear hcw37
                  try clear hcv38
                  try clear hcw38
                  try clear hcv39
                  try clear hcw39
                  try clear hcv40
                  try clear hcw40
                  try clear hcv41
                  try clear hcw41
                  try clear hcv42
                  try clear hcw42
                  try clear hcv43
                  try clear hcw43
                  try clear hcv44
                  try clear hcw44
                  try clear hcv45
                  try clear hcw45
                  try clear hcv46
                  try clear hcw46
                  try clear hcv47
                  try clear hcw47
                  try clear hcv48
                  try clear hcw48
                  try clear p2
                  obtain ⟨x9_3, x18_3, rfl, HA, HK3, HO_7, HO_8, HO_9, HB⟩ := hrel
                  cases gk with
                  | zero => exact absurd HA.out (by simp [catamaranlaw03_BitsMade.l0])
                  | succ k3 =>
                    have H := HA.out
                    clear HA
                    simp only [catamaranlaw03_BitsMade.l0] at H
                    by_cases c49 : x18_3 < (x9_3.length : Int)
                    · rw [if_pos c49] at H
                      have c49b0 : decide (x18_3 < (x9_3.length : Int)) = true := decide_eq_true c49
                      clear c49
                      by_cases c50 : 0 ≤ x18_3
                      · rw [if_pos c50] at H
                        have c50b0 : decide (0 ≤ x18_3) = true := decide_eq_true c50
                        clear c50
                        obtain ⟨y174, hy174⟩ : ∃ y_ : List Int, y_ = (x9_3.set (x18_3 : Int).toNat 7) := ⟨_, rfl⟩
                        replace H : (catamaranlaw03_BitsMade.l0 k3 l1 l2 y147 y153 y174 x17_12 (wrap64 (x18_3 + 1))) = some r := by first | (rw [hy174]; with_reducible exact H) | (have H2_ := (Option.bind_some _ _).symm.trans H; rw [hy174]; with_reducible exact H2_) | (have H2_ := (Option.bind_some _ _).symm.trans H; with_reducible exact H2_) | with_reducible exact H | (rw [hy174]; exact H) | exact H
                        have Ny174 := Aside0.mk hy174
                        clear hy174
                        have H' := Aside0.mk H
                        clear H
                        obtain ⟨Ao52, co52, eo52⟩ := Kd.R_slice HO_9.out
                        subst eo52
                        have p51 : 0 ≤ (x18_3 : Int) := of_decide_eq_true (by first | (with_reducible assumption) | assumption)
                        have q51 : (x18_3 : Int) < ((x9_3.length : Int) : Int) := of_decide_eq_true (by first | (with_reducible assumption) | assumption)
                        obtain ⟨go51, co51, eo51, gb51, gl51, cl51, HG51⟩ := Kd.R_form HO_9.out (by omega)
                        (first | cases eo51 | (injection eo51 with ea_ en_ ec_; (first | subst ea_ | (injection ea_ with ea_; subst ea_)); subst ec_; clear en_))
                        have GB51 := Aside0.mk gb51
                        have GG51 := Aside0.mk HG51
                        clear gb51 gl51 HG51
                        obtain ⟨hx51_0, hf51_0⟩ := Kd.R_celln 0 HO_9.out (x18_3 : Int) p51 q51
                        replace p51 := eq_true p51
                        replace q51 := eq_true q51
                        have HP53 := Kd.R_putg HO_9.out (x18_3 : Int) 7
                        go_wp2_with (first | ((with_reducible refine gate_store (t := 5) (p := 94) rfl ?_); refine store_event (t := 5) (p := 94) (v := ?vo_w54) (w1 := (wr.setCell ⟨go51, (x18_3 : Int).toNat, none⟩ (.int .u8 7))) ?hg ?ho ?hn ?hr ?_; (case ho => rfl); (case hg => rfl); (case hn => rfl); (case hr => first | (go_simp; done) | (go_simp; rfl)); intro w54 hw; have hg : wr.grownBy w54 (some go51) := (by rw [hw]; exact HP53.2); have hp_ : Kd.R (Kd.int .u8) 5 w54 w.heap.size (fun k_ => some k_ ≠ (v148 : Value).ownBlock) (.slice (some ⟨go51, 0, none⟩) x9_3.length co52) y174 := (by rw [hw, Ny174.out]; exact HP53.1); clear HP53; have n0_ := Aside0.mk (Kd.R_after (v := (.slice (some ⟨go51, 0, none⟩) x9_3.length co52)) (v1 := (.slice (some ⟨go51, 0, none⟩) x9_3.length co52)) (ok := (fun _ => True)) (by (with_reducible repeat (first | apply Kd.R_alloc | apply Kd.R_drewN | apply Kd.R_drew)); exact Kd.R_mono HO_7.out (fun _ hk => ⟨trivial, hk⟩)) hg (.inl rfl)); have n1_ := Aside0.mk (Kd.R_over' (v := (.slice (some ⟨go51, 0, none⟩) x9_3.length co52)) (by (with_reducible repeat (first | apply Kd.R_alloc | apply Kd.R_drewN | apply Kd.R_drew)); exact HO_8.out) (Kd.R_typed HO_9.out) (by decide) hg); have n2_ := Aside0.mk (hp_); have n3_ := Aside0.mk ((by rw [hw]; exact below_set (HB.out) GB51.out : Below w.heap.size w w54)); clear HO_7; clear HO_8; clear HO_9; clear HB; have HO_7 := n0_; have HO_8 := n1_; have HO_9 := n2_; have HB := n3_; clear n0_ n1_ n2_ n3_; clear hg hw hp_))
                        go_roundg k3
                        case measure => have := HJ3.out; have := HJ12.out; have := HK3.out; omega
                        case rel => exact ⟨(y174), (wrap64 (x18_3 + 1)), (by first | rfl | (simp; done) | (simp [*]; done)), H', ⟨by have := HJ3.out; have := HJ12.out; have := HK3.out; omega⟩, ⟨by (with_reducible repeat (first | apply Kd.R_alloc | apply Kd.R_drewN | apply Kd.R_drew)); exact Kd.R_mono HO_7.out (fun _ hk => hk.2)⟩, ⟨by (with_reducible repeat (first | apply Kd.R_alloc | apply Kd.R_drewN | apply Kd.R_drew)); exact HO_8.out⟩, ⟨by (with_reducible repeat (first | apply Kd.R_alloc | apply Kd.R_drewN | apply Kd.R_drew)); exact HO_9.out⟩, ⟨by repeat (first | (with_reducible first | exact HB.out | apply below_alloc | apply pw_below_drewN | apply below_drew1) | exact HB.out)⟩⟩
                      · rw [if_neg c50] at H
                        exact absurd H (by simp)
                    · rw [if_neg c49] at H
                      have c49b0 : decide (x18_3 < (x9_3.length : Int)) = false := decide_eq_false c49
                      clear c49
                      by_cases c55 : x17_12 = true
                      · subst c55
                        have H1 : (if (strOfNums y147).toList = (strOfNums l1).toList then ((catamaranref03_SameInts.f k3 y153 l2).bind fun t175 => (some t175)) else (some false)) = some r := by rw [if_pos rfl] at H; exact H
                        clear H
                        have H := H1
                        clear H1
                        by_cases c56 : (strOfNums y147).toList = (strOfNums l1).toList
                        · rw [if_pos c56] at H
                          have c56b0 : ((strOfNums y147).toList == (strOfNums l1).toList) = true := beq_iff_eq.mpr c56
                          have c56b1 : ((strOfNums y147).toList != (strOfNums l1).toList) = false := bne_eq_false_iff_eq.mpr c56
                          clear c56
                          replace H := Option.bind_eq_some_iff.mp H
                          obtain ⟨t175, A570, H⟩ := H
                          replace H : (some t175) = some r := H
                          have A57 := Aside0.mk A570
                          clear A570
                          obtain rfl := Option.some.inj H
                          obtain ⟨Ao58, co58, eo58⟩ := Kd.R_slice HO_9.out
                          subst eo58
                          have hcv59 := own_string (P := Try.prog) Try.underlying42 Try.underlying5 Try.underlying9 (Kd.own_of_R HO_7.out)
                          have hcw59 := fun m_ => own_string (P := Try.prog) Try.underlying42 Try.underlying5 Try.underlying9 (Kd.own_of_R (Kd.R_drewN HO_7.out m_))
                          have hcv60 := Kd.C_string (P := Try.prog) (A := A1) (c := c1) Try.underlying42 Try.underlying5 Try.underlying9 (Kd.C_below HR1.out HB.out)
                          have hcw60 := fun m_ => Kd.C_string (P := Try.prog) (A := A1) (c := c1) Try.underlying42 Try.underlying5 Try.underlying9 (Kd.C_drewN (Kd.C_below HR1.out HB.out) m_)
                          go_wp2_with (first | (go_at_call 36; (with_reducible refine (catamaranref03_SameInts.calls k3 _ _ y153 _ _ l2 t175 _ ?side1 ?side2 ?side3 ?side4 A57.out).mono ?_); (case side1 => repeat (first | exact (Kd.R_reads' HO_8.out).2.2 | (with_reducible refine Kd.C_alloc ?_ _) | (with_reducible refine Kd.C_drewN ?_ _) | (with_reducible refine Kd.C_drew ?_))); (case side2 => exact (Kd.R_reads' HO_8.out).2.1); (case side3 => repeat (first | exact (Kd.C_below HR2.out HB.out) | (with_reducible refine Kd.C_alloc ?_ _) | (with_reducible refine Kd.C_drewN ?_ _) | (with_reducible refine Kd.C_drew ?_))); (case side4 => exact HC2.out); rintro e w' ⟨rfl, ⟨nd, rfl⟩⟩))
                          go_ret
                          exact ⟨by first | rfl | (simp [errW_none, errW_some] <;> rfl) | (simp [*, errW_none, errW_some] <;> rfl), by repeat (first | (with_reducible first | exact HB.out | apply below_alloc | apply pw_below_drewN | apply below_drew1) | exact HB.out)⟩
                        · rw [if_neg c56] at H
                          have c56b0 : ((strOfNums y147).toList == (strOfNums l1).toList) = false := beq_eq_false_iff_ne.mpr c56
                          have c56b1 : ((strOfNums y147).toList != (strOfNums l1).toList) = true := bne_iff_ne.mpr c56
                          exact absurd ((Option.some.inj H).trans hT_.out) (by decide)
                      · replace c55 := Bool.eq_false_iff.mpr c55
                        subst c55
                        have H1 : (some false) = some r := by rw [if_neg (show ¬ (false = true) by decide)] at H; exact H
                        clear H
                        have H := H1
                        clear H1
                        exact absurd ((Option.some.inj H).trans hT_.out) (by decide)
          · rw [if_neg c8] at H
            exact absurd H (by simp)
        · rw [if_neg c7] at H
          exact absurd H (by simp)

/-- THE ONE PURE STATEMENT of catamaranlaw03_BitsMade: yours. -/
def catamaranlaw03_BitsMade.Pure : Prop := ∀ (a0 : Int) (l1 : List Int) (l2 : List Int), (Lit.int .i64 a0).wf = true → l1.length ≤ maxLen → l1.length * 1 ≤ 140737488351232 → (∀ x ∈ l1, (Lit.int .u8 x).wf = true) → l2.length ≤ maxLen → l2.length * 8 ≤ 140737488351232 → (∀ x ∈ l2, (Lit.int .i64 x).wf = true) → ∃ k, catamaranlaw03_BitsMade.f k a0 l1 l2 = some true
theorem catamaranlaw03_BitsMade.walk (P : catamaranlaw03_BitsMade.Pure) (a0 : Int) (a1 : Option Addr) (len1 cap1 : Nat) (z1 : List Int) (a2 : Option Addr) (len2 cap2 : Nat) (z2 : List Int) (w : World) (w0 : (Lit.int .i64 a0).wf = true) (w1 : (a1 = none ∧ len1 = 0 ∧ cap1 = 0 ∧ z1 = []) ∨ ∃ x, a1 = some x ∧ len1 ≤ cap1 ∧ cap1 ≤ maxLen ∧ z1.length = cap1 ∧ (∀ i, i < z1.length → w.cell? (x.add i) = some (.int .u8 (z1.getD i 0))) ∧ ∀ n ∈ z1, (Lit.int .u8 n).wf = true) (y1 : len1 * 1 ≤ 140737488351232) (w2 : (a2 = none ∧ len2 = 0 ∧ cap2 = 0 ∧ z2 = []) ∨ ∃ x, a2 = some x ∧ len2 ≤ cap2 ∧ cap2 ≤ maxLen ∧ z2.length = cap2 ∧ (∀ i, i < z2.length → w.cell? (x.add i) = some (.int .i64 (z2.getD i 0))) ∧ ∀ n ∈ z2, (Lit.int .i64 n).wf = true) (y2 : len2 * 8 ≤ 140737488351232) :
    Calls Try.prog 8 #[.int .i64 a0, .slice a1 len1 cap1, .slice a2 len2 cap2] w fun e w' => e = .returned (.bool true) ∧ Below w.heap.size w w' := by
  obtain ⟨l1, rfl, hr1, hm1, hw1, hc1⟩ := ReadsInt.ofRowC w1
  obtain ⟨l2, rfl, hr2, hm2, hw2, hc2⟩ := ReadsInt.ofRowC w2
  obtain ⟨k, h⟩ := P a0 l1 l2 w0 hm1 y1 hw1 hm2 y2 hw2
  refine (catamaranlaw03_BitsMade.calls k a0 _ _ l1 _ _ l2 true w (Kd.C_of_reads (d := (0 : Int)) (h1 := fun _ => rfl) hr1) hc1 (Kd.C_of_reads (d := (0 : Int)) (h1 := fun _ => rfl) hr2) hc2 h ⟨rfl⟩).mono ?_
  rintro e w' ⟨rfl, hd⟩
  exact ⟨rfl, hd⟩

end Go.Proofs.Ytammdlgpelljmaa.PBm
