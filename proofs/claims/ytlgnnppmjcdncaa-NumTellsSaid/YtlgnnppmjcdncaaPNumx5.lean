-- written by wip/myprint.py out of the translation
import Derived.Test.YtlgnnppmjcdncaaPNumx0
import Derived.Test.YtlgnnppmjcdncaaPNumx1
import Derived.Test.YtlgnnppmjcdncaaPNumx2
import Derived.Test.YtlgnnppmjcdncaaPNumx3
import Derived.Test.YtlgnnppmjcdncaaPNumx4
namespace Go.Proofs.Ytlgnnppmjcdncaa.PNum
open Go.RowKit Go.Proofs.YtlgnnppmjcdncaaW.PrintWords Go.Proofs.YtlgnnppmjcdncaaW.PrintLast Go.Proofs.YtlgnnppmjcdncaaW.PrintMore
open Go.Proofs.Ytlgnnppmjcdncaa.Kit Go.Proofs.Ytlgnnppmjcdncaa.NumMath Go.Proofs.Ytlgnnppmjcdncaa.NumWalk
attribute [local go_sem] max2_int min2_int max_two min_two max_three min_three max_four min_four   -- for this text's walks alone
set_option linter.unusedVariables false
set_option linter.unusedSimpArgs false

/-! ### catamaranlaw01_NumTells: function 10 -/
mutual
def catamaranlaw01_NumTells.j0 : Nat → List Int → List Int → List Int → Bool → Option (Bool)
  | 0, _, _, _, _ => none
  | k + 1, x0, x1, x2, x37 => if x37 = true then (some true) else ((some (([] : List Int) : List Int)).bind fun y246 => (if y246.length + x0.length < 17592186044416 then ((some (y246 ++ x0 : List Int)).bind fun y249 => ((some (([] : List Int) : List Int)).bind fun y252 => (if y252.length + x1.length < 17592186044416 then ((some (y252 ++ x1 : List Int)).bind fun y255 => ((some (([] : List Int) : List Int)).bind fun y258 => (if y258.length + x2.length < 140737488355328 then ((some (y258 ++ x2 : List Int)).bind fun y261 => ((num_Size.f k y255).bind fun bt264 => ((catamaranref01_Size.f k x1).bind fun bt266 => ((num_Write.f y249 y255).bind fun bt268 => ((catamaranref01_Write.f k x0 x1).bind fun bt272 => ((num_Read.f k y261 y255).bind fun bt276 => ((catamaranref01_Read.f k x2 x1).bind fun bt280 => (if bt264.1 = bt266.1 then (if bt264.2 = bt266.2 then (if (strOfNums bt268.1).toList = (strOfNums bt272.1).toList then (if bt268.2 = bt272.2 then ((catamaranref01_Same.f k bt276.1 bt280.1).bind fun t284 => (if t284 = true then (catamaranlaw01_NumTells.j1 k x0 x1 x2 y249 y255 y261 bt268.1 bt276.1 (bt276.2 == bt280.2)) else (catamaranlaw01_NumTells.j1 k x0 x1 x2 y249 y255 y261 bt268.1 bt276.1 false))) else (catamaranlaw01_NumTells.j1 k x0 x1 x2 y249 y255 y261 bt268.1 bt276.1 false)) else (catamaranlaw01_NumTells.j1 k x0 x1 x2 y249 y255 y261 bt268.1 bt276.1 false)) else (catamaranlaw01_NumTells.j1 k x0 x1 x2 y249 y255 y261 bt268.1 bt276.1 false)) else (catamaranlaw01_NumTells.j1 k x0 x1 x2 y249 y255 y261 bt268.1 bt276.1 false))))))))) else (none)))) else (none)))) else (none)))
def catamaranlaw01_NumTells.j1 : Nat → List Int → List Int → List Int → List Int → List Int → List Int → List Int → List Int → Bool → Option (Bool)
  | 0, _, _, _, _, _, _, _, _, _ => none
  | k + 1, x0, x1, x2, x7, x8, x9, x14, x18, x22 => catamaranlaw01_NumTells.l0 k x0 x1 x2 x7 x8 x9 x14 x18 x22 0
def catamaranlaw01_NumTells.l0 : Nat → List Int → List Int → List Int → List Int → List Int → List Int → List Int → List Int → Bool → Int → Option (Bool)
  | 0, _, _, _, _, _, _, _, _, _, _ => none
  | k + 1, x0, x1, x2, x7, x8, x9, x14, x18, x22, x23 => if x23 < (x14.length : Int) then (if 0 ≤ x23 then (catamaranlaw01_NumTells.l0 k x0 x1 x2 x7 x8 x9 (x14.set (x23 : Int).toNat 7) x18 x22 (wrap64 (x23 + 1))) else (none)) else (catamaranlaw01_NumTells.l1 k x0 x1 x2 x7 x8 x9 x18 x22 0)
def catamaranlaw01_NumTells.l1 : Nat → List Int → List Int → List Int → List Int → List Int → List Int → List Int → Bool → Int → Option (Bool)
  | 0, _, _, _, _, _, _, _, _, _ => none
  | k + 1, x0, x1, x2, x7, x8, x9, x18, x22, x24 => if x24 < (x18.length : Int) then (if 0 ≤ x24 then (catamaranlaw01_NumTells.l1 k x0 x1 x2 x7 x8 x9 (x18.set (x24 : Int).toNat 7) x22 (wrap64 (x24 + 1))) else (none)) else (if x22 = true then ((catamaranref01_Same.f k x7 x0).bind fun t287 => (if t287 = true then ((catamaranref01_SameInts.f k x8 x1).bind fun t288 => (if t288 = true then (some ((strOfNums x9).toList == (strOfNums x2).toList)) else (some false))) else (some false))) else (some false))
end
def catamaranlaw01_NumTells.f (k : Nat) (l0 : List Int) (l1 : List Int) (l2 : List Int) : Option (Bool) := if (l0.length : Int) > 100 then (catamaranlaw01_NumTells.j0 k l0 l1 l2 true) else (if (l1.length : Int) > 100 then (catamaranlaw01_NumTells.j0 k l0 l1 l2 true) else (catamaranlaw01_NumTells.j0 k l0 l1 l2 (decide ((l2.length : Int) > 100))))
theorem catamaranlaw01_NumTells.mono_l : ∀ k, (∀ y0 y1 y2 y3, LeO (catamaranlaw01_NumTells.j0 k y0 y1 y2 y3) (catamaranlaw01_NumTells.j0 (k + 1) y0 y1 y2 y3)) ∧ (∀ y0 y1 y2 y3 y4 y5 y6 y7 y8, LeO (catamaranlaw01_NumTells.j1 k y0 y1 y2 y3 y4 y5 y6 y7 y8) (catamaranlaw01_NumTells.j1 (k + 1) y0 y1 y2 y3 y4 y5 y6 y7 y8)) ∧ (∀ y0 y1 y2 y3 y4 y5 y6 y7 y8 y9, LeO (catamaranlaw01_NumTells.l0 k y0 y1 y2 y3 y4 y5 y6 y7 y8 y9) (catamaranlaw01_NumTells.l0 (k + 1) y0 y1 y2 y3 y4 y5 y6 y7 y8 y9)) ∧ (∀ y0 y1 y2 y3 y4 y5 y6 y7 y8, LeO (catamaranlaw01_NumTells.l1 k y0 y1 y2 y3 y4 y5 y6 y7 y8) (catamaranlaw01_NumTells.l1 (k + 1) y0 y1 y2 y3 y4 y5 y6 y7 y8))
  | 0 => ⟨fun _ _ _ _ r h => by simp [catamaranlaw01_NumTells.j0] at h, fun _ _ _ _ _ _ _ _ _ r h => by simp [catamaranlaw01_NumTells.j1] at h, fun _ _ _ _ _ _ _ _ _ _ r h => by simp [catamaranlaw01_NumTells.l0] at h, fun _ _ _ _ _ _ _ _ _ r h => by simp [catamaranlaw01_NumTells.l1] at h⟩
  | k + 1 => by
    obtain ⟨ih0, ih1, ih2, ih3⟩ := catamaranlaw01_NumTells.mono_l k
    refine ⟨?_, ?_, ?_, ?_⟩
    · intro y0 y1 y2 y3
      unfold catamaranlaw01_NumTells.j0
      repeat' first
      | (with_reducible exact ih0 _ _ _ _)
      | (with_reducible exact ih1 _ _ _ _ _ _ _ _ _)
      | (with_reducible exact ih2 _ _ _ _ _ _ _ _ _ _)
      | (with_reducible exact ih3 _ _ _ _ _ _ _ _ _)
      | (with_reducible exact catamaranref01_Read.mono _ _ _)
      | (with_reducible exact catamaranref01_Same.mono _ _ _)
      | (with_reducible exact catamaranref01_SameInts.mono _ _ _)
      | (with_reducible exact catamaranref01_Size.mono _ _)
      | (with_reducible exact catamaranref01_Write.mono _ _ _)
      | (with_reducible exact num_Read.mono _ _ _)
      | (with_reducible exact num_Size.mono _ _)
      | (with_reducible exact LeO.refl _)
      | (with_reducible exact LeO.none _)
      | (with_reducible refine LeO.ite ?_ ?_)
      | (with_reducible refine LeO.bind ?_ (fun _ => ?_))
      | exact ih0 _ _ _ _
      | exact ih1 _ _ _ _ _ _ _ _ _
      | exact ih2 _ _ _ _ _ _ _ _ _ _
      | exact ih3 _ _ _ _ _ _ _ _ _
      | exact catamaranref01_Read.mono _ _ _
      | exact catamaranref01_Same.mono _ _ _
      | exact catamaranref01_SameInts.mono _ _ _
      | exact catamaranref01_Size.mono _ _
      | exact catamaranref01_Write.mono _ _ _
      | exact num_Read.mono _ _ _
      | exact num_Size.mono _ _
      | exact LeO.none _
      | refine LeO.ite ?_ ?_
      | refine LeO.bind ?_ (fun _ => ?_)
    · intro y0 y1 y2 y3 y4 y5 y6 y7 y8
      unfold catamaranlaw01_NumTells.j1
      repeat' first
      | (with_reducible exact ih0 _ _ _ _)
      | (with_reducible exact ih1 _ _ _ _ _ _ _ _ _)
      | (with_reducible exact ih2 _ _ _ _ _ _ _ _ _ _)
      | (with_reducible exact ih3 _ _ _ _ _ _ _ _ _)
      | (with_reducible exact catamaranref01_Read.mono _ _ _)
      | (with_reducible exact catamaranref01_Same.mono _ _ _)
      | (with_reducible exact catamaranref01_SameInts.mono _ _ _)
      | (with_reducible exact catamaranref01_Size.mono _ _)
      | (with_reducible exact catamaranref01_Write.mono _ _ _)
      | (with_reducible exact num_Read.mono _ _ _)
      | (with_reducible exact num_Size.mono _ _)
      | (with_reducible exact LeO.refl _)
      | (with_reducible exact LeO.none _)
      | (with_reducible refine LeO.ite ?_ ?_)
      | (with_reducible refine LeO.bind ?_ (fun _ => ?_))
      | exact ih0 _ _ _ _
      | exact ih1 _ _ _ _ _ _ _ _ _
      | exact ih2 _ _ _ _ _ _ _ _ _ _
      | exact ih3 _ _ _ _ _ _ _ _ _
      | exact catamaranref01_Read.mono _ _ _
      | exact catamaranref01_Same.mono _ _ _
      | exact catamaranref01_SameInts.mono _ _ _
      | exact catamaranref01_Size.mono _ _
      | exact catamaranref01_Write.mono _ _ _
      | exact num_Read.mono _ _ _
      | exact num_Size.mono _ _
      | exact LeO.none _
      | refine LeO.ite ?_ ?_
      | refine LeO.bind ?_ (fun _ => ?_)
    · intro y0 y1 y2 y3 y4 y5 y6 y7 y8 y9
      unfold catamaranlaw01_NumTells.l0
      repeat' first
      | (with_reducible exact ih0 _ _ _ _)
      | (with_reducible exact ih1 _ _ _ _ _ _ _ _ _)
      | (with_reducible exact ih2 _ _ _ _ _ _ _ _ _ _)
      | (with_reducible exact ih3 _ _ _ _ _ _ _ _ _)
      | (with_reducible exact catamaranref01_Read.mono _ _ _)
      | (with_reducible exact catamaranref01_Same.mono _ _ _)
      | (with_reducible exact catamaranref01_SameInts.mono _ _ _)
      | (with_reducible exact catamaranref01_Size.mono _ _)
      | (with_reducible exact catamaranref01_Write.mono _ _ _)
      | (with_reducible exact num_Read.mono _ _ _)
      | (with_reducible exact num_Size.mono _ _)
      | (with_reducible exact LeO.refl _)
      | (with_reducible exact LeO.none _)
      | (with_reducible refine LeO.ite ?_ ?_)
      | (with_reducible refine LeO.bind ?_ (fun _ => ?_))
      | exact ih0 _ _ _ _
      | exact ih1 _ _ _ _ _ _ _ _ _
      | exact ih2 _ _ _ _ _ _ _ _ _ _
      | exact ih3 _ _ _ _ _ _ _ _ _
      | exact catamaranref01_Read.mono _ _ _
      | exact catamaranref01_Same.mono _ _ _
      | exact catamaranref01_SameInts.mono _ _ _
      | exact catamaranref01_Size.mono _ _
      | exact catamaranref01_Write.mono _ _ _
      | exact num_Read.mono _ _ _
      | exact num_Size.mono _ _
      | exact LeO.none _
      | refine LeO.ite ?_ ?_
      | refine LeO.bind ?_ (fun _ => ?_)
    · intro y0 y1 y2 y3 y4 y5 y6 y7 y8
      unfold catamaranlaw01_NumTells.l1
      repeat' first
      | (with_reducible exact ih0 _ _ _ _)
      | (with_reducible exact ih1 _ _ _ _ _ _ _ _ _)
      | (with_reducible exact ih2 _ _ _ _ _ _ _ _ _ _)
      | (with_reducible exact ih3 _ _ _ _ _ _ _ _ _)
      | (with_reducible exact catamaranref01_Read.mono _ _ _)
      | (with_reducible exact catamaranref01_Same.mono _ _ _)
      | (with_reducible exact catamaranref01_SameInts.mono _ _ _)
      | (with_reducible exact catamaranref01_Size.mono _ _)
      | (with_reducible exact catamaranref01_Write.mono _ _ _)
      | (with_reducible exact num_Read.mono _ _ _)
      | (with_reducible exact num_Size.mono _ _)
      | (with_reducible exact LeO.refl _)
      | (with_reducible exact LeO.none _)
      | (with_reducible refine LeO.ite ?_ ?_)
      | (with_reducible refine LeO.bind ?_ (fun _ => ?_))
      | exact ih0 _ _ _ _
      | exact ih1 _ _ _ _ _ _ _ _ _
      | exact ih2 _ _ _ _ _ _ _ _ _ _
      | exact ih3 _ _ _ _ _ _ _ _ _
      | exact catamaranref01_Read.mono _ _ _
      | exact catamaranref01_Same.mono _ _ _
      | exact catamaranref01_SameInts.mono _ _ _
      | exact catamaranref01_Size.mono _ _
      | exact catamaranref01_Write.mono _ _ _
      | exact num_Read.mono _ _ _
      | exact num_Size.mono _ _
      | exact LeO.none _
      | refine LeO.ite ?_ ?_
      | refine LeO.bind ?_ (fun _ => ?_)
theorem catamaranlaw01_NumTells.mono : ∀ a0 a1 a2 k, LeO (catamaranlaw01_NumTells.f k a0 a1 a2) (catamaranlaw01_NumTells.f (k + 1) a0 a1 a2) := by
  intro a0 a1 a2 k
  obtain ⟨ih0, ih1, ih2, ih3⟩ := catamaranlaw01_NumTells.mono_l k
  unfold catamaranlaw01_NumTells.f
  repeat' first
      | (with_reducible exact ih0 _ _ _ _)
      | (with_reducible exact ih1 _ _ _ _ _ _ _ _ _)
      | (with_reducible exact ih2 _ _ _ _ _ _ _ _ _ _)
      | (with_reducible exact ih3 _ _ _ _ _ _ _ _ _)
      | (with_reducible exact catamaranref01_Read.mono _ _ _)
      | (with_reducible exact catamaranref01_Same.mono _ _ _)
      | (with_reducible exact catamaranref01_SameInts.mono _ _ _)
      | (with_reducible exact catamaranref01_Size.mono _ _)
      | (with_reducible exact catamaranref01_Write.mono _ _ _)
      | (with_reducible exact num_Read.mono _ _ _)
      | (with_reducible exact num_Size.mono _ _)
      | (with_reducible exact LeO.refl _)
      | (with_reducible exact LeO.none _)
      | (with_reducible refine LeO.ite ?_ ?_)
      | (with_reducible refine LeO.bind ?_ (fun _ => ?_))
      | exact ih0 _ _ _ _
      | exact ih1 _ _ _ _ _ _ _ _ _
      | exact ih2 _ _ _ _ _ _ _ _ _ _
      | exact ih3 _ _ _ _ _ _ _ _ _
      | exact catamaranref01_Read.mono _ _ _
      | exact catamaranref01_Same.mono _ _ _
      | exact catamaranref01_SameInts.mono _ _ _
      | exact catamaranref01_Size.mono _ _
      | exact catamaranref01_Write.mono _ _ _
      | exact num_Read.mono _ _ _
      | exact num_Size.mono _ _
      | exact LeO.none _
      | refine LeO.ite ?_ ?_
      | refine LeO.bind ?_ (fun _ => ?_)
set_option maxHeartbeats 8000000 in
set_option maxRecDepth 100000 in
theorem catamaranlaw01_NumTells.calls (k : Nat) (A0 : Option Addr) (c0 : Nat) (l0 : List Int) (A1 : Option Addr) (c1 : Nat) (l1 : List Int) (A2 : Option Addr) (c2 : Nat) (l2 : List Int) (r : Bool) (w : World) (hr0 : Kd.C (Kd.int .u64) w A0 l0.length l0) (hc0 : l0.length ≤ c0) (hr1 : Kd.C (Kd.int .i64) w A1 l1.length l1) (hc1 : l1.length ≤ c1) (hr2 : Kd.C (Kd.int .u8) w A2 l2.length l2) (hc2 : l2.length ≤ c2) (h : catamaranlaw01_NumTells.f k l0 l1 l2 = some r) (hT_ : Aside0 (r = true)) :
    Calls Try.prog 10 #[.slice A0 l0.length c0, .slice A1 l1.length c1, .slice A2 l2.length c2] w fun e w' => e = .returned (.bool r) ∧ Below w.heap.size w w' := by
  have HR0 := Aside0.mk hr0
  have HC0 := Aside0.mk hc0
  clear hr0 hc0
  have HR1 := Aside0.mk hr1
  have HC1 := Aside0.mk hc1
  clear hr1 hc1
  have HR2 := Aside0.mk hr2
  have HC2 := Aside0.mk hc2
  clear hr2 hc2
  have HB := Aside0.mk (Below.refl w.heap.size w)
  have H : (if (l0.length : Int) > 100 then (catamaranlaw01_NumTells.j0 k l0 l1 l2 true) else (if (l1.length : Int) > 100 then (catamaranlaw01_NumTells.j0 k l0 l1 l2 true) else (catamaranlaw01_NumTells.j0 k l0 l1 l2 (decide ((l2.length : Int) > 100))))) = some r := h
  clear h
  have HC4 := Aside0.mk H
  clear H
  go_enter Try.func10, Try.ntmps10
  go_upto_region 1 with (fail)
  go_cut [37] (fun v37 wc => ∃ (kq : Nat) (x37_3 : Bool), v37 = .bool x37_3 ∧ Aside0 (catamaranlaw01_NumTells.j0 kq l0 l1 l2 x37_3 = some r) ∧ Aside0 (kq ≤ k) ∧ Aside0 (Below w.heap.size w wc))
  case first =>
    have H := HC4.out
    clear HC4
    by_cases c5 : (l0.length : Int) > 100
    · rw [if_pos c5] at H
      have c5b0 : decide (100 < (l0.length : Int)) = true := decide_eq_true c5
      have c5b1 : decide (100 < l0.length) = true := decide_eq_true (by omega)
      clear c5
      (first | rw [c5b0] | (simp only [i64_w, i32_w]; rw [c5b0]) | skip)
      have H' := Aside0.mk H
      clear H
      go_wp2
      go_meet
      case rel => exact ⟨_, (true), (by first | rfl | (simp; done) | (simp [*]; done)), H', ⟨by first | omega | exact Nat.le_refl _⟩, ⟨by repeat (first | (with_reducible first | exact HB.out | apply below_alloc | apply pw_below_drewN | apply below_drew1) | exact HB.out)⟩⟩
    · rw [if_neg c5] at H
      have c5b0 : decide (100 < (l0.length : Int)) = false := decide_eq_false c5
      have c5b1 : decide (100 < l0.length) = false := decide_eq_false (by omega)
      clear c5
      (first | rw [c5b0] | (simp only [i64_w, i32_w]; rw [c5b0]) | skip)
      by_cases c6 : (l1.length : Int) > 100
      · rw [if_pos c6] at H
        have c6b0 : decide (100 < (l1.length : Int)) = true := decide_eq_true c6
        have c6b1 : decide (100 < l1.length) = true := decide_eq_true (by omega)
        clear c6
        have H' := Aside0.mk H
        clear H
        go_wp2
        go_meet
        case rel => exact ⟨_, (true), (by first | rfl | (simp; done) | (simp [*]; done)), H', ⟨by first | omega | exact Nat.le_refl _⟩, ⟨by repeat (first | (with_reducible first | exact HB.out | apply below_alloc | apply pw_below_drewN | apply below_drew1) | exact HB.out)⟩⟩
      · rw [if_neg c6] at H
        have c6b0 : decide (100 < (l1.length : Int)) = false := decide_eq_false c6
        have c6b1 : decide (100 < l1.length) = false := decide_eq_false (by omega)
        clear c6
        have H' := Aside0.mk H
        clear H
        go_wp2
        go_meet
        case rel => exact ⟨_, (decide ((l2.length : Int) > 100)), (by first | rfl | (simp; done) | (simp [*]; done)), H', ⟨by first | omega | exact Nat.le_refl _⟩, ⟨by repeat (first | (with_reducible first | exact HB.out | apply below_alloc | apply pw_below_drewN | apply below_drew1) | exact HB.out)⟩⟩
  case rest =>
    clear HC4
    try clear c1
    try clear c2
    try clear p2
    try clear c5
    try clear c5b0
    try clear c5b1
    try clear c6
    try clear c6b0
    try clear c6b1
    obtain ⟨kq, x37_3, rfl, HA, HJ3, HB⟩ := hcut
    cases kq with
    | zero => exact absurd HA.out (by simp [catamaranlaw01_NumTells.j0])
    | succ kj3 =>
      have H := HA.out
      clear HA
      simp only [catamaranlaw01_NumTells.j0] at H
      by_cases c7 : x37_3 = true
      · subst c7
        have H1 : (some true) = some r := by rw [if_pos rfl] at H; exact H
        clear H
        have H := H1
        clear H1
        obtain rfl := Option.some.inj H
        go_wp2
        go_ret
        exact ⟨by first | rfl | (simp [errW_none, errW_some] <;> rfl) | (simp [*, errW_none, errW_some] <;> rfl), by repeat (first | (with_reducible first | exact HB.out | apply below_alloc | apply pw_below_drewN | apply below_drew1) | exact HB.out)⟩
      · replace c7 := Bool.eq_false_iff.mpr c7
        subst c7
        have H1 : ((some (([] : List Int) : List Int)).bind fun y246 => (if y246.length + l0.length < 17592186044416 then ((some (y246 ++ l0 : List Int)).bind fun y249 => ((some (([] : List Int) : List Int)).bind fun y252 => (if y252.length + l1.length < 17592186044416 then ((some (y252 ++ l1 : List Int)).bind fun y255 => ((some (([] : List Int) : List Int)).bind fun y258 => (if y258.length + l2.length < 140737488355328 then ((some (y258 ++ l2 : List Int)).bind fun y261 => ((num_Size.f kj3 y255).bind fun bt264 => ((catamaranref01_Size.f kj3 l1).bind fun bt266 => ((num_Write.f y249 y255).bind fun bt268 => ((catamaranref01_Write.f kj3 l0 l1).bind fun bt272 => ((num_Read.f kj3 y261 y255).bind fun bt276 => ((catamaranref01_Read.f kj3 l2 l1).bind fun bt280 => (if bt264.1 = bt266.1 then (if bt264.2 = bt266.2 then (if (strOfNums bt268.1).toList = (strOfNums bt272.1).toList then (if bt268.2 = bt272.2 then ((catamaranref01_Same.f kj3 bt276.1 bt280.1).bind fun t284 => (if t284 = true then (catamaranlaw01_NumTells.j1 kj3 l0 l1 l2 y249 y255 y261 bt268.1 bt276.1 (bt276.2 == bt280.2)) else (catamaranlaw01_NumTells.j1 kj3 l0 l1 l2 y249 y255 y261 bt268.1 bt276.1 false))) else (catamaranlaw01_NumTells.j1 kj3 l0 l1 l2 y249 y255 y261 bt268.1 bt276.1 false)) else (catamaranlaw01_NumTells.j1 kj3 l0 l1 l2 y249 y255 y261 bt268.1 bt276.1 false)) else (catamaranlaw01_NumTells.j1 kj3 l0 l1 l2 y249 y255 y261 bt268.1 bt276.1 false)) else (catamaranlaw01_NumTells.j1 kj3 l0 l1 l2 y249 y255 y261 bt268.1 bt276.1 false))))))))) else (none)))) else (none)))) else (none))) = some r := by rw [if_neg (show ¬ (false = true) by decide)] at H; exact H
        clear H
        have H := H1
        clear H1
        obtain ⟨y246, hy246⟩ : ∃ y_ : List Int, y_ = (([] : List Int)) := ⟨_, rfl⟩
        replace H : (if y246.length + l0.length < 17592186044416 then ((some (y246 ++ l0 : List Int)).bind fun y249 => ((some (([] : List Int) : List Int)).bind fun y252 => (if y252.length + l1.length < 17592186044416 then ((some (y252 ++ l1 : List Int)).bind fun y255 => ((some (([] : List Int) : List Int)).bind fun y258 => (if y258.length + l2.length < 140737488355328 then ((some (y258 ++ l2 : List Int)).bind fun y261 => ((num_Size.f kj3 y255).bind fun bt264 => ((catamaranref01_Size.f kj3 l1).bind fun bt266 => ((num_Write.f y249 y255).bind fun bt268 => ((catamaranref01_Write.f kj3 l0 l1).bind fun bt272 => ((num_Read.f kj3 y261 y255).bind fun bt276 => ((catamaranref01_Read.f kj3 l2 l1).bind fun bt280 => (if bt264.1 = bt266.1 then (if bt264.2 = bt266.2 then (if (strOfNums bt268.1).toList = (strOfNums bt272.1).toList then (if bt268.2 = bt272.2 then ((catamaranref01_Same.f kj3 bt276.1 bt280.1).bind fun t284 => (if t284 = true then (catamaranlaw01_NumTells.j1 kj3 l0 l1 l2 y249 y255 y261 bt268.1 bt276.1 (bt276.2 == bt280.2)) else (catamaranlaw01_NumTells.j1 kj3 l0 l1 l2 y249 y255 y261 bt268.1 bt276.1 false))) else (catamaranlaw01_NumTells.j1 kj3 l0 l1 l2 y249 y255 y261 bt268.1 bt276.1 false)) else (catamaranlaw01_NumTells.j1 kj3 l0 l1 l2 y249 y255 y261 bt268.1 bt276.1 false)) else (catamaranlaw01_NumTells.j1 kj3 l0 l1 l2 y249 y255 y261 bt268.1 bt276.1 false)) else (catamaranlaw01_NumTells.j1 kj3 l0 l1 l2 y249 y255 y261 bt268.1 bt276.1 false))))))))) else (none)))) else (none)))) else (none)) = some r := by first | (rw [hy246]; with_reducible exact H) | (have H2_ := (Option.bind_some _ _).symm.trans H; rw [hy246]; with_reducible exact H2_) | (have H2_ := (Option.bind_some _ _).symm.trans H; with_reducible exact H2_) | with_reducible exact H | (rw [hy246]; exact H) | exact H
        have Ny246 := Aside0.mk hy246
        clear hy246
        by_cases c8 : y246.length + l0.length < 17592186044416
        · rw [if_pos c8] at H
          have LMc8 := Aside0.mk c8
          clear c8
          obtain ⟨y249, hy249⟩ : ∃ y_ : List Int, y_ = (y246 ++ l0) := ⟨_, rfl⟩
          replace H : ((some (([] : List Int) : List Int)).bind fun y252 => (if y252.length + l1.length < 17592186044416 then ((some (y252 ++ l1 : List Int)).bind fun y255 => ((some (([] : List Int) : List Int)).bind fun y258 => (if y258.length + l2.length < 140737488355328 then ((some (y258 ++ l2 : List Int)).bind fun y261 => ((num_Size.f kj3 y255).bind fun bt264 => ((catamaranref01_Size.f kj3 l1).bind fun bt266 => ((num_Write.f y249 y255).bind fun bt268 => ((catamaranref01_Write.f kj3 l0 l1).bind fun bt272 => ((num_Read.f kj3 y261 y255).bind fun bt276 => ((catamaranref01_Read.f kj3 l2 l1).bind fun bt280 => (if bt264.1 = bt266.1 then (if bt264.2 = bt266.2 then (if (strOfNums bt268.1).toList = (strOfNums bt272.1).toList then (if bt268.2 = bt272.2 then ((catamaranref01_Same.f kj3 bt276.1 bt280.1).bind fun t284 => (if t284 = true then (catamaranlaw01_NumTells.j1 kj3 l0 l1 l2 y249 y255 y261 bt268.1 bt276.1 (bt276.2 == bt280.2)) else (catamaranlaw01_NumTells.j1 kj3 l0 l1 l2 y249 y255 y261 bt268.1 bt276.1 false))) else (catamaranlaw01_NumTells.j1 kj3 l0 l1 l2 y249 y255 y261 bt268.1 bt276.1 false)) else (catamaranlaw01_NumTells.j1 kj3 l0 l1 l2 y249 y255 y261 bt268.1 bt276.1 false)) else (catamaranlaw01_NumTells.j1 kj3 l0 l1 l2 y249 y255 y261 bt268.1 bt276.1 false)) else (catamaranlaw01_NumTells.j1 kj3 l0 l1 l2 y249 y255 y261 bt268.1 bt276.1 false))))))))) else (none)))) else (none))) = some r := by first | (rw [hy249]; with_reducible exact H) | (have H2_ := (Option.bind_some _ _).symm.trans H; rw [hy249]; with_reducible exact H2_) | (have H2_ := (Option.bind_some _ _).symm.trans H; with_reducible exact H2_) | with_reducible exact H | (rw [hy249]; exact H) | exact H
          have Ny249 := Aside0.mk hy249
          clear hy249
          obtain ⟨y252, hy252⟩ : ∃ y_ : List Int, y_ = (([] : List Int)) := ⟨_, rfl⟩
          replace H : (if y252.length + l1.length < 17592186044416 then ((some (y252 ++ l1 : List Int)).bind fun y255 => ((some (([] : List Int) : List Int)).bind fun y258 => (if y258.length + l2.length < 140737488355328 then ((some (y258 ++ l2 : List Int)).bind fun y261 => ((num_Size.f kj3 y255).bind fun bt264 => ((catamaranref01_Size.f kj3 l1).bind fun bt266 => ((num_Write.f y249 y255).bind fun bt268 => ((catamaranref01_Write.f kj3 l0 l1).bind fun bt272 => ((num_Read.f kj3 y261 y255).bind fun bt276 => ((catamaranref01_Read.f kj3 l2 l1).bind fun bt280 => (if bt264.1 = bt266.1 then (if bt264.2 = bt266.2 then (if (strOfNums bt268.1).toList = (strOfNums bt272.1).toList then (if bt268.2 = bt272.2 then ((catamaranref01_Same.f kj3 bt276.1 bt280.1).bind fun t284 => (if t284 = true then (catamaranlaw01_NumTells.j1 kj3 l0 l1 l2 y249 y255 y261 bt268.1 bt276.1 (bt276.2 == bt280.2)) else (catamaranlaw01_NumTells.j1 kj3 l0 l1 l2 y249 y255 y261 bt268.1 bt276.1 false))) else (catamaranlaw01_NumTells.j1 kj3 l0 l1 l2 y249 y255 y261 bt268.1 bt276.1 false)) else (catamaranlaw01_NumTells.j1 kj3 l0 l1 l2 y249 y255 y261 bt268.1 bt276.1 false)) else (catamaranlaw01_NumTells.j1 kj3 l0 l1 l2 y249 y255 y261 bt268.1 bt276.1 false)) else (catamaranlaw01_NumTells.j1 kj3 l0 l1 l2 y249 y255 y261 bt268.1 bt276.1 false))))))))) else (none)))) else (none)) = some r := by first | (rw [hy252]; with_reducible exact H) | (have H2_ := (Option.bind_some _ _).symm.trans H; rw [hy252]; with_reducible exact H2_) | (have H2_ := (Option.bind_some _ _).symm.trans H; with_reducible exact H2_) | with_reducible exact H | (rw [hy252]; exact H) | exact H
          have Ny252 := Aside0.mk hy252
          clear hy252
          by_cases c9 : y252.length + l1.length < 17592186044416
          · rw [if_pos c9] at H
            have LMc9 := Aside0.mk c9
            clear c9
            obtain ⟨y255, hy255⟩ : ∃ y_ : List Int, y_ = (y252 ++ l1) := ⟨_, rfl⟩
            replace H : ((some (([] : List Int) : List Int)).bind fun y258 => (if y258.length + l2.length < 140737488355328 then ((some (y258 ++ l2 : List Int)).bind fun y261 => ((num_Size.f kj3 y255).bind fun bt264 => ((catamaranref01_Size.f kj3 l1).bind fun bt266 => ((num_Write.f y249 y255).bind fun bt268 => ((catamaranref01_Write.f kj3 l0 l1).bind fun bt272 => ((num_Read.f kj3 y261 y255).bind fun bt276 => ((catamaranref01_Read.f kj3 l2 l1).bind fun bt280 => (if bt264.1 = bt266.1 then (if bt264.2 = bt266.2 then (if (strOfNums bt268.1).toList = (strOfNums bt272.1).toList then (if bt268.2 = bt272.2 then ((catamaranref01_Same.f kj3 bt276.1 bt280.1).bind fun t284 => (if t284 = true then (catamaranlaw01_NumTells.j1 kj3 l0 l1 l2 y249 y255 y261 bt268.1 bt276.1 (bt276.2 == bt280.2)) else (catamaranlaw01_NumTells.j1 kj3 l0 l1 l2 y249 y255 y261 bt268.1 bt276.1 false))) else (catamaranlaw01_NumTells.j1 kj3 l0 l1 l2 y249 y255 y261 bt268.1 bt276.1 false)) else (catamaranlaw01_NumTells.j1 kj3 l0 l1 l2 y249 y255 y261 bt268.1 bt276.1 false)) else (catamaranlaw01_NumTells.j1 kj3 l0 l1 l2 y249 y255 y261 bt268.1 bt276.1 false)) else (catamaranlaw01_NumTells.j1 kj3 l0 l1 l2 y249 y255 y261 bt268.1 bt276.1 false))))))))) else (none))) = some r := by first | (rw [hy255]; with_reducible exact H) | (have H2_ := (Option.bind_some _ _).symm.trans H; rw [hy255]; with_reducible exact H2_) | (have H2_ := (Option.bind_some _ _).symm.trans H; with_reducible exact H2_) | with_reducible exact H | (rw [hy255]; exact H) | exact H
            have Ny255 := Aside0.mk hy255
            clear hy255
            obtain ⟨y258, hy258⟩ : ∃ y_ : List Int, y_ = (([] : List Int)) := ⟨_, rfl⟩
            replace H : (if y258.length + l2.length < 140737488355328 then ((some (y258 ++ l2 : List Int)).bind fun y261 => ((num_Size.f kj3 y255).bind fun bt264 => ((catamaranref01_Size.f kj3 l1).bind fun bt266 => ((num_Write.f y249 y255).bind fun bt268 => ((catamaranref01_Write.f kj3 l0 l1).bind fun bt272 => ((num_Read.f kj3 y261 y255).bind fun bt276 => ((catamaranref01_Read.f kj3 l2 l1).bind fun bt280 => (if bt264.1 = bt266.1 then (if bt264.2 = bt266.2 then (if (strOfNums bt268.1).toList = (strOfNums bt272.1).toList then (if bt268.2 = bt272.2 then ((catamaranref01_Same.f kj3 bt276.1 bt280.1).bind fun t284 => (if t284 = true then (catamaranlaw01_NumTells.j1 kj3 l0 l1 l2 y249 y255 y261 bt268.1 bt276.1 (bt276.2 == bt280.2)) else (catamaranlaw01_NumTells.j1 kj3 l0 l1 l2 y249 y255 y261 bt268.1 bt276.1 false))) else (catamaranlaw01_NumTells.j1 kj3 l0 l1 l2 y249 y255 y261 bt268.1 bt276.1 false)) else (catamaranlaw01_NumTells.j1 kj3 l0 l1 l2 y249 y255 y261 bt268.1 bt276.1 false)) else (catamaranlaw01_NumTells.j1 kj3 l0 l1 l2 y249 y255 y261 bt268.1 bt276.1 false)) else (catamaranlaw01_NumTells.j1 kj3 l0 l1 l2 y249 y255 y261 bt268.1 bt276.1 false))))))))) else (none)) = some r := by first | (rw [hy258]; with_reducible exact H) | (have H2_ := (Option.bind_some _ _).symm.trans H; rw [hy258]; with_reducible exact H2_) | (have H2_ := (Option.bind_some _ _).symm.trans H; with_reducible exact H2_) | with_reducible exact H | (rw [hy258]; exact H) | exact H
            have Ny258 := Aside0.mk hy258
            clear hy258
            by_cases c10 : y258.length + l2.length < 140737488355328
            · rw [if_pos c10] at H
              have LMc10 := Aside0.mk c10
              clear c10
              obtain ⟨y261, hy261⟩ : ∃ y_ : List Int, y_ = (y258 ++ l2) := ⟨_, rfl⟩
              replace H : ((num_Size.f kj3 y255).bind fun bt264 => ((catamaranref01_Size.f kj3 l1).bind fun bt266 => ((num_Write.f y249 y255).bind fun bt268 => ((catamaranref01_Write.f kj3 l0 l1).bind fun bt272 => ((num_Read.f kj3 y261 y255).bind fun bt276 => ((catamaranref01_Read.f kj3 l2 l1).bind fun bt280 => (if bt264.1 = bt266.1 then (if bt264.2 = bt266.2 then (if (strOfNums bt268.1).toList = (strOfNums bt272.1).toList then (if bt268.2 = bt272.2 then ((catamaranref01_Same.f kj3 bt276.1 bt280.1).bind fun t284 => (if t284 = true then (catamaranlaw01_NumTells.j1 kj3 l0 l1 l2 y249 y255 y261 bt268.1 bt276.1 (bt276.2 == bt280.2)) else (catamaranlaw01_NumTells.j1 kj3 l0 l1 l2 y249 y255 y261 bt268.1 bt276.1 false))) else (catamaranlaw01_NumTells.j1 kj3 l0 l1 l2 y249 y255 y261 bt268.1 bt276.1 false)) else (catamaranlaw01_NumTells.j1 kj3 l0 l1 l2 y249 y255 y261 bt268.1 bt276.1 false)) else (catamaranlaw01_NumTells.j1 kj3 l0 l1 l2 y249 y255 y261 bt268.1 bt276.1 false)) else (catamaranlaw01_NumTells.j1 kj3 l0 l1 l2 y249 y255 y261 bt268.1 bt276.1 false)))))))) = some r := by first | (rw [hy261]; with_reducible exact H) | (have H2_ := (Option.bind_some _ _).symm.trans H; rw [hy261]; with_reducible exact H2_) | (have H2_ := (Option.bind_some _ _).symm.trans H; with_reducible exact H2_) | with_reducible exact H | (rw [hy261]; exact H) | exact H
              have Ny261 := Aside0.mk hy261
              clear hy261
              replace H := Option.bind_eq_some_iff.mp H
              obtain ⟨⟨t264, t265⟩, A110, H⟩ := H
              replace H : ((catamaranref01_Size.f kj3 l1).bind fun bt266 => ((num_Write.f y249 y255).bind fun bt268 => ((catamaranref01_Write.f kj3 l0 l1).bind fun bt272 => ((num_Read.f kj3 y261 y255).bind fun bt276 => ((catamaranref01_Read.f kj3 l2 l1).bind fun bt280 => (if t264 = bt266.1 then (if t265 = bt266.2 then (if (strOfNums bt268.1).toList = (strOfNums bt272.1).toList then (if bt268.2 = bt272.2 then ((catamaranref01_Same.f kj3 bt276.1 bt280.1).bind fun t284 => (if t284 = true then (catamaranlaw01_NumTells.j1 kj3 l0 l1 l2 y249 y255 y261 bt268.1 bt276.1 (bt276.2 == bt280.2)) else (catamaranlaw01_NumTells.j1 kj3 l0 l1 l2 y249 y255 y261 bt268.1 bt276.1 false))) else (catamaranlaw01_NumTells.j1 kj3 l0 l1 l2 y249 y255 y261 bt268.1 bt276.1 false)) else (catamaranlaw01_NumTells.j1 kj3 l0 l1 l2 y249 y255 y261 bt268.1 bt276.1 false)) else (catamaranlaw01_NumTells.j1 kj3 l0 l1 l2 y249 y255 y261 bt268.1 bt276.1 false)) else (catamaranlaw01_NumTells.j1 kj3 l0 l1 l2 y249 y255 y261 bt268.1 bt276.1 false))))))) = some r := H
              have A11 := Aside0.mk A110
              clear A110
              replace H := Option.bind_eq_some_iff.mp H
              obtain ⟨⟨t266, t267⟩, A120, H⟩ := H
              replace H : ((num_Write.f y249 y255).bind fun bt268 => ((catamaranref01_Write.f kj3 l0 l1).bind fun bt272 => ((num_Read.f kj3 y261 y255).bind fun bt276 => ((catamaranref01_Read.f kj3 l2 l1).bind fun bt280 => (if t264 = t266 then (if t265 = t267 then (if (strOfNums bt268.1).toList = (strOfNums bt272.1).toList then (if bt268.2 = bt272.2 then ((catamaranref01_Same.f kj3 bt276.1 bt280.1).bind fun t284 => (if t284 = true then (catamaranlaw01_NumTells.j1 kj3 l0 l1 l2 y249 y255 y261 bt268.1 bt276.1 (bt276.2 == bt280.2)) else (catamaranlaw01_NumTells.j1 kj3 l0 l1 l2 y249 y255 y261 bt268.1 bt276.1 false))) else (catamaranlaw01_NumTells.j1 kj3 l0 l1 l2 y249 y255 y261 bt268.1 bt276.1 false)) else (catamaranlaw01_NumTells.j1 kj3 l0 l1 l2 y249 y255 y261 bt268.1 bt276.1 false)) else (catamaranlaw01_NumTells.j1 kj3 l0 l1 l2 y249 y255 y261 bt268.1 bt276.1 false)) else (catamaranlaw01_NumTells.j1 kj3 l0 l1 l2 y249 y255 y261 bt268.1 bt276.1 false)))))) = some r := H
              have A12 := Aside0.mk A120
              clear A120
              replace H := Option.bind_eq_some_iff.mp H
              obtain ⟨⟨t268, t269⟩, A130, H⟩ := H
              replace H : ((catamaranref01_Write.f kj3 l0 l1).bind fun bt272 => ((num_Read.f kj3 y261 y255).bind fun bt276 => ((catamaranref01_Read.f kj3 l2 l1).bind fun bt280 => (if t264 = t266 then (if t265 = t267 then (if (strOfNums t268).toList = (strOfNums bt272.1).toList then (if t269 = bt272.2 then ((catamaranref01_Same.f kj3 bt276.1 bt280.1).bind fun t284 => (if t284 = true then (catamaranlaw01_NumTells.j1 kj3 l0 l1 l2 y249 y255 y261 t268 bt276.1 (bt276.2 == bt280.2)) else (catamaranlaw01_NumTells.j1 kj3 l0 l1 l2 y249 y255 y261 t268 bt276.1 false))) else (catamaranlaw01_NumTells.j1 kj3 l0 l1 l2 y249 y255 y261 t268 bt276.1 false)) else (catamaranlaw01_NumTells.j1 kj3 l0 l1 l2 y249 y255 y261 t268 bt276.1 false)) else (catamaranlaw01_NumTells.j1 kj3 l0 l1 l2 y249 y255 y261 t268 bt276.1 false)) else (catamaranlaw01_NumTells.j1 kj3 l0 l1 l2 y249 y255 y261 t268 bt276.1 false))))) = some r := H
              have A13 := Aside0.mk A130
              clear A130
              replace H := Option.bind_eq_some_iff.mp H
              obtain ⟨⟨t272, t273⟩, A140, H⟩ := H
              replace H : ((num_Read.f kj3 y261 y255).bind fun bt276 => ((catamaranref01_Read.f kj3 l2 l1).bind fun bt280 => (if t264 = t266 then (if t265 = t267 then (if (strOfNums t268).toList = (strOfNums t272).toList then (if t269 = t273 then ((catamaranref01_Same.f kj3 bt276.1 bt280.1).bind fun t284 => (if t284 = true then (catamaranlaw01_NumTells.j1 kj3 l0 l1 l2 y249 y255 y261 t268 bt276.1 (bt276.2 == bt280.2)) else (catamaranlaw01_NumTells.j1 kj3 l0 l1 l2 y249 y255 y261 t268 bt276.1 false))) else (catamaranlaw01_NumTells.j1 kj3 l0 l1 l2 y249 y255 y261 t268 bt276.1 false)) else (catamaranlaw01_NumTells.j1 kj3 l0 l1 l2 y249 y255 y261 t268 bt276.1 false)) else (catamaranlaw01_NumTells.j1 kj3 l0 l1 l2 y249 y255 y261 t268 bt276.1 false)) else (catamaranlaw01_NumTells.j1 kj3 l0 l1 l2 y249 y255 y261 t268 bt276.1 false)))) = some r := H
              have A14 := Aside0.mk A140
              clear A140
              replace H := Option.bind_eq_some_iff.mp H
              obtain ⟨⟨t276, t279⟩, A150, H⟩ := H
              replace H : ((catamaranref01_Read.f kj3 l2 l1).bind fun bt280 => (if t264 = t266 then (if t265 = t267 then (if (strOfNums t268).toList = (strOfNums t272).toList then (if t269 = t273 then ((catamaranref01_Same.f kj3 t276 bt280.1).bind fun t284 => (if t284 = true then (catamaranlaw01_NumTells.j1 kj3 l0 l1 l2 y249 y255 y261 t268 t276 (t279 == bt280.2)) else (catamaranlaw01_NumTells.j1 kj3 l0 l1 l2 y249 y255 y261 t268 t276 false))) else (catamaranlaw01_NumTells.j1 kj3 l0 l1 l2 y249 y255 y261 t268 t276 false)) else (catamaranlaw01_NumTells.j1 kj3 l0 l1 l2 y249 y255 y261 t268 t276 false)) else (catamaranlaw01_NumTells.j1 kj3 l0 l1 l2 y249 y255 y261 t268 t276 false)) else (catamaranlaw01_NumTells.j1 kj3 l0 l1 l2 y249 y255 y261 t268 t276 false))) = some r := H
              have A15 := Aside0.mk A150
              clear A150
              replace H := Option.bind_eq_some_iff.mp H
              obtain ⟨⟨t280, t281⟩, A160, H⟩ := H
              replace H : (if t264 = t266 then (if t265 = t267 then (if (strOfNums t268).toList = (strOfNums t272).toList then (if t269 = t273 then ((catamaranref01_Same.f kj3 t276 t280).bind fun t284 => (if t284 = true then (catamaranlaw01_NumTells.j1 kj3 l0 l1 l2 y249 y255 y261 t268 t276 (t279 == t281)) else (catamaranlaw01_NumTells.j1 kj3 l0 l1 l2 y249 y255 y261 t268 t276 false))) else (catamaranlaw01_NumTells.j1 kj3 l0 l1 l2 y249 y255 y261 t268 t276 false)) else (catamaranlaw01_NumTells.j1 kj3 l0 l1 l2 y249 y255 y261 t268 t276 false)) else (catamaranlaw01_NumTells.j1 kj3 l0 l1 l2 y249 y255 y261 t268 t276 false)) else (catamaranlaw01_NumTells.j1 kj3 l0 l1 l2 y249 y255 y261 t268 t276 false)) = some r := H
              have A16 := Aside0.mk A160
              clear A160
              have HC17 := Aside0.mk H
              clear H
              go_upto_region 10 with (first | ((with_reducible refine gate_dst (N := 38) rfl ?_); (try (refine gate_guard (by rfl) ?_; dsimp only)); refine Kd.R_lit (Kd.int .u64) _ 38 ?hg (N := 38) ?hd (xs := ([] : List Int)) (inner := []) (ok := fun _ => True) (okp := fun _ => True) ?hr ?hp (fun _ hk => hk) trivial (Below.refl _ _) (Nat.le_refl _) (by simp) ?_; (case hd => rfl); (case hg => rfl); (case hr => first | (go_simp; done) | (go_simp; rfl)); (case hp => exact (Reps.none _ _)); intro v247 w18 ho19 hb hg_ hnew_; clear hg_ hnew_; (first | rw [← Ny246.out] at ho19 | (simp only [Int.reduceToNat] at ho19; rw [← Ny246.out] at ho19)); have n0_ := Aside0.mk (Kd.R_lower ho19 (below_size (by repeat (first | (with_reducible first | exact HB.out | apply below_alloc | apply pw_below_drewN | apply below_drew1) | exact HB.out)))); have n1_ := Aside0.mk (below_step (by repeat (first | (with_reducible first | exact HB.out | apply below_alloc | apply pw_below_drewN | apply below_drew1) | exact HB.out)) hb); clear HB; have HO248 := n0_; have HB := n1_; clear n0_ n1_; clear hb ho19) | ((with_reducible refine gate_builtin (b := .append) (xs := #[.tmp 38, .tmp 39]) rfl ?_); (try (refine gate_guard (by rfl) ?_; dsimp only)); at_builtin; refine Kd.R_append_rows (Kd.int .u64) (w0 := w) w.heap.size rfl (.tmp 38) (.tmp 39) 39 38 (.int .u64 0) 8 rfl Try.underlying39 info38 rfl (by decide) (by omega) v247 y246 l0 _ _ _ (fun _ => True) (fun _ => False) rfl rfl ?aO ?aR (fun _ _ h => h) (fun _ h => h.elim) ?aF ?aB ?aS ?aL ?_; (case aR => repeat (first | exact (Kd.C_below HR0.out HB.out) | (with_reducible refine Kd.C_alloc ?_ _) | (with_reducible refine Kd.C_drewN ?_ _) | (with_reducible refine Kd.C_drew ?_))); (case aB => exact (by repeat (first | (with_reducible first | exact HB.out | apply below_alloc | apply pw_below_drewN | apply below_drew1) | exact HB.out))); (case aF => exact (fun _ _ => trivial)); (case aO => exact (by (with_reducible repeat (first | apply Kd.R_alloc | apply Kd.R_drewN | apply Kd.R_drew)); exact HO248.out)); (case aS => exact (below_size (by repeat (first | (with_reducible first | exact HB.out | apply below_alloc | apply pw_below_drewN | apply below_drew1) | exact HB.out)))); (case aL => have := LMc8.out; omega); intro v250 w20 ho hb hg hat; rw [← Ny249.out] at ho; have n0_ := Aside0.mk (hb); have n1_ := Aside0.mk (ho); clear HB; clear HO248; have HB := n0_; have HO251 := n1_; clear n0_ n1_; clear ho hb hg hat) | ((with_reducible refine gate_dst (N := 41) rfl ?_); (try (refine gate_guard (by rfl) ?_; dsimp only)); refine Kd.R_lit (Kd.int .i64) _ 3 ?hg (N := 41) ?hd (xs := ([] : List Int)) (inner := []) (ok := fun _ => True) (okp := fun _ => True) ?hr ?hp (fun _ hk => hk) trivial (Below.refl _ _) (Nat.le_refl _) (by simp) ?_; (case hd => rfl); (case hg => rfl); (case hr => first | (go_simp; done) | (go_simp; rfl)); (case hp => exact (Reps.none _ _)); intro v253 w21 ho22 hb hg_ hnew_; clear hg_ hnew_; (first | rw [← Ny252.out] at ho22 | (simp only [Int.reduceToNat] at ho22; rw [← Ny252.out] at ho22)); have n0_ := Aside0.mk (Kd.R_below (by (with_reducible repeat (first | apply Kd.R_alloc | apply Kd.R_drewN | apply Kd.R_drew)); exact HO251.out) hb); have n1_ := Aside0.mk (Kd.R_lower ho22 (below_size (by repeat (first | (with_reducible first | exact HB.out | apply below_alloc | apply pw_below_drewN | apply below_drew1) | exact HB.out)))); have n2_ := Aside0.mk (below_step (by repeat (first | (with_reducible first | exact HB.out | apply below_alloc | apply pw_below_drewN | apply below_drew1) | exact HB.out)) hb); clear HO251; clear HB; have HO251 := n0_; have HO254 := n1_; have HB := n2_; clear n0_ n1_ n2_; clear hb ho22) | ((with_reducible refine gate_builtin (b := .append) (xs := #[.tmp 41, .tmp 42]) rfl ?_); (try (refine gate_guard (by rfl) ?_; dsimp only)); at_builtin; refine Kd.R_append_rows (Kd.int .i64) (w0 := w) w.heap.size rfl (.tmp 41) (.tmp 42) 40 3 (.int .i64 0) 8 rfl Try.underlying40 info3 rfl (by decide) (by omega) v253 y252 l1 _ _ _ (fun _ => True) (fun _ => False) rfl rfl ?aO ?aR (fun _ _ h => h) (fun _ h => h.elim) ?aF ?aB ?aS ?aL ?_; (case aR => repeat (first | exact (Kd.C_below HR1.out HB.out) | (with_reducible refine Kd.C_alloc ?_ _) | (with_reducible refine Kd.C_drewN ?_ _) | (with_reducible refine Kd.C_drew ?_))); (case aB => exact (by repeat (first | (with_reducible first | exact HB.out | apply below_alloc | apply pw_below_drewN | apply below_drew1) | exact HB.out))); (case aF => exact (fun _ _ => trivial)); (case aO => exact (by (with_reducible repeat (first | apply Kd.R_alloc | apply Kd.R_drewN | apply Kd.R_drew)); exact HO254.out)); (case aS => exact (below_size (by repeat (first | (with_reducible first | exact HB.out | apply below_alloc | apply pw_below_drewN | apply below_drew1) | exact HB.out)))); (case aL => have := LMc9.out; omega); intro v256 w23 ho hb hg hat; rw [← Ny255.out] at ho; have n0_ := Aside0.mk (Kd.R_over' (by (with_reducible repeat (first | apply Kd.R_alloc | apply Kd.R_drewN | apply Kd.R_drew)); exact HO251.out) (Kd.R_typed (by (with_reducible repeat (first | apply Kd.R_alloc | apply Kd.R_drewN | apply Kd.R_drew)); exact HO254.out)) (by decide) hg); have n1_ := Aside0.mk (hb); have n2_ := Aside0.mk (ho); clear HO251; clear HB; clear HO254; have HO251 := n0_; have HB := n1_; have HO257 := n2_; clear n0_ n1_ n2_; clear ho hb hg hat) | ((with_reducible refine gate_dst (N := 44) rfl ?_); (try (refine gate_guard (by rfl) ?_; dsimp only)); refine Kd.R_lit (Kd.int .u8) _ 5 ?hg (N := 44) ?hd (xs := ([] : List Int)) (inner := []) (ok := fun _ => True) (okp := fun _ => True) ?hr ?hp (fun _ hk => hk) trivial (Below.refl _ _) (Nat.le_refl _) (by simp) ?_; (case hd => rfl); (case hg => rfl); (case hr => first | (go_simp; done) | (go_simp; rfl)); (case hp => exact (Reps.none _ _)); intro v259 w24 ho25 hb hg_ hnew_; clear hg_ hnew_; (first | rw [← Ny258.out] at ho25 | (simp only [Int.reduceToNat] at ho25; rw [← Ny258.out] at ho25)); have n0_ := Aside0.mk (Kd.R_below (by (with_reducible repeat (first | apply Kd.R_alloc | apply Kd.R_drewN | apply Kd.R_drew)); exact HO251.out) hb); have n1_ := Aside0.mk (Kd.R_below (by (with_reducible repeat (first | apply Kd.R_alloc | apply Kd.R_drewN | apply Kd.R_drew)); exact HO257.out) hb); have n2_ := Aside0.mk (Kd.R_lower ho25 (below_size (by repeat (first | (with_reducible first | exact HB.out | apply below_alloc | apply pw_below_drewN | apply below_drew1) | exact HB.out)))); have n3_ := Aside0.mk (below_step (by repeat (first | (with_reducible first | exact HB.out | apply below_alloc | apply pw_below_drewN | apply below_drew1) | exact HB.out)) hb); clear HO251; clear HO257; clear HB; have HO251 := n0_; have HO257 := n1_; have HO260 := n2_; have HB := n3_; clear n0_ n1_ n2_ n3_; clear hb ho25) | ((with_reducible refine gate_builtin (b := .append) (xs := #[.tmp 44, .tmp 45]) rfl ?_); (try (refine gate_guard (by rfl) ?_; dsimp only)); at_builtin; refine Kd.R_append_rows (Kd.int .u8) (w0 := w) w.heap.size rfl (.tmp 44) (.tmp 45) 22 5 (.int .u8 0) 1 rfl Try.underlying22 info5 rfl (by decide) (by omega) v259 y258 l2 _ _ _ (fun _ => True) (fun _ => False) rfl rfl ?aO ?aR (fun _ _ h => h) (fun _ h => h.elim) ?aF ?aB ?aS ?aL ?_; (case aR => repeat (first | exact (Kd.C_below HR2.out HB.out) | (with_reducible refine Kd.C_alloc ?_ _) | (with_reducible refine Kd.C_drewN ?_ _) | (with_reducible refine Kd.C_drew ?_))); (case aB => exact (by repeat (first | (with_reducible first | exact HB.out | apply below_alloc | apply pw_below_drewN | apply below_drew1) | exact HB.out))); (case aF => exact (fun _ _ => trivial)); (case aO => exact (by (with_reducible repeat (first | apply Kd.R_alloc | apply Kd.R_drewN | apply Kd.R_drew)); exact HO260.out)); (case aS => exact (below_size (by repeat (first | (with_reducible first | exact HB.out | apply below_alloc | apply pw_below_drewN | apply below_drew1) | exact HB.out)))); (case aL => have := LMc10.out; omega); intro v262 w26 ho hb hg hat; rw [← Ny261.out] at ho; have n0_ := Aside0.mk (Kd.R_over' (by (with_reducible repeat (first | apply Kd.R_alloc | apply Kd.R_drewN | apply Kd.R_drew)); exact HO251.out) (Kd.R_typed (by (with_reducible repeat (first | apply Kd.R_alloc | apply Kd.R_drewN | apply Kd.R_drew)); exact HO260.out)) (by decide) hg); have n1_ := Aside0.mk (Kd.R_over' (by (with_reducible repeat (first | apply Kd.R_alloc | apply Kd.R_drewN | apply Kd.R_drew)); exact HO257.out) (Kd.R_typed (by (with_reducible repeat (first | apply Kd.R_alloc | apply Kd.R_drewN | apply Kd.R_drew)); exact HO260.out)) (by decide) hg); have n2_ := Aside0.mk (hb); have n3_ := Aside0.mk (ho); clear HO251; clear HO257; clear HB; clear HO260; have HO251 := n0_; have HO257 := n1_; have HB := n2_; have HO263 := n3_; clear n0_ n1_ n2_ n3_; clear ho hb hg hat; obtain ⟨Ao27, co27, eo27⟩ := Kd.R_slice HO257.out; subst eo27) | ((with_reducible refine gate_callee (f := 24) rfl ?_); refine goesL_ (some 49) rfl rfl Try.func24 (by kernel_rfl) rfl #[.slice Ao27 y255.length co27] rfl (by (try simp only [List.map_toArray, List.map_cons, List.map_nil]); first | done | rfl | (simp only [List.length_drop, List.length_take]; rfl)) ?_; (with_reducible refine (num_Size.calls kj3 _ _ y255 t264 t265 _ ?side1 ?side2 A11.out).mono ?_); (case side1 => repeat (first | exact (Kd.R_reads' HO257.out).2.2 | (with_reducible refine Kd.C_alloc ?_ _) | (with_reducible refine Kd.C_drewN ?_ _) | (with_reducible refine Kd.C_drew ?_))); (case side2 => exact (Kd.R_reads' HO257.out).2.1); rintro e w' ⟨rfl, ⟨nd, rfl⟩⟩; refine ⟨_, rfl, ?_⟩) | ((with_reducible refine gate_callee (f := 26) rfl ?_); refine goesL_ (some 54) rfl rfl Try.func26 (by kernel_rfl) rfl #[.slice A1 l1.length c1] rfl (by (try simp only [List.map_toArray, List.map_cons, List.map_nil]); first | done | rfl | (simp only [List.length_drop, List.length_take]; rfl)) ?_; (with_reducible refine (catamaranref01_Size.calls kj3 _ _ l1 t266 t267 _ ?side1 ?side2 A12.out).mono ?_); (case side1 => repeat (first | exact (Kd.C_below HR1.out (by repeat (first | (with_reducible first | exact HB.out | apply below_alloc | apply pw_below_drewN | apply below_drew1) | exact HB.out))) | (with_reducible refine Kd.C_alloc ?_ _) | (with_reducible refine Kd.C_drewN ?_ _) | (with_reducible refine Kd.C_drew ?_))); (case side2 => exact HC1.out); rintro e w' ⟨rfl, ⟨nd, rfl⟩⟩; refine ⟨_, rfl, ?_⟩; obtain ⟨Ao28, co28, eo28⟩ := Kd.R_slice HO251.out; subst eo28) | ((with_reducible refine gate_callee (f := 22) rfl ?_); refine goesL_ (some 60) rfl rfl Try.func22 (by kernel_rfl) rfl #[.slice Ao28 y249.length co28, .slice Ao27 y255.length co27] rfl (by (try simp only [List.map_toArray, List.map_cons, List.map_nil]); first | done | rfl | (simp only [List.length_drop, List.length_take]; rfl)) ?_; (with_reducible refine (num_Write.calls _ _ y249 _ _ y255 t268 t269 _ ?side1 ?side2 ?side3 ?side4 A13.out).mono ?_); (case side1 => repeat (first | exact (Kd.R_reads' HO251.out).2.2 | (with_reducible refine Kd.C_alloc ?_ _) | (with_reducible refine Kd.C_drewN ?_ _) | (with_reducible refine Kd.C_drew ?_))); (case side2 => exact (Kd.R_reads' HO251.out).2.1); (case side3 => repeat (first | exact (Kd.R_reads' HO257.out).2.2 | (with_reducible refine Kd.C_alloc ?_ _) | (with_reducible refine Kd.C_drewN ?_ _) | (with_reducible refine Kd.C_drew ?_))); (case side4 => exact (Kd.R_reads' HO257.out).2.1); rintro e w29 ⟨v270, rfl, ho0, hb⟩; refine ⟨_, rfl, ?_⟩; have n0_ := Aside0.mk (Kd.R_below (by (with_reducible repeat (first | apply Kd.R_alloc | apply Kd.R_drewN | apply Kd.R_drew)); exact HO251.out) hb); have n1_ := Aside0.mk (Kd.R_below (by (with_reducible repeat (first | apply Kd.R_alloc | apply Kd.R_drewN | apply Kd.R_drew)); exact HO257.out) hb); have n2_ := Aside0.mk (Kd.R_elder' (by (with_reducible repeat (first | apply Kd.R_alloc | apply Kd.R_drewN | apply Kd.R_drew)); exact HO263.out) (Kd.R_base ho0) hb); have n3_ := Aside0.mk (Kd.R_lower (Kd.R_new' ho0 (Kd.R_lt (by (with_reducible repeat (first | apply Kd.R_alloc | apply Kd.R_drewN | apply Kd.R_drew)); exact HO263.out))) (below_size (by repeat (first | (with_reducible first | exact HB.out | apply below_alloc | apply pw_below_drewN | apply below_drew1) | exact HB.out)))); have n4_ := Aside0.mk (below_step (by repeat (first | (with_reducible first | exact HB.out | apply below_alloc | apply pw_below_drewN | apply below_drew1) | exact HB.out)) hb); clear HO251; clear HO257; clear HO263; clear HB; have HO251 := n0_; have HO257 := n1_; have HO263 := n2_; have HO271 := n3_; have HB := n4_; clear n0_ n1_ n2_ n3_ n4_; (try clear hb); (try clear hb2); (try clear hk); (try clear hi); (try clear ho0)) | ((with_reducible refine gate_callee (f := 27) rfl ?_); refine goesL_ (some 66) rfl rfl Try.func27 (by kernel_rfl) rfl #[.slice A0 l0.length c0, .slice A1 l1.length c1] rfl (by (try simp only [List.map_toArray, List.map_cons, List.map_nil]); first | done | rfl | (simp only [List.length_drop, List.length_take]; rfl)) ?_; (with_reducible refine (catamaranref01_Write.calls kj3 _ _ l0 _ _ l1 t272 t273 _ ?side1 ?side2 ?side3 ?side4 A14.out).mono ?_); (case side1 => repeat (first | exact (Kd.C_below HR0.out HB.out) | (with_reducible refine Kd.C_alloc ?_ _) | (with_reducible refine Kd.C_drewN ?_ _) | (with_reducible refine Kd.C_drew ?_))); (case side2 => exact HC0.out); (case side3 => repeat (first | exact (Kd.C_below HR1.out HB.out) | (with_reducible refine Kd.C_alloc ?_ _) | (with_reducible refine Kd.C_drewN ?_ _) | (with_reducible refine Kd.C_drew ?_))); (case side4 => exact HC1.out); rintro e w30 ⟨v274, rfl, ho0, hb⟩; refine ⟨_, rfl, ?_⟩; have n0_ := Aside0.mk (Kd.R_below (by (with_reducible repeat (first | apply Kd.R_alloc | apply Kd.R_drewN | apply Kd.R_drew)); exact HO251.out) hb); have n1_ := Aside0.mk (Kd.R_below (by (with_reducible repeat (first | apply Kd.R_alloc | apply Kd.R_drewN | apply Kd.R_drew)); exact HO257.out) hb); have n2_ := Aside0.mk (Kd.R_elder' (by (with_reducible repeat (first | apply Kd.R_alloc | apply Kd.R_drewN | apply Kd.R_drew)); exact HO263.out) (Kd.R_base ho0) hb); have n3_ := Aside0.mk (Kd.R_elder' (by (with_reducible repeat (first | apply Kd.R_alloc | apply Kd.R_drewN | apply Kd.R_drew)); exact HO271.out) (Kd.R_base ho0) hb); have n4_ := Aside0.mk (Kd.R_lower (Kd.R_new' (Kd.R_new' ho0 (Kd.R_lt (by (with_reducible repeat (first | apply Kd.R_alloc | apply Kd.R_drewN | apply Kd.R_drew)); exact HO263.out))) (Kd.R_lt (by (with_reducible repeat (first | apply Kd.R_alloc | apply Kd.R_drewN | apply Kd.R_drew)); exact HO271.out))) (below_size (by repeat (first | (with_reducible first | exact HB.out | apply below_alloc | apply pw_below_drewN | apply below_drew1) | exact HB.out)))); have n5_ := Aside0.mk (below_step (by repeat (first | (with_reducible first | exact HB.out | apply below_alloc | apply pw_below_drewN | apply below_drew1) | exact HB.out)) hb); clear HO251; clear HO257; clear HO263; clear HO271; clear HB; have HO251 := n0_; have HO257 := n1_; have HO263 := n2_; have HO271 := n3_; have HO275 := n4_; have HB := n5_; clear n0_ n1_ n2_ n3_ n4_ n5_; (try clear hb); (try clear hb2); (try clear hk); (try clear hi); (try clear ho0); obtain ⟨Ao31, co31, eo31⟩ := Kd.R_slice HO263.out; subst eo31) | ((with_reducible refine gate_callee (f := 23) rfl ?_); refine goesL_ (some 72) rfl rfl Try.func23 (by kernel_rfl) rfl #[.slice Ao31 y261.length co31, .slice Ao27 y255.length co27] rfl (by (try simp only [List.map_toArray, List.map_cons, List.map_nil]); first | done | rfl | (simp only [List.length_drop, List.length_take]; rfl)) ?_; (with_reducible refine (num_Read.calls kj3 (fun k_ => some k_ = (.slice Ao31 y261.length co31 : Value).ownBlock) _ _ y261 _ _ y255 t276 t279 _ ?side1 ?side2 ?side3 A15.out).mono ?_); (case side1 => exact Kd.R_V (Kd.R_tight rfl (Kd.R_apart' (Kd.R_apart' (HO263.out) (Kd.R_typed HO251.out) (by decide)) (Kd.R_typed HO257.out) (by decide)))); (case side2 => repeat (first | exact (Kd.R_reads' HO257.out).2.2 | (with_reducible refine Kd.C_alloc ?_ _) | (with_reducible refine Kd.C_drewN ?_ _) | (with_reducible refine Kd.C_drew ?_))); (case side3 => exact (Kd.R_reads' HO257.out).2.1); rintro e w32 ⟨v277, rfl, ho0, hb⟩; refine ⟨_, rfl, ?_⟩; have n0_ := Aside0.mk (Kd.R_elder' (by (with_reducible repeat (first | apply Kd.R_alloc | apply Kd.R_drewN | apply Kd.R_drew)); exact HO251.out) (Kd.R_base ho0) hb); have n1_ := Aside0.mk (Kd.R_below (by (with_reducible repeat (first | apply Kd.R_alloc | apply Kd.R_drewN | apply Kd.R_drew)); exact HO257.out) hb); have n2_ := Aside0.mk (Kd.R_below (by (with_reducible repeat (first | apply Kd.R_alloc | apply Kd.R_drewN | apply Kd.R_drew)); exact HO263.out) hb); have n3_ := Aside0.mk (Kd.R_below (by (with_reducible repeat (first | apply Kd.R_alloc | apply Kd.R_drewN | apply Kd.R_drew)); exact HO271.out) hb); have n4_ := Aside0.mk (Kd.R_below (by (with_reducible repeat (first | apply Kd.R_alloc | apply Kd.R_drewN | apply Kd.R_drew)); exact HO275.out) hb); have n5_ := Aside0.mk (Kd.R_lower (Kd.R_new' (Kd.R_mono (ok' := fun k_ => True) ho0 (fun _ hk_ => trivial)) (Kd.R_lt (by (with_reducible repeat (first | apply Kd.R_alloc | apply Kd.R_drewN | apply Kd.R_drew)); exact HO251.out))) (below_size (by repeat (first | (with_reducible first | exact HB.out | apply below_alloc | apply pw_below_drewN | apply below_drew1) | exact HB.out)))); have n6_ := Aside0.mk (below_step (by repeat (first | (with_reducible first | exact HB.out | apply below_alloc | apply pw_below_drewN | apply below_drew1) | exact HB.out)) hb); clear HO251; clear HO257; clear HO263; clear HO271; clear HO275; clear HB; have HO251 := n0_; have HO257 := n1_; have HO263 := n2_; have HO271 := n3_; have HO275 := n4_; have HO278 := n5_; have HB := n6_; clear n0_ n1_ n2_ n3_ n4_ n5_ n6_; (try clear hb); (try clear hb2); (try clear hk); (try clear hi); (try clear ho0)) | ((with_reducible refine gate_callee (f := 28) rfl ?_); refine goesL_ (some 78) rfl rfl Try.func28 (by kernel_rfl) rfl #[.slice A2 l2.length c2, .slice A1 l1.length c1] rfl (by (try simp only [List.map_toArray, List.map_cons, List.map_nil]); first | done | rfl | (simp only [List.length_drop, List.length_take]; rfl)) ?_; (with_reducible refine (catamaranref01_Read.calls kj3 _ _ l2 _ _ l1 t280 t281 _ ?side1 ?side2 ?side3 ?side4 A16.out).mono ?_); (case side1 => repeat (first | exact (Kd.C_below HR2.out HB.out) | (with_reducible refine Kd.C_alloc ?_ _) | (with_reducible refine Kd.C_drewN ?_ _) | (with_reducible refine Kd.C_drew ?_))); (case side2 => exact HC2.out); (case side3 => repeat (first | exact (Kd.C_below HR1.out HB.out) | (with_reducible refine Kd.C_alloc ?_ _) | (with_reducible refine Kd.C_drewN ?_ _) | (with_reducible refine Kd.C_drew ?_))); (case side4 => exact HC1.out); rintro e w33 ⟨v282, rfl, ho0, hb⟩; refine ⟨_, rfl, ?_⟩; have n0_ := Aside0.mk (Kd.R_elder' (by (with_reducible repeat (first | apply Kd.R_alloc | apply Kd.R_drewN | apply Kd.R_drew)); exact HO251.out) (Kd.R_base ho0) hb); have n1_ := Aside0.mk (Kd.R_below (by (with_reducible repeat (first | apply Kd.R_alloc | apply Kd.R_drewN | apply Kd.R_drew)); exact HO257.out) hb); have n2_ := Aside0.mk (Kd.R_below (by (with_reducible repeat (first | apply Kd.R_alloc | apply Kd.R_drewN | apply Kd.R_drew)); exact HO263.out) hb); have n3_ := Aside0.mk (Kd.R_below (by (with_reducible repeat (first | apply Kd.R_alloc | apply Kd.R_drewN | apply Kd.R_drew)); exact HO271.out) hb); have n4_ := Aside0.mk (Kd.R_below (by (with_reducible repeat (first | apply Kd.R_alloc | apply Kd.R_drewN | apply Kd.R_drew)); exact HO275.out) hb); have n5_ := Aside0.mk (Kd.R_elder' (by (with_reducible repeat (first | apply Kd.R_alloc | apply Kd.R_drewN | apply Kd.R_drew)); exact HO278.out) (Kd.R_base ho0) hb); have n6_ := Aside0.mk (Kd.R_lower (Kd.R_new' (Kd.R_new' ho0 (Kd.R_lt (by (with_reducible repeat (first | apply Kd.R_alloc | apply Kd.R_drewN | apply Kd.R_drew)); exact HO251.out))) (Kd.R_lt (by (with_reducible repeat (first | apply Kd.R_alloc | apply Kd.R_drewN | apply Kd.R_drew)); exact HO278.out))) (below_size (by repeat (first | (with_reducible first | exact HB.out | apply below_alloc | apply pw_below_drewN | apply below_drew1) | exact HB.out)))); have n7_ := Aside0.mk (below_step (by repeat (first | (with_reducible first | exact HB.out | apply below_alloc | apply pw_below_drewN | apply below_drew1) | exact HB.out)) hb); clear HO251; clear HO257; clear HO263; clear HO271; clear HO275; clear HO278; clear HB; have HO251 := n0_; have HO257 := n1_; have HO263 := n2_; have HO271 := n3_; have HO275 := n4_; have HO278 := n5_; have HO283 := n6_; have HB := n7_; clear n0_ n1_ n2_ n3_ n4_ n5_ n6_ n7_; (try clear hb); (try clear hb2); (try clear hk); (try clear hi); (try clear ho0)))
              (try simp only [Act.put, List.setIfInBounds_toArray, List.set_cons_zero, List.set_cons_succ])
              go_cut [22] (fun v22 wc => ∃ (kq : Nat) (x22_16 : Bool), v22 = .bool x22_16 ∧ Aside0 (catamaranlaw01_NumTells.j1 kq l0 l1 l2 y249 y255 y261 t268 t276 x22_16 = some r) ∧ Aside0 (kq ≤ kj3) ∧ Aside0 (Kd.R (Kd.int .u64) 38 wc w.heap.size (fun k_ => some k_ ≠ (v277 : Value).ownBlock) (.slice Ao28 y249.length co28) y249) ∧ Aside0 (Kd.R (Kd.int .i64) 3 wc w.heap.size (fun _ => True) (.slice Ao27 y255.length co27) y255) ∧ Aside0 (Kd.R (Kd.int .u8) 5 wc w.heap.size (fun k_ => some k_ ≠ (v270 : Value).ownBlock) (.slice Ao31 y261.length co31) y261) ∧ Aside0 (Kd.R (Kd.int .u8) 5 wc w.heap.size (fun k_ => some k_ ≠ ((.slice Ao31 y261.length co31) : Value).ownBlock) v270 t268) ∧ Aside0 (Kd.R (Kd.int .u64) 38 wc w.heap.size (fun k_ => some k_ ≠ ((.slice Ao28 y249.length co28) : Value).ownBlock) v277 t276) ∧ Aside0 (Below w.heap.size w wc))
              case first =>
                have H := HC17.out
                clear HC17
                by_cases c34 : t264 = t266
                · rw [if_pos c34] at H
                  have c34b0 : (t264 == t266) = true := beq_iff_eq.mpr c34
                  have c34b1 : (t264 != t266) = false := bne_eq_false_iff_eq.mpr c34
                  clear c34
                  (first | rw [c34b0] | (simp only [i64_w, i32_w]; rw [c34b0]) | skip)
                  by_cases c35 : t265 = t267
                  · rw [if_pos c35] at H
                    have c35b0 : (t265 == t267) = true := beq_iff_eq.mpr c35
                    have c35b1 : (t265 != t267) = false := bne_eq_false_iff_eq.mpr c35
                    clear c35
                    by_cases c36 : (strOfNums t268).toList = (strOfNums t272).toList
                    · rw [if_pos c36] at H
                      have c36b0 : ((strOfNums t268).toList == (strOfNums t272).toList) = true := beq_iff_eq.mpr c36
                      have c36b1 : ((strOfNums t268).toList != (strOfNums t272).toList) = false := bne_eq_false_iff_eq.mpr c36
                      clear c36
                      by_cases c37 : t269 = t273
                      · rw [if_pos c37] at H
                        have c37b0 : (t269 == t273) = true := beq_iff_eq.mpr c37
                        have c37b1 : (t269 != t273) = false := bne_eq_false_iff_eq.mpr c37
                        clear c37
                        replace H := Option.bind_eq_some_iff.mp H
                        obtain ⟨t284, A380, H⟩ := H
                        replace H : (if t284 = true then (catamaranlaw01_NumTells.j1 kj3 l0 l1 l2 y249 y255 y261 t268 t276 (t279 == t281)) else (catamaranlaw01_NumTells.j1 kj3 l0 l1 l2 y249 y255 y261 t268 t276 false)) = some r := H
                        have A38 := Aside0.mk A380
                        clear A380
                        by_cases c39 : t284 = true
                        · subst c39
                          have H1 : (catamaranlaw01_NumTells.j1 kj3 l0 l1 l2 y249 y255 y261 t268 t276 (t279 == t281)) = some r := by rw [if_pos rfl] at H; exact H
                          clear H
                          have H := H1
                          clear H1
                          have H' := Aside0.mk H
                          clear H
                          have hcv40 := own_string (P := Try.prog) Try.underlying22 Try.underlying5 Try.underlying9 (Kd.own_of_R HO271.out)
                          have hcw40 := fun m_ => own_string (P := Try.prog) Try.underlying22 Try.underlying5 Try.underlying9 (Kd.own_of_R (Kd.R_drewN HO271.out m_))
                          have hcv41 := own_string (P := Try.prog) Try.underlying22 Try.underlying5 Try.underlying9 (Kd.own_of_R HO275.out)
                          have hcw41 := fun m_ => own_string (P := Try.prog) Try.underlying22 Try.underlying5 Try.underlying9 (Kd.own_of_R (Kd.R_drewN HO275.out m_))
                          obtain ⟨Ao42, co42, eo42⟩ := Kd.R_slice HO278.out
                          subst eo42
                          obtain ⟨Ao43, co43, eo43⟩ := Kd.R_slice HO283.out
                          subst eo43
                          go_wp2_with (first | (go_at_call 29; (with_reducible refine (catamaranref01_Same.calls kj3 _ _ t276 _ _ t280 true _ ?side1 ?side2 ?side3 ?side4 A38.out).mono ?_); (case side1 => repeat (first | exact (Kd.R_reads' HO278.out).2.2 | (with_reducible refine Kd.C_alloc ?_ _) | (with_reducible refine Kd.C_drewN ?_ _) | (with_reducible refine Kd.C_drew ?_))); (case side2 => exact (Kd.R_reads' HO278.out).2.1); (case side3 => repeat (first | exact (Kd.R_reads' HO283.out).2.2 | (with_reducible refine Kd.C_alloc ?_ _) | (with_reducible refine Kd.C_drewN ?_ _) | (with_reducible refine Kd.C_drew ?_))); (case side4 => exact (Kd.R_reads' HO283.out).2.1); rintro e w' ⟨rfl, ⟨nd, rfl⟩⟩))
                          go_meet
                          case rel => exact ⟨_, ((t279 == t281)), (by first | rfl | (simp; done) | (simp [*]; done)), H', ⟨by have := HJ3.out; first | omega | exact Nat.le_refl _⟩, ⟨by (with_reducible repeat (first | apply Kd.R_alloc | apply Kd.R_drewN | apply Kd.R_drew)); exact Kd.R_mono HO251.out (fun _ hk => hk.1.2)⟩, ⟨by (with_reducible repeat (first | apply Kd.R_alloc | apply Kd.R_drewN | apply Kd.R_drew)); exact HO257.out⟩, ⟨by (with_reducible repeat (first | apply Kd.R_alloc | apply Kd.R_drewN | apply Kd.R_drew)); exact Kd.R_mono HO263.out (fun _ hk => hk.1.2)⟩, ⟨by (with_reducible repeat (first | apply Kd.R_alloc | apply Kd.R_drewN | apply Kd.R_drew)); exact Kd.R_mono HO271.out (fun _ hk => hk.1.2)⟩, ⟨by (with_reducible repeat (first | apply Kd.R_alloc | apply Kd.R_drewN | apply Kd.R_drew)); exact Kd.R_mono HO278.out (fun _ hk => hk.1.2)⟩, ⟨by repeat (first | (with_reducible first | exact HB.out | apply below_alloc | apply pw_below_drewN | apply below_drew1) | exact HB.out)⟩⟩
                        · replace c39 := Bool.eq_false_iff.mpr c39
                          subst c39
                          have H1 : (catamaranlaw01_NumTells.j1 kj3 l0 l1 l2 y249 y255 y261 t268 t276 false) = some r := by rw [if_neg (show ¬ (false = true) by decide)] at H; exact H
                          clear H
                          have H := H1
                          clear H1
                          have H' := Aside0.mk H
                          clear H
                          have hcv44 := own_string (P := Try.prog) Try.underlying22 Try.underlying5 Try.underlying9 (Kd.own_of_R HO271.out)
                          have hcw44 := fun m_ => own_string (P := Try.prog) Try.underlying22 Try.underlying5 Try.underlying9 (Kd.own_of_R (Kd.R_drewN HO271.out m_))
                          have hcv45 := own_string (P := Try.prog) Try.underlying22 Try.underlying5 Try.underlying9 (Kd.own_of_R HO275.out)
                          have hcw45 := fun m_ => own_string (P := Try.prog) Try.underlying22 Try.underlying5 Try.underlying9 (Kd.own_of_R (Kd.R_drewN HO275.out m_))
                          obtain ⟨Ao46, co46, eo46⟩ := Kd.R_slice HO278.out
                          subst eo46
                          obtain ⟨Ao47, co47, eo47⟩ := Kd.R_slice HO283.out
                          subst eo47
                          go_wp2_with (first | (go_at_call 29; (with_reducible refine (catamaranref01_Same.calls kj3 _ _ t276 _ _ t280 false _ ?side1 ?side2 ?side3 ?side4 A38.out).mono ?_); (case side1 => repeat (first | exact (Kd.R_reads' HO278.out).2.2 | (with_reducible refine Kd.C_alloc ?_ _) | (with_reducible refine Kd.C_drewN ?_ _) | (with_reducible refine Kd.C_drew ?_))); (case side2 => exact (Kd.R_reads' HO278.out).2.1); (case side3 => repeat (first | exact (Kd.R_reads' HO283.out).2.2 | (with_reducible refine Kd.C_alloc ?_ _) | (with_reducible refine Kd.C_drewN ?_ _) | (with_reducible refine Kd.C_drew ?_))); (case side4 => exact (Kd.R_reads' HO283.out).2.1); rintro e w' ⟨rfl, ⟨nd, rfl⟩⟩))
                          go_meet
                          case rel => exact ⟨_, (false), (by first | rfl | (simp; done) | (simp [*]; done)), H', ⟨by have := HJ3.out; first | omega | exact Nat.le_refl _⟩, ⟨by (with_reducible repeat (first | apply Kd.R_alloc | apply Kd.R_drewN | apply Kd.R_drew)); exact Kd.R_mono HO251.out (fun _ hk => hk.1.2)⟩, ⟨by (with_reducible repeat (first | apply Kd.R_alloc | apply Kd.R_drewN | apply Kd.R_drew)); exact HO257.out⟩, ⟨by (with_reducible repeat (first | apply Kd.R_alloc | apply Kd.R_drewN | apply Kd.R_drew)); exact Kd.R_mono HO263.out (fun _ hk => hk.1.2)⟩, ⟨by (with_reducible repeat (first | apply Kd.R_alloc | apply Kd.R_drewN | apply Kd.R_drew)); exact Kd.R_mono HO271.out (fun _ hk => hk.1.2)⟩, ⟨by (with_reducible repeat (first | apply Kd.R_alloc | apply Kd.R_drewN | apply Kd.R_drew)); exact Kd.R_mono HO278.out (fun _ hk => hk.1.2)⟩, ⟨by repeat (first | (with_reducible first | exact HB.out | apply below_alloc | apply pw_below_drewN | apply below_drew1) | exact HB.out)⟩⟩
                      · rw [if_neg c37] at H
                        have c37b0 : (t269 == t273) = false := beq_eq_false_iff_ne.mpr c37
                        have c37b1 : (t269 != t273) = true := bne_iff_ne.mpr c37
                        have H' := Aside0.mk H
                        clear H
                        have hcv48 := own_string (P := Try.prog) Try.underlying22 Try.underlying5 Try.underlying9 (Kd.own_of_R HO271.out)
                        have hcw48 := fun m_ => own_string (P := Try.prog) Try.underlying22 Try.underlying5 Try.underlying9 (Kd.own_of_R (Kd.R_drewN HO271.out m_))
                        have hcv49 := own_string (P := Try.prog) Try.underlying22 Try.underlying5 Try.underlying9 (Kd.own_of_R HO275.out)
                        have hcw49 := fun m_ => own_string (P := Try.prog) Try.underlying22 Try.underlying5 Try.underlying9 (Kd.own_of_R (Kd.R_drewN HO275.out m_))
                        go_wp2
                        go_meet
                        case rel => exact ⟨_, (false), (by first | rfl | (simp; done) | (simp [*]; done)), H', ⟨by have := HJ3.out; first | omega | exact Nat.le_refl _⟩, ⟨by (with_reducible repeat (first | apply Kd.R_alloc | apply Kd.R_drewN | apply Kd.R_drew)); exact Kd.R_mono HO251.out (fun _ hk => hk.1.2)⟩, ⟨by (with_reducible repeat (first | apply Kd.R_alloc | apply Kd.R_drewN | apply Kd.R_drew)); exact HO257.out⟩, ⟨by (with_reducible repeat (first | apply Kd.R_alloc | apply Kd.R_drewN | apply Kd.R_drew)); exact Kd.R_mono HO263.out (fun _ hk => hk.1.2)⟩, ⟨by (with_reducible repeat (first | apply Kd.R_alloc | apply Kd.R_drewN | apply Kd.R_drew)); exact Kd.R_mono HO271.out (fun _ hk => hk.1.2)⟩, ⟨by (with_reducible repeat (first | apply Kd.R_alloc | apply Kd.R_drewN | apply Kd.R_drew)); exact Kd.R_mono HO278.out (fun _ hk => hk.1.2)⟩, ⟨by repeat (first | (with_reducible first | exact HB.out | apply below_alloc | apply pw_below_drewN | apply below_drew1) | exact HB.out)⟩⟩
                    · rw [if_neg c36] at H
                      have c36b0 : ((strOfNums t268).toList == (strOfNums t272).toList) = false := beq_eq_false_iff_ne.mpr c36
                      have c36b1 : ((strOfNums t268).toList != (strOfNums t272).toList) = true := bne_iff_ne.mpr c36
                      have H' := Aside0.mk H
                      clear H
                      have hcv50 := own_string (P := Try.prog) Try.underlying22 Try.underlying5 Try.underlying9 (Kd.own_of_R HO271.out)
                      have hcw50 := fun m_ => own_string (P := Try.prog) Try.underlying22 Try.underlying5 Try.underlying9 (Kd.own_of_R (Kd.R_drewN HO271.out m_))
                      have hcv51 := own_string (P := Try.prog) Try.underlying22 Try.underlying5 Try.underlying9 (Kd.own_of_R HO275.out)
                      have hcw51 := fun m_ => own_string (P := Try.prog) Try.underlying22 Try.underlying5 Try.underlying9 (Kd.own_of_R (Kd.R_drewN HO275.out m_))
                      go_wp2
                      go_meet
                      case rel => exact ⟨_, (false), (by first | rfl | (simp; done) | (simp [*]; done)), H', ⟨by have := HJ3.out; first | omega | exact Nat.le_refl _⟩, ⟨by (with_reducible repeat (first | apply Kd.R_alloc | apply Kd.R_drewN | apply Kd.R_drew)); exact Kd.R_mono HO251.out (fun _ hk => hk.1.2)⟩, ⟨by (with_reducible repeat (first | apply Kd.R_alloc | apply Kd.R_drewN | apply Kd.R_drew)); exact HO257.out⟩, ⟨by (with_reducible repeat (first | apply Kd.R_alloc | apply Kd.R_drewN | apply Kd.R_drew)); exact Kd.R_mono HO263.out (fun _ hk => hk.1.2)⟩, ⟨by (with_reducible repeat (first | apply Kd.R_alloc | apply Kd.R_drewN | apply Kd.R_drew)); exact Kd.R_mono HO271.out (fun _ hk => hk.1.2)⟩, ⟨by (with_reducible repeat (first | apply Kd.R_alloc | apply Kd.R_drewN | apply Kd.R_drew)); exact Kd.R_mono HO278.out (fun _ hk => hk.1.2)⟩, ⟨by repeat (first | (with_reducible first | exact HB.out | apply below_alloc | apply pw_below_drewN | apply below_drew1) | exact HB.out)⟩⟩
                  · rw [if_neg c35] at H
                    have c35b0 : (t265 == t267) = false := beq_eq_false_iff_ne.mpr c35
                    have c35b1 : (t265 != t267) = true := bne_iff_ne.mpr c35
                    have H' := Aside0.mk H
                    clear H
                    go_wp2
                    go_meet
                    case rel => exact ⟨_, (false), (by first | rfl | (simp; done) | (simp [*]; done)), H', ⟨by have := HJ3.out; first | omega | exact Nat.le_refl _⟩, ⟨by (with_reducible repeat (first | apply Kd.R_alloc | apply Kd.R_drewN | apply Kd.R_drew)); exact Kd.R_mono HO251.out (fun _ hk => hk.1.2)⟩, ⟨by (with_reducible repeat (first | apply Kd.R_alloc | apply Kd.R_drewN | apply Kd.R_drew)); exact HO257.out⟩, ⟨by (with_reducible repeat (first | apply Kd.R_alloc | apply Kd.R_drewN | apply Kd.R_drew)); exact Kd.R_mono HO263.out (fun _ hk => hk.1.2)⟩, ⟨by (with_reducible repeat (first | apply Kd.R_alloc | apply Kd.R_drewN | apply Kd.R_drew)); exact Kd.R_mono HO271.out (fun _ hk => hk.1.2)⟩, ⟨by (with_reducible repeat (first | apply Kd.R_alloc | apply Kd.R_drewN | apply Kd.R_drew)); exact Kd.R_mono HO278.out (fun _ hk => hk.1.2)⟩, ⟨by repeat (first | (with_reducible first | exact HB.out | apply below_alloc | apply pw_below_drewN | apply below_drew1) | exact HB.out)⟩⟩
                · rw [if_neg c34] at H
                  have c34b0 : (t264 == t266) = false := beq_eq_false_iff_ne.mpr c34
                  have c34b1 : (t264 != t266) = true := bne_iff_ne.mpr c34
                  (first | rw [c34b0] | (simp only [i64_w, i32_w]; rw [c34b0]) | skip)
                  have H' := Aside0.mk H
                  clear H
                  go_wp2
                  go_meet
                  case rel => exact ⟨_, (false), (by first | rfl | (simp; done) | (simp [*]; done)), H', ⟨by have := HJ3.out; first | omega | exact Nat.le_refl _⟩, ⟨by (with_reducible repeat (first | apply Kd.R_alloc | apply Kd.R_drewN | apply Kd.R_drew)); exact Kd.R_mono HO251.out (fun _ hk => hk.1.2)⟩, ⟨by (with_reducible repeat (first | apply Kd.R_alloc | apply Kd.R_drewN | apply Kd.R_drew)); exact HO257.out⟩, ⟨by (with_reducible repeat (first | apply Kd.R_alloc | apply Kd.R_drewN | apply Kd.R_drew)); exact Kd.R_mono HO263.out (fun _ hk => hk.1.2)⟩, ⟨by (with_reducible repeat (first | apply Kd.R_alloc | apply Kd.R_drewN | apply Kd.R_drew)); exact Kd.R_mono HO271.out (fun _ hk => hk.1.2)⟩, ⟨by (with_reducible repeat (first | apply Kd.R_alloc | apply Kd.R_drewN | apply Kd.R_drew)); exact Kd.R_mono HO278.out (fun _ hk => hk.1.2)⟩, ⟨by repeat (first | (with_reducible first | exact HB.out | apply below_alloc | apply pw_below_drewN | apply below_drew1) | exact HB.out)⟩⟩
              case rest =>
                clear HC17
                try clear c1
                try clear c2
                try clear p2
                try clear c3
                try clear hcv4
                try clear hcw4
                try clear c5
                try clear c5b0
                try clear c5b1
                try clear hcv5
                try clear hcw5
                try clear c6
                try clear c6b0
                try clear c6b1
                try clear c7
                try clear c8
                try clear c9
                try clear c10
                try clear c22
                try clear c23
                try clear c24
                try clear c26
                try clear c27
                try clear c28
                try clear c34
                try clear c34b0
                try clear c34b1
                try clear c35
                try clear c35b0
                try clear c35b1
                try clear c36
                try clear c36b0
                try clear c36b1
                try clear c37
                try clear c37b0
                try clear c37b1
                try clear c39
                try clear hcv40
                try clear hcw40
                try clear hcv41
                try clear hcw41
                try clear hcv44
                try clear hcw44
                try clear hcv45
                try clear hcw45
                try clear hcv48
                try clear hcw48
                try clear hcv49
                try clear hcw49
                try clear hcv50
                try clear hcw50
                try clear hcv51
                try clear hcw51
                try clear p2
                obtain ⟨kq, x22_16, rfl, HA, HJ16, HO_7, HO_8, HO_9, HO_14, HO_18, HB⟩ := hcut
                cases kq with
                | zero => exact absurd HA.out (by simp [catamaranlaw01_NumTells.j1])
                | succ kj16 =>
                  have H := HA.out
                  clear HA
                  simp only [catamaranlaw01_NumTells.j1] at H
                  have H' := Aside0.mk H
                  clear H
                  go_wp2
                  go_loopg [23] kj16 (fun kq v23 w' => ∃ (x14_3 : List Int) (x23_3 : Int), v23 = .int .i64 x23_3 ∧ Aside0 (catamaranlaw01_NumTells.l0 kq l0 l1 l2 y249 y255 y261 x14_3 t276 x22_16 x23_3 = some r) ∧ Aside0 (kq ≤ kj16) ∧ Aside0 (Kd.R (Kd.int .u64) 38 w' w.heap.size (fun k_ => some k_ ≠ (v277 : Value).ownBlock) (.slice Ao28 y249.length co28) y249) ∧ Aside0 (Kd.R (Kd.int .i64) 3 w' w.heap.size (fun _ => True) (.slice Ao27 y255.length co27) y255) ∧ Aside0 (Kd.R (Kd.int .u8) 5 w' w.heap.size (fun k_ => some k_ ≠ (v270 : Value).ownBlock) (.slice Ao31 y261.length co31) y261) ∧ Aside0 (Kd.R (Kd.int .u8) 5 w' w.heap.size (fun k_ => some k_ ≠ ((.slice Ao31 y261.length co31) : Value).ownBlock) v270 x14_3) ∧ Aside0 (Kd.R (Kd.int .u64) 38 w' w.heap.size (fun k_ => some k_ ≠ ((.slice Ao28 y249.length co28) : Value).ownBlock) v277 t276) ∧ Aside0 (Below w.heap.size w w'))
                  case atStart => exact ⟨(t268), (0), (by first | rfl | (simp; done) | (simp [*]; done)), H', ⟨Nat.le_refl _⟩, ⟨by (with_reducible repeat (first | apply Kd.R_alloc | apply Kd.R_drewN | apply Kd.R_drew)); exact HO_7.out⟩, ⟨by (with_reducible repeat (first | apply Kd.R_alloc | apply Kd.R_drewN | apply Kd.R_drew)); exact HO_8.out⟩, ⟨by (with_reducible repeat (first | apply Kd.R_alloc | apply Kd.R_drewN | apply Kd.R_drew)); exact HO_9.out⟩, ⟨by (with_reducible repeat (first | apply Kd.R_alloc | apply Kd.R_drewN | apply Kd.R_drew)); exact HO_14.out⟩, ⟨by (with_reducible repeat (first | apply Kd.R_alloc | apply Kd.R_drewN | apply Kd.R_drew)); exact HO_18.out⟩, ⟨by repeat (first | (with_reducible first | exact HB.out | apply below_alloc | apply pw_below_drewN | apply below_drew1) | exact HB.out)⟩⟩
                  case round =>
                    clear H'
                    try clear c1
                    try clear c2
                    try clear p2
                    try clear c3
                    try clear hcv4
                    try clear hcw4
                    try clear c5
                    try clear c5b0
                    try clear c5b1
                    try clear hcv5
                    try clear hcw5
                    try clear c6
                    try clear c6b0
                    try clear c6b1
                    try clear c7
                    try clear c8
                    try clear c9
                    try clear c10
                    try clear c22
                    try clear c23
                    try clear c24
                    try clear c26
                    try clear c27
                    try clear c28
                    try clear c34
                    try clear c34b0
                    try clear c34b1
                    try clear c35
                    try clear c35b0
                    try clear c35b1
                    try clear c36
                    try clear c36b0
                    try clear c36b1
                    try clear c37
                    try clear c37b0
                    try clear c37b1
                    try clear c39
                    try clear hcv40
                    try clear hcw40
                    try clear hcv41
                    try clear hcw41
                    try clear hcv44
                    try clear hcw44
                    try clear hcv45
                    try clear hcw45
                    try clear hcv48
                    try clear hcw48
                    try clear hcv49
                    try clear hcw49
                    try clear hcv50
                    try clear hcw50
                    try clear hcv51
                    try clear hcw51
                    try clear p2
                    obtain ⟨x14_3, x23_3, rfl, HA, HK3, HO_7, HO_8, HO_9, HO_14, HO_18, HB⟩ := hrel
                    cases gk with
                    | zero => exact absurd HA.out (by simp [catamaranlaw01_NumTells.l0])
                    | succ k3 =>
                      have H := HA.out
                      clear HA
                      simp only [catamaranlaw01_NumTells.l0] at H
                      by_cases c52 : x23_3 < (x14_3.length : Int)
                      · rw [if_pos c52] at H
                        have c52b0 : decide (x23_3 < (x14_3.length : Int)) = true := decide_eq_true c52
                        clear c52
                        by_cases c53 : 0 ≤ x23_3
                        · rw [if_pos c53] at H
                          have c53b0 : decide (0 ≤ x23_3) = true := decide_eq_true c53
                          clear c53
                          obtain ⟨y285, hy285⟩ : ∃ y_ : List Int, y_ = (x14_3.set (x23_3 : Int).toNat 7) := ⟨_, rfl⟩
                          replace H : (catamaranlaw01_NumTells.l0 k3 l0 l1 l2 y249 y255 y261 y285 t276 x22_16 (wrap64 (x23_3 + 1))) = some r := by first | (rw [hy285]; with_reducible exact H) | (have H2_ := (Option.bind_some _ _).symm.trans H; rw [hy285]; with_reducible exact H2_) | (have H2_ := (Option.bind_some _ _).symm.trans H; with_reducible exact H2_) | with_reducible exact H | (rw [hy285]; exact H) | exact H
                          have Ny285 := Aside0.mk hy285
                          clear hy285
                          have H' := Aside0.mk H
                          clear H
                          obtain ⟨Ao55, co55, eo55⟩ := Kd.R_slice HO_14.out
                          subst eo55
                          have p54 : 0 ≤ (x23_3 : Int) := of_decide_eq_true (by first | (with_reducible assumption) | assumption)
                          have q54 : (x23_3 : Int) < ((x14_3.length : Int) : Int) := of_decide_eq_true (by first | (with_reducible assumption) | assumption)
                          obtain ⟨go54, co54, eo54, gb54, gl54, cl54, HG54⟩ := Kd.R_form HO_14.out (by omega)
                          (first | cases eo54 | (injection eo54 with ea_ en_ ec_; (first | subst ea_ | (injection ea_ with ea_; subst ea_)); subst ec_; clear en_))
                          have GB54 := Aside0.mk gb54
                          have GG54 := Aside0.mk HG54
                          clear gb54 gl54 HG54
                          obtain ⟨hx54_0, hf54_0⟩ := Kd.R_celln 0 HO_14.out (x23_3 : Int) p54 q54
                          replace p54 := eq_true p54
                          replace q54 := eq_true q54
                          have HP56 := Kd.R_putg HO_14.out (x23_3 : Int) 7
                          go_wp2_with (first | ((with_reducible refine gate_store (t := 5) (p := 119) rfl ?_); refine store_event (t := 5) (p := 119) (v := ?vo_w57) (w1 := (wr.setCell ⟨go54, (x23_3 : Int).toNat, none⟩ (.int .u8 7))) ?hg ?ho ?hn ?hr ?_; (case ho => rfl); (case hg => rfl); (case hn => rfl); (case hr => first | (go_simp; done) | (go_simp; rfl)); intro w57 hw; have hg : wr.grownBy w57 (some go54) := (by rw [hw]; exact HP56.2); have hp_ : Kd.R (Kd.int .u8) 5 w57 w.heap.size (fun k_ => some k_ ≠ (.slice Ao31 y261.length co31 : Value).ownBlock) (.slice (some ⟨go54, 0, none⟩) x14_3.length co55) y285 := (by rw [hw, Ny285.out]; exact HP56.1); clear HP56; have n0_ := Aside0.mk (Kd.R_over' (v := (.slice (some ⟨go54, 0, none⟩) x14_3.length co55)) (by (with_reducible repeat (first | apply Kd.R_alloc | apply Kd.R_drewN | apply Kd.R_drew)); exact HO_7.out) (Kd.R_typed HO_14.out) (by decide) hg); have n1_ := Aside0.mk (Kd.R_over' (v := (.slice (some ⟨go54, 0, none⟩) x14_3.length co55)) (by (with_reducible repeat (first | apply Kd.R_alloc | apply Kd.R_drewN | apply Kd.R_drew)); exact HO_8.out) (Kd.R_typed HO_14.out) (by decide) hg); have n2_ := Aside0.mk (Kd.R_after (v := (.slice (some ⟨go54, 0, none⟩) x14_3.length co55)) (v1 := (.slice (some ⟨go54, 0, none⟩) x14_3.length co55)) (ok := (fun _ => True)) (by (with_reducible repeat (first | apply Kd.R_alloc | apply Kd.R_drewN | apply Kd.R_drew)); exact Kd.R_mono HO_9.out (fun _ hk => ⟨trivial, hk⟩)) hg (.inl rfl)); have n3_ := Aside0.mk (hp_); have n4_ := Aside0.mk (Kd.R_over' (v := (.slice (some ⟨go54, 0, none⟩) x14_3.length co55)) (by (with_reducible repeat (first | apply Kd.R_alloc | apply Kd.R_drewN | apply Kd.R_drew)); exact HO_18.out) (Kd.R_typed HO_14.out) (by decide) hg); have n5_ := Aside0.mk ((by rw [hw]; exact below_set (HB.out) GB54.out : Below w.heap.size w w57)); clear HO_7; clear HO_8; clear HO_9; clear HO_14; clear HO_18; clear HB; have HO_7 := n0_; have HO_8 := n1_; have HO_9 := n2_; have HO_14 := n3_; have HO_18 := n4_; have HB := n5_; clear n0_ n1_ n2_ n3_ n4_ n5_; clear hg hw hp_))
                          go_roundg k3
                          case measure => have := HJ3.out; have := HJ16.out; have := HK3.out; omega
                          case rel => exact ⟨(y285), (wrap64 (x23_3 + 1)), (by first | rfl | (simp; done) | (simp [*]; done)), H', ⟨by have := HJ3.out; have := HJ16.out; have := HK3.out; omega⟩, ⟨by (with_reducible repeat (first | apply Kd.R_alloc | apply Kd.R_drewN | apply Kd.R_drew)); exact HO_7.out⟩, ⟨by (with_reducible repeat (first | apply Kd.R_alloc | apply Kd.R_drewN | apply Kd.R_drew)); exact HO_8.out⟩, ⟨by (with_reducible repeat (first | apply Kd.R_alloc | apply Kd.R_drewN | apply Kd.R_drew)); exact Kd.R_mono HO_9.out (fun _ hk => hk.2)⟩, ⟨by (with_reducible repeat (first | apply Kd.R_alloc | apply Kd.R_drewN | apply Kd.R_drew)); exact HO_14.out⟩, ⟨by (with_reducible repeat (first | apply Kd.R_alloc | apply Kd.R_drewN | apply Kd.R_drew)); exact HO_18.out⟩, ⟨by repeat (first | (with_reducible first | exact HB.out | apply below_alloc | apply pw_below_drewN | apply below_drew1) | exact HB.out)⟩⟩
                        · rw [if_neg c53] at H
                          exact absurd H (by simp)
                      · rw [if_neg c52] at H
                        have c52b0 : decide (x23_3 < (x14_3.length : Int)) = false := decide_eq_false c52
                        clear c52
                        have H' := Aside0.mk H
                        clear H
                        obtain ⟨Ao58, co58, eo58⟩ := Kd.R_slice HO_14.out
                        subst eo58
                        go_wp2
                        go_loopg [24] k3 (fun kq v24 w' => ∃ (x18_4 : List Int) (x24_4 : Int), v24 = .int .i64 x24_4 ∧ Aside0 (catamaranlaw01_NumTells.l1 kq l0 l1 l2 y249 y255 y261 x18_4 x22_16 x24_4 = some r) ∧ Aside0 (kq ≤ k3) ∧ Aside0 (Kd.R (Kd.int .u64) 38 w' w.heap.size (fun k_ => some k_ ≠ (v277 : Value).ownBlock) (.slice Ao28 y249.length co28) y249) ∧ Aside0 (Kd.R (Kd.int .i64) 3 w' w.heap.size (fun _ => True) (.slice Ao27 y255.length co27) y255) ∧ Aside0 (Kd.R (Kd.int .u8) 5 w' w.heap.size (fun _ => True) (.slice Ao31 y261.length co31) y261) ∧ Aside0 (Kd.R (Kd.int .u64) 38 w' w.heap.size (fun k_ => some k_ ≠ ((.slice Ao28 y249.length co28) : Value).ownBlock) v277 x18_4) ∧ Aside0 (Below w.heap.size w w'))
                        case atStart => exact ⟨(t276), (0), (by first | rfl | (simp; done) | (simp [*]; done)), H', ⟨Nat.le_refl _⟩, ⟨by (with_reducible repeat (first | apply Kd.R_alloc | apply Kd.R_drewN | apply Kd.R_drew)); exact HO_7.out⟩, ⟨by (with_reducible repeat (first | apply Kd.R_alloc | apply Kd.R_drewN | apply Kd.R_drew)); exact HO_8.out⟩, ⟨by (with_reducible repeat (first | apply Kd.R_alloc | apply Kd.R_drewN | apply Kd.R_drew)); exact Kd.R_mono HO_9.out (fun _ hk => trivial)⟩, ⟨by (with_reducible repeat (first | apply Kd.R_alloc | apply Kd.R_drewN | apply Kd.R_drew)); exact HO_18.out⟩, ⟨by repeat (first | (with_reducible first | exact HB.out | apply below_alloc | apply pw_below_drewN | apply below_drew1) | exact HB.out)⟩⟩
                        case round =>
                          clear H'
                          try clear c1
                          try clear c2
                          try clear p2
                          try clear c3
                          try clear hcv4
                          try clear hcw4
                          try clear c5
                          try clear c5b0
                          try clear c5b1
                          try clear p5
                          try clear q5
                          try clear hx5
                          try clear hcv5
                          try clear hcw5
                          try clear hf5
                          try clear c6
                          try clear c6b0
                          try clear c6b1
                          try clear p6
                          try clear c7
                          try clear c8
                          try clear c9
                          try clear c10
                          try clear c22
                          try clear c23
                          try clear c24
                          try clear c26
                          try clear c27
                          try clear c28
                          try clear c34
                          try clear c34b0
                          try clear c34b1
                          try clear c35
                          try clear c35b0
                          try clear c35b1
                          try clear c36
                          try clear c36b0
                          try clear c36b1
                          try clear c37
                          try clear c37b0
                          try clear c37b1
                          try clear c39
                          try clear hcv40
                          try clear hcw40
                          try clear hcv41
                          try clear hcw41
                          try clear hcv44
                          try clear hcw44
                          try clear hcv45
                          try clear hcw45
                          try clear hcv48
                          try clear hcw48
                          try clear hcv49
                          try clear hcw49
                          try clear hcv50
                          try clear hcw50
                          try clear hcv51
                          try clear hcw51
                          try clear c52
                          try clear c52b0
                          try clear c53
                          try clear c53b0
                          try clear p54
                          try clear q54
                          try clear hx54
                          try clear hf54
                          try clear hx54_0
                          try clear p2
                          try clear p54
                          try clear q54
                          obtain ⟨x18_4, x24_4, rfl, HA, HK4, HO_7, HO_8, HO_9, HO_18, HB⟩ := hrel
                          cases gk with
                          | zero => exact absurd HA.out (by simp [catamaranlaw01_NumTells.l1])
                          | succ k4 =>
                            have H := HA.out
                            clear HA
                            simp only [catamaranlaw01_NumTells.l1] at H
                            by_cases c59 : x24_4 < (x18_4.length : Int)
                            · rw [if_pos c59] at H
                              have c59b0 : decide (x24_4 < (x18_4.length : Int)) = true := decide_eq_true c59
                              clear c59
                              by_cases c60 : 0 ≤ x24_4
                              · rw [if_pos c60] at H
                                have c60b0 : decide (0 ≤ x24_4) = true := decide_eq_true c60
                                clear c60
                                obtain ⟨y286, hy286⟩ : ∃ y_ : List Int, y_ = (x18_4.set (x24_4 : Int).toNat 7) := ⟨_, rfl⟩
                                replace H : (catamaranlaw01_NumTells.l1 k4 l0 l1 l2 y249 y255 y261 y286 x22_16 (wrap64 (x24_4 + 1))) = some r := by first | (rw [hy286]; with_reducible exact H) | (have H2_ := (Option.bind_some _ _).symm.trans H; rw [hy286]; with_reducible exact H2_) | (have H2_ := (Option.bind_some _ _).symm.trans H; with_reducible exact H2_) | with_reducible exact H | (rw [hy286]; exact H) | exact H
                                have Ny286 := Aside0.mk hy286
                                clear hy286
                                have H' := Aside0.mk H
                                clear H
                                obtain ⟨Ao62, co62, eo62⟩ := Kd.R_slice HO_18.out
                                subst eo62
                                have p61 : 0 ≤ (x24_4 : Int) := of_decide_eq_true (by first | (with_reducible assumption) | assumption)
                                have q61 : (x24_4 : Int) < ((x18_4.length : Int) : Int) := of_decide_eq_true (by first | (with_reducible assumption) | assumption)
                                obtain ⟨go61, co61, eo61, gb61, gl61, cl61, HG61⟩ := Kd.R_form HO_18.out (by omega)
                                (first | cases eo61 | (injection eo61 with ea_ en_ ec_; (first | subst ea_ | (injection ea_ with ea_; subst ea_)); subst ec_; clear en_))
                                have GB61 := Aside0.mk gb61
                                have GG61 := Aside0.mk HG61
                                clear gb61 gl61 HG61
                                obtain ⟨hx61_0, hf61_0⟩ := Kd.R_celln 0 HO_18.out (x24_4 : Int) p61 q61
                                replace p61 := eq_true p61
                                replace q61 := eq_true q61
                                have HP63 := Kd.R_putg HO_18.out (x24_4 : Int) 7
                                go_wp2_with (first | ((with_reducible refine gate_store (t := 38) (p := 128) rfl ?_); refine store_event (t := 38) (p := 128) (v := ?vo_w64) (w1 := (wr.setCell ⟨go61, (x24_4 : Int).toNat, none⟩ (.int .u64 7))) ?hg ?ho ?hn ?hr ?_; (case ho => rfl); (case hg => rfl); (case hn => rfl); (case hr => first | (go_simp; done) | (go_simp; rfl)); intro w64 hw; have hg : wr.grownBy w64 (some go61) := (by rw [hw]; exact HP63.2); have hp_ : Kd.R (Kd.int .u64) 38 w64 w.heap.size (fun k_ => some k_ ≠ (.slice Ao28 y249.length co28 : Value).ownBlock) (.slice (some ⟨go61, 0, none⟩) x18_4.length co62) y286 := (by rw [hw, Ny286.out]; exact HP63.1); clear HP63; have n0_ := Aside0.mk (Kd.R_after (v := (.slice (some ⟨go61, 0, none⟩) x18_4.length co62)) (v1 := (.slice (some ⟨go61, 0, none⟩) x18_4.length co62)) (ok := (fun _ => True)) (by (with_reducible repeat (first | apply Kd.R_alloc | apply Kd.R_drewN | apply Kd.R_drew)); exact Kd.R_mono HO_7.out (fun _ hk => ⟨trivial, hk⟩)) hg (.inl rfl)); have n1_ := Aside0.mk (Kd.R_over' (v := (.slice (some ⟨go61, 0, none⟩) x18_4.length co62)) (by (with_reducible repeat (first | apply Kd.R_alloc | apply Kd.R_drewN | apply Kd.R_drew)); exact HO_8.out) (Kd.R_typed HO_18.out) (by decide) hg); have n2_ := Aside0.mk (Kd.R_over' (v := (.slice (some ⟨go61, 0, none⟩) x18_4.length co62)) (by (with_reducible repeat (first | apply Kd.R_alloc | apply Kd.R_drewN | apply Kd.R_drew)); exact HO_9.out) (Kd.R_typed HO_18.out) (by decide) hg); have n3_ := Aside0.mk (hp_); have n4_ := Aside0.mk ((by rw [hw]; exact below_set (HB.out) GB61.out : Below w.heap.size w w64)); clear HO_7; clear HO_8; clear HO_9; clear HO_18; clear HB; have HO_7 := n0_; have HO_8 := n1_; have HO_9 := n2_; have HO_18 := n3_; have HB := n4_; clear n0_ n1_ n2_ n3_ n4_; clear hg hw hp_))
                                go_roundg k4
                                case measure => have := HJ3.out; have := HJ16.out; have := HK3.out; have := HK4.out; omega
                                case rel => exact ⟨(y286), (wrap64 (x24_4 + 1)), (by first | rfl | (simp; done) | (simp [*]; done)), H', ⟨by have := HJ3.out; have := HJ16.out; have := HK3.out; have := HK4.out; omega⟩, ⟨by (with_reducible repeat (first | apply Kd.R_alloc | apply Kd.R_drewN | apply Kd.R_drew)); exact Kd.R_mono HO_7.out (fun _ hk => hk.2)⟩, ⟨by (with_reducible repeat (first | apply Kd.R_alloc | apply Kd.R_drewN | apply Kd.R_drew)); exact HO_8.out⟩, ⟨by (with_reducible repeat (first | apply Kd.R_alloc | apply Kd.R_drewN | apply Kd.R_drew)); exact HO_9.out⟩, ⟨by (with_reducible repeat (first | apply Kd.R_alloc | apply Kd.R_drewN | apply Kd.R_drew)); exact HO_18.out⟩, ⟨by repeat (first | (with_reducible first | exact HB.out | apply below_alloc | apply pw_below_drewN | apply below_drew1) | exact HB.out)⟩⟩
                              · rw [if_neg c60] at H
                                exact absurd H (by simp)
                            · rw [if_neg c59] at H
                              have c59b0 : decide (x24_4 < (x18_4.length : Int)) = false := decide_eq_false c59
                              clear c59
                              by_cases c65 : x22_16 = true
                              · subst c65
                                have H1 : ((catamaranref01_Same.f k4 y249 l0).bind fun t287 => (if t287 = true then ((catamaranref01_SameInts.f k4 y255 l1).bind fun t288 => (if t288 = true then (some ((strOfNums y261).toList == (strOfNums l2).toList)) else (some false))) else (some false))) = some r := by rw [if_pos rfl] at H; exact H
                                clear H
                                have H := H1
                                clear H1
                                replace H := Option.bind_eq_some_iff.mp H
                                obtain ⟨t287, A660, H⟩ := H
                                replace H : (if t287 = true then ((catamaranref01_SameInts.f k4 y255 l1).bind fun t288 => (if t288 = true then (some ((strOfNums y261).toList == (strOfNums l2).toList)) else (some false))) else (some false)) = some r := H
                                have A66 := Aside0.mk A660
                                clear A660
                                by_cases c67 : t287 = true
                                · subst c67
                                  have H1 : ((catamaranref01_SameInts.f k4 y255 l1).bind fun t288 => (if t288 = true then (some ((strOfNums y261).toList == (strOfNums l2).toList)) else (some false))) = some r := by rw [if_pos rfl] at H; exact H
                                  clear H
                                  have H := H1
                                  clear H1
                                  replace H := Option.bind_eq_some_iff.mp H
                                  obtain ⟨t288, A680, H⟩ := H
                                  replace H : (if t288 = true then (some ((strOfNums y261).toList == (strOfNums l2).toList)) else (some false)) = some r := H
                                  have A68 := Aside0.mk A680
                                  clear A680
                                  by_cases c69 : t288 = true
                                  · subst c69
                                    have H1 : (some ((strOfNums y261).toList == (strOfNums l2).toList)) = some r := by rw [if_pos rfl] at H; exact H
                                    clear H
                                    have H := H1
                                    clear H1
                                    obtain rfl := Option.some.inj H
                                    obtain ⟨Ao70, co70, eo70⟩ := Kd.R_slice HO_18.out
                                    subst eo70
                                    go_wp2_with (first | (go_at_call 29; (with_reducible refine (catamaranref01_Same.calls k4 _ _ y249 _ _ l0 true _ ?side1 ?side2 ?side3 ?side4 A66.out).mono ?_); (case side1 => repeat (first | exact (Kd.R_reads' HO_7.out).2.2 | (with_reducible refine Kd.C_alloc ?_ _) | (with_reducible refine Kd.C_drewN ?_ _) | (with_reducible refine Kd.C_drew ?_))); (case side2 => exact (Kd.R_reads' HO_7.out).2.1); (case side3 => repeat (first | exact (Kd.C_below HR0.out HB.out) | (with_reducible refine Kd.C_alloc ?_ _) | (with_reducible refine Kd.C_drewN ?_ _) | (with_reducible refine Kd.C_drew ?_))); (case side4 => exact HC0.out); rintro e w' ⟨rfl, ⟨nd, rfl⟩⟩) | (go_at_call 30; (with_reducible refine (catamaranref01_SameInts.calls k4 _ _ y255 _ _ l1 true _ ?side1 ?side2 ?side3 ?side4 A68.out).mono ?_); (case side1 => repeat (first | exact (Kd.R_reads' HO_8.out).2.2 | (with_reducible refine Kd.C_alloc ?_ _) | (with_reducible refine Kd.C_drewN ?_ _) | (with_reducible refine Kd.C_drew ?_))); (case side2 => exact (Kd.R_reads' HO_8.out).2.1); (case side3 => repeat (first | exact (Kd.C_below HR1.out (by repeat (first | (with_reducible first | exact HB.out | apply below_alloc | apply pw_below_drewN | apply below_drew1) | exact HB.out))) | (with_reducible refine Kd.C_alloc ?_ _) | (with_reducible refine Kd.C_drewN ?_ _) | (with_reducible refine Kd.C_drew ?_))); (case side4 => exact HC1.out); rintro e w' ⟨rfl, ⟨nd, rfl⟩⟩; have hcv71 := own_string (P := Try.prog) Try.underlying22 Try.underlying5 Try.underlying9 (Kd.own_of_R HO_9.out); have hcw71 := fun m_ => own_string (P := Try.prog) Try.underlying22 Try.underlying5 Try.underlying9 (Kd.own_of_R (Kd.R_drewN HO_9.out m_)); have hcv72 := Kd.C_string (P := Try.prog) (A := A2) (c := c2) Try.underlying22 Try.underlying5 Try.underlying9 (Kd.C_below HR2.out HB.out); have hcw72 := fun m_ => Kd.C_string (P := Try.prog) (A := A2) (c := c2) Try.underlying22 Try.underlying5 Try.underlying9 (Kd.C_drewN (Kd.C_below HR2.out HB.out) m_)))
                                    go_ret
                                    exact ⟨by first | rfl | (simp [errW_none, errW_some] <;> rfl) | (simp [*, errW_none, errW_some] <;> rfl), by repeat (first | (with_reducible first | exact HB.out | apply below_alloc | apply pw_below_drewN | apply below_drew1) | exact HB.out)⟩
                                  · replace c69 := Bool.eq_false_iff.mpr c69
                                    subst c69
                                    have H1 : (some false) = some r := by rw [if_neg (show ¬ (false = true) by decide)] at H; exact H
                                    clear H
                                    have H := H1
                                    clear H1
                                    exact absurd ((Option.some.inj H).trans hT_.out) (by decide)
                                · replace c67 := Bool.eq_false_iff.mpr c67
                                  subst c67
                                  have H1 : (some false) = some r := by rw [if_neg (show ¬ (false = true) by decide)] at H; exact H
                                  clear H
                                  have H := H1
                                  clear H1
                                  exact absurd ((Option.some.inj H).trans hT_.out) (by decide)
                              · replace c65 := Bool.eq_false_iff.mpr c65
                                subst c65
                                have H1 : (some false) = some r := by rw [if_neg (show ¬ (false = true) by decide)] at H; exact H
                                clear H
                                have H := H1
                                clear H1
                                exact absurd ((Option.some.inj H).trans hT_.out) (by decide)
            · rw [if_neg c10] at H
              exact absurd H (by simp)
          · rw [if_neg c9] at H
            exact absurd H (by simp)
        · rw [if_neg c8] at H
          exact absurd H (by simp)

/-- THE ONE PURE STATEMENT of catamaranlaw01_NumTells: yours. -/
def catamaranlaw01_NumTells.Pure : Prop := ∀ (l0 : List Int) (l1 : List Int) (l2 : List Int), l0.length ≤ maxLen → l0.length * 8 ≤ 140737488351232 → (∀ x ∈ l0, (Lit.int .u64 x).wf = true) → l1.length ≤ maxLen → l1.length * 8 ≤ 140737488351232 → (∀ x ∈ l1, (Lit.int .i64 x).wf = true) → l2.length ≤ maxLen → l2.length * 1 ≤ 140737488351232 → (∀ x ∈ l2, (Lit.int .u8 x).wf = true) → ∃ k, catamaranlaw01_NumTells.f k l0 l1 l2 = some true
theorem catamaranlaw01_NumTells.walk (P : catamaranlaw01_NumTells.Pure) (a0 : Option Addr) (len0 cap0 : Nat) (z0 : List Int) (a1 : Option Addr) (len1 cap1 : Nat) (z1 : List Int) (a2 : Option Addr) (len2 cap2 : Nat) (z2 : List Int) (w : World) (w0 : (a0 = none ∧ len0 = 0 ∧ cap0 = 0 ∧ z0 = []) ∨ ∃ x, a0 = some x ∧ len0 ≤ cap0 ∧ cap0 ≤ maxLen ∧ z0.length = cap0 ∧ (∀ i, i < z0.length → w.cell? (x.add i) = some (.int .u64 (z0.getD i 0))) ∧ ∀ n ∈ z0, (Lit.int .u64 n).wf = true) (y0 : len0 * 8 ≤ 140737488351232) (w1 : (a1 = none ∧ len1 = 0 ∧ cap1 = 0 ∧ z1 = []) ∨ ∃ x, a1 = some x ∧ len1 ≤ cap1 ∧ cap1 ≤ maxLen ∧ z1.length = cap1 ∧ (∀ i, i < z1.length → w.cell? (x.add i) = some (.int .i64 (z1.getD i 0))) ∧ ∀ n ∈ z1, (Lit.int .i64 n).wf = true) (y1 : len1 * 8 ≤ 140737488351232) (w2 : (a2 = none ∧ len2 = 0 ∧ cap2 = 0 ∧ z2 = []) ∨ ∃ x, a2 = some x ∧ len2 ≤ cap2 ∧ cap2 ≤ maxLen ∧ z2.length = cap2 ∧ (∀ i, i < z2.length → w.cell? (x.add i) = some (.int .u8 (z2.getD i 0))) ∧ ∀ n ∈ z2, (Lit.int .u8 n).wf = true) (y2 : len2 * 1 ≤ 140737488351232) :
    Calls Try.prog 10 #[.slice a0 len0 cap0, .slice a1 len1 cap1, .slice a2 len2 cap2] w fun e w' => e = .returned (.bool true) ∧ Below w.heap.size w w' := by
  obtain ⟨l0, rfl, hr0, hm0, hw0, hc0⟩ := ReadsInt.ofRowC w0
  obtain ⟨l1, rfl, hr1, hm1, hw1, hc1⟩ := ReadsInt.ofRowC w1
  obtain ⟨l2, rfl, hr2, hm2, hw2, hc2⟩ := ReadsInt.ofRowC w2
  obtain ⟨k, h⟩ := P l0 l1 l2 hm0 y0 hw0 hm1 y1 hw1 hm2 y2 hw2
  refine (catamaranlaw01_NumTells.calls k _ _ l0 _ _ l1 _ _ l2 true w (Kd.C_of_reads (d := (0 : Int)) (h1 := fun _ => rfl) hr0) hc0 (Kd.C_of_reads (d := (0 : Int)) (h1 := fun _ => rfl) hr1) hc1 (Kd.C_of_reads (d := (0 : Int)) (h1 := fun _ => rfl) hr2) hc2 h ⟨rfl⟩).mono ?_
  rintro e w' ⟨rfl, hd⟩
  exact ⟨rfl, hd⟩

end Go.Proofs.Ytlgnnppmjcdncaa.PNum
