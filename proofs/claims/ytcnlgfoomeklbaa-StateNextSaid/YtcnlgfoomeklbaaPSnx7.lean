-- written by wip/myprint.py out of the translation
import Derived.Test.YtcnlgfoomeklbaaPSnx0
import Derived.Test.YtcnlgfoomeklbaaPSnx1
import Derived.Test.YtcnlgfoomeklbaaPSnx2
import Derived.Test.YtcnlgfoomeklbaaPSnx3
import Derived.Test.YtcnlgfoomeklbaaPSnx4
import Derived.Test.YtcnlgfoomeklbaaPSnx5
import Derived.Test.YtcnlgfoomeklbaaPSnx6
namespace Go.Proofs.Ytcnlgfoomeklbaa.PSn
open Go.RowKit Go.Proofs.YtcnlgfoomeklbaaW.PrintWords Go.Proofs.YtcnlgfoomeklbaaW.PrintLast Go.Proofs.YtcnlgfoomeklbaaW.PrintMore
attribute [local go_sem] max2_int min2_int max_two min_two max_three min_three max_four min_four   -- for this text's walks alone
set_option linter.unusedVariables false
set_option linter.unusedSimpArgs false

attribute [local go_sem high] eqA24
/-! ### catamaranlaw19_StateNext: function 7 -/
mutual
def catamaranlaw19_StateNext.j0 : Nat → Int → Int → Bool → Bool → Int → Int → Int → Int → Int → Int → Bool → Bool → Int → Int → Int → Int → Int → Int → Bool → Bool → Option (Bool)
  | 0, _, _, _, _, _, _, _, _, _, _, _, _, _, _, _, _, _, _, _, _ => none
  | k + 1, x1, x2, x7, x28, x234000, x234001, x234002, x234003, x234004, x234005, x234006, x234007, x245000, x245001, x245002, x245003, x245004, x245005, x245006, x245007 => if x28 = true then (if x7 = true then (some (x245000 == 0 && (x245001 == 0 && (x245002 == 0 && (x245003 == 0 && (x245004 == 0 && (x245005 == 0 && (!x245006 && (!x245007))))))))) else (some false)) else ((state_Source.f k x245000 x245001 x245002 x245003 x245004 x245005 x245006 x245007).bind fun bt245 => ((state_Writes.f k x245003 x245000 x245001 x245002 x245003 x245004 x245005 x245006 x245007).bind fun bt247 => ((state_Reads.f k x245003 x245000 x245001 x245002 x245003 x245004 x245005 x245006 x245007).bind fun bt249 => ((rec_Check.f k x245000 x245001 x245002 x245003 x245004 x245005 x245006 x245007).bind fun t251 => (if t251 = 0 then (if bt245.2 = 0 then (if bt247.2 = 0 then (if bt249.2 = 0 then (if bt245.1 < (-1) then (catamaranlaw19_StateNext.j1 k x1 x2 x7 true x234000 x234001 x234002 x234003 x234004 x234005 x234006 x234007 x245000 x245001 x245002 x245003 x245004 x245005 x245006 x245007) else (if bt245.1 > 1 then (catamaranlaw19_StateNext.j1 k x1 x2 x7 true x234000 x234001 x234002 x234003 x234004 x234005 x234006 x234007 x245000 x245001 x245002 x245003 x245004 x245005 x245006 x245007) else (if bt245.1 = x245003 then (if (bt247.1 != true) = true then (catamaranlaw19_StateNext.j1 k x1 x2 x7 true x234000 x234001 x234002 x234003 x234004 x234005 x234006 x234007 x245000 x245001 x245002 x245003 x245004 x245005 x245006 x245007) else (if bt249.1 = 0 then (if x245006 = true then (catamaranlaw19_StateNext.j1 k x1 x2 x7 true x234000 x234001 x234002 x234003 x234004 x234005 x234006 x234007 x245000 x245001 x245002 x245003 x245004 x245005 x245006 x245007) else (if bt249.1 = 1 then (catamaranlaw19_StateNext.j1 k x1 x2 x7 (!bt247.1) x234000 x234001 x234002 x234003 x234004 x234005 x234006 x234007 x245000 x245001 x245002 x245003 x245004 x245005 x245006 x245007) else (catamaranlaw19_StateNext.j1 k x1 x2 x7 false x234000 x234001 x234002 x234003 x234004 x234005 x234006 x234007 x245000 x245001 x245002 x245003 x245004 x245005 x245006 x245007))) else (if bt249.1 = 1 then (catamaranlaw19_StateNext.j1 k x1 x2 x7 (!bt247.1) x234000 x234001 x234002 x234003 x234004 x234005 x234006 x234007 x245000 x245001 x245002 x245003 x245004 x245005 x245006 x245007) else (catamaranlaw19_StateNext.j1 k x1 x2 x7 false x234000 x234001 x234002 x234003 x234004 x234005 x234006 x234007 x245000 x245001 x245002 x245003 x245004 x245005 x245006 x245007)))) else (if (bt247.1 != (decide (bt245.1 < 0))) = true then (catamaranlaw19_StateNext.j1 k x1 x2 x7 true x234000 x234001 x234002 x234003 x234004 x234005 x234006 x234007 x245000 x245001 x245002 x245003 x245004 x245005 x245006 x245007) else (if bt249.1 = 0 then (if x245006 = true then (catamaranlaw19_StateNext.j1 k x1 x2 x7 true x234000 x234001 x234002 x234003 x234004 x234005 x234006 x234007 x245000 x245001 x245002 x245003 x245004 x245005 x245006 x245007) else (if bt249.1 = 1 then (catamaranlaw19_StateNext.j1 k x1 x2 x7 (!bt247.1) x234000 x234001 x234002 x234003 x234004 x234005 x234006 x234007 x245000 x245001 x245002 x245003 x245004 x245005 x245006 x245007) else (catamaranlaw19_StateNext.j1 k x1 x2 x7 false x234000 x234001 x234002 x234003 x234004 x234005 x234006 x234007 x245000 x245001 x245002 x245003 x245004 x245005 x245006 x245007))) else (if bt249.1 = 1 then (catamaranlaw19_StateNext.j1 k x1 x2 x7 (!bt247.1) x234000 x234001 x234002 x234003 x234004 x234005 x234006 x234007 x245000 x245001 x245002 x245003 x245004 x245005 x245006 x245007) else (catamaranlaw19_StateNext.j1 k x1 x2 x7 false x234000 x234001 x234002 x234003 x234004 x234005 x234006 x234007 x245000 x245001 x245002 x245003 x245004 x245005 x245006 x245007))))))) else (catamaranlaw19_StateNext.j1 k x1 x2 x7 true x234000 x234001 x234002 x234003 x234004 x234005 x234006 x234007 x245000 x245001 x245002 x245003 x245004 x245005 x245006 x245007)) else (catamaranlaw19_StateNext.j1 k x1 x2 x7 true x234000 x234001 x234002 x234003 x234004 x234005 x234006 x234007 x245000 x245001 x245002 x245003 x245004 x245005 x245006 x245007)) else (catamaranlaw19_StateNext.j1 k x1 x2 x7 true x234000 x234001 x234002 x234003 x234004 x234005 x234006 x234007 x245000 x245001 x245002 x245003 x245004 x245005 x245006 x245007)) else (catamaranlaw19_StateNext.j1 k x1 x2 x7 true x234000 x234001 x234002 x234003 x234004 x234005 x234006 x234007 x245000 x245001 x245002 x245003 x245004 x245005 x245006 x245007))))))
def catamaranlaw19_StateNext.j1 : Nat → Int → Int → Bool → Bool → Int → Int → Int → Int → Int → Int → Bool → Bool → Int → Int → Int → Int → Int → Int → Bool → Bool → Option (Bool)
  | 0, _, _, _, _, _, _, _, _, _, _, _, _, _, _, _, _, _, _, _, _ => none
  | k + 1, x1, x2, x7, x104, x234000, x234001, x234002, x234003, x234004, x234005, x234006, x234007, x245000, x245001, x245002, x245003, x245004, x245005, x245006, x245007 => if x104 = true then (some false) else ((state_Order.f k x1 x234000 x234001 x234002 x234003 x234004 x234005 x234006 x234007 x2).bind fun t252 => (if t252 = 0 then ((state_Join.f k x1 x234000 x234001 x234002 x234003 x234004 x234005 x234006 x234007 x2).bind fun t253 => (if t253 = 0 then (some false) else (if x7 = true then (if x2 = 8 then (if x245003 = x234003 then (if x245004 = 2 then (if x2 = 7 then (some (x245003 != x234003)) else (if x2 = 6 then (some (x245003 != x234003)) else (some true))) else (some false)) else (some false)) else (if x2 = 7 then (some (x245003 != x234003)) else (if x2 = 6 then (some (x245003 != x234003)) else (some true)))) else (some false)))) else (if x7 = true then (if x2 = 8 then (if x245003 = x234003 then (if x245004 = 2 then (if x2 = 7 then (some (x245003 != x234003)) else (if x2 = 6 then (some (x245003 != x234003)) else (some true))) else (some false)) else (some false)) else (if x2 = 7 then (some (x245003 != x234003)) else (if x2 = 6 then (some (x245003 != x234003)) else (some true)))) else (some false))))
end
def catamaranlaw19_StateNext.f (k : Nat) (a0_0 : Int) (a0_1 : Int) (a0_2 : Int) (a0_3 : Int) (a0_4 : Int) (a0_5 : Int) (a0_6 : Bool) (a0_7 : Bool) (a1 : Int) (a2 : Int) : Option (Bool) := (catamaranlaw19_alive.f k).bind fun t234 => ((state_Next.f k a0_0 a0_1 a0_2 a0_3 a0_4 a0_5 a0_6 a0_7 a2).bind fun bt235 => (if bt235.2.2.2.2.2.2.2.2 = 0 then (catamaranlaw19_StateNext.j0 k a1 a2 t234 (!t234) a0_0 a0_1 a0_2 a0_3 a0_4 a0_5 a0_6 a0_7 bt235.1 bt235.2.1 bt235.2.2.1 bt235.2.2.2.1 bt235.2.2.2.2.1 bt235.2.2.2.2.2.1 bt235.2.2.2.2.2.2.1 bt235.2.2.2.2.2.2.2.1) else (catamaranlaw19_StateNext.j0 k a1 a2 t234 true a0_0 a0_1 a0_2 a0_3 a0_4 a0_5 a0_6 a0_7 bt235.1 bt235.2.1 bt235.2.2.1 bt235.2.2.2.1 bt235.2.2.2.2.1 bt235.2.2.2.2.2.1 bt235.2.2.2.2.2.2.1 bt235.2.2.2.2.2.2.2.1)))
theorem catamaranlaw19_StateNext.mono_l : ∀ k, (∀ y0 y1 y2 y3 y4 y5 y6 y7 y8 y9 y10 y11 y12 y13 y14 y15 y16 y17 y18 y19, LeO (catamaranlaw19_StateNext.j0 k y0 y1 y2 y3 y4 y5 y6 y7 y8 y9 y10 y11 y12 y13 y14 y15 y16 y17 y18 y19) (catamaranlaw19_StateNext.j0 (k + 1) y0 y1 y2 y3 y4 y5 y6 y7 y8 y9 y10 y11 y12 y13 y14 y15 y16 y17 y18 y19)) ∧ (∀ y0 y1 y2 y3 y4 y5 y6 y7 y8 y9 y10 y11 y12 y13 y14 y15 y16 y17 y18 y19, LeO (catamaranlaw19_StateNext.j1 k y0 y1 y2 y3 y4 y5 y6 y7 y8 y9 y10 y11 y12 y13 y14 y15 y16 y17 y18 y19) (catamaranlaw19_StateNext.j1 (k + 1) y0 y1 y2 y3 y4 y5 y6 y7 y8 y9 y10 y11 y12 y13 y14 y15 y16 y17 y18 y19))
  | 0 => ⟨fun _ _ _ _ _ _ _ _ _ _ _ _ _ _ _ _ _ _ _ _ r h => by simp [catamaranlaw19_StateNext.j0] at h, fun _ _ _ _ _ _ _ _ _ _ _ _ _ _ _ _ _ _ _ _ r h => by simp [catamaranlaw19_StateNext.j1] at h⟩
  | k + 1 => by
    obtain ⟨ih0, ih1⟩ := catamaranlaw19_StateNext.mono_l k
    refine ⟨?_, ?_⟩
    · intro y0 y1 y2 y3 y4 y5 y6 y7 y8 y9 y10 y11 y12 y13 y14 y15 y16 y17 y18 y19
      unfold catamaranlaw19_StateNext.j0
      repeat' first
      | (with_reducible exact ih0 _ _ _ _ _ _ _ _ _ _ _ _ _ _ _ _ _ _ _ _)
      | (with_reducible exact ih1 _ _ _ _ _ _ _ _ _ _ _ _ _ _ _ _ _ _ _ _)
      | (with_reducible exact catamaranlaw19_alive.mono _)
      | (with_reducible exact rec_Check.mono _ _ _ _ _ _ _ _ _)
      | (with_reducible exact state_Join.mono _ _ _ _ _ _ _ _ _ _ _)
      | (with_reducible exact state_Next.mono _ _ _ _ _ _ _ _ _ _)
      | (with_reducible exact state_Order.mono _ _ _ _ _ _ _ _ _ _ _)
      | (with_reducible exact state_Reads.mono _ _ _ _ _ _ _ _ _ _)
      | (with_reducible exact state_Source.mono _ _ _ _ _ _ _ _ _)
      | (with_reducible exact state_Writes.mono _ _ _ _ _ _ _ _ _ _)
      | (with_reducible exact LeO.refl _)
      | (with_reducible exact LeO.none _)
      | (with_reducible refine LeO.ite ?_ ?_)
      | (with_reducible refine LeO.bind ?_ (fun _ => ?_))
      | exact ih0 _ _ _ _ _ _ _ _ _ _ _ _ _ _ _ _ _ _ _ _
      | exact ih1 _ _ _ _ _ _ _ _ _ _ _ _ _ _ _ _ _ _ _ _
      | exact catamaranlaw19_alive.mono _
      | exact rec_Check.mono _ _ _ _ _ _ _ _ _
      | exact state_Join.mono _ _ _ _ _ _ _ _ _ _ _
      | exact state_Next.mono _ _ _ _ _ _ _ _ _ _
      | exact state_Order.mono _ _ _ _ _ _ _ _ _ _ _
      | exact state_Reads.mono _ _ _ _ _ _ _ _ _ _
      | exact state_Source.mono _ _ _ _ _ _ _ _ _
      | exact state_Writes.mono _ _ _ _ _ _ _ _ _ _
      | exact LeO.none _
      | refine LeO.ite ?_ ?_
      | refine LeO.bind ?_ (fun _ => ?_)
    · intro y0 y1 y2 y3 y4 y5 y6 y7 y8 y9 y10 y11 y12 y13 y14 y15 y16 y17 y18 y19
      unfold catamaranlaw19_StateNext.j1
      repeat' first
      | (with_reducible exact ih0 _ _ _ _ _ _ _ _ _ _ _ _ _ _ _ _ _ _ _ _)
      | (with_reducible exact ih1 _ _ _ _ _ _ _ _ _ _ _ _ _ _ _ _ _ _ _ _)
      | (with_reducible exact catamaranlaw19_alive.mono _)
      | (with_reducible exact rec_Check.mono _ _ _ _ _ _ _ _ _)
      | (with_reducible exact state_Join.mono _ _ _ _ _ _ _ _ _ _ _)
      | (with_reducible exact state_Next.mono _ _ _ _ _ _ _ _ _ _)
      | (with_reducible exact state_Order.mono _ _ _ _ _ _ _ _ _ _ _)
      | (with_reducible exact state_Reads.mono _ _ _ _ _ _ _ _ _ _)
      | (with_reducible exact state_Source.mono _ _ _ _ _ _ _ _ _)
      | (with_reducible exact state_Writes.mono _ _ _ _ _ _ _ _ _ _)
      | (with_reducible exact LeO.refl _)
      | (with_reducible exact LeO.none _)
      | (with_reducible refine LeO.ite ?_ ?_)
      | (with_reducible refine LeO.bind ?_ (fun _ => ?_))
      | exact ih0 _ _ _ _ _ _ _ _ _ _ _ _ _ _ _ _ _ _ _ _
      | exact ih1 _ _ _ _ _ _ _ _ _ _ _ _ _ _ _ _ _ _ _ _
      | exact catamaranlaw19_alive.mono _
      | exact rec_Check.mono _ _ _ _ _ _ _ _ _
      | exact state_Join.mono _ _ _ _ _ _ _ _ _ _ _
      | exact state_Next.mono _ _ _ _ _ _ _ _ _ _
      | exact state_Order.mono _ _ _ _ _ _ _ _ _ _ _
      | exact state_Reads.mono _ _ _ _ _ _ _ _ _ _
      | exact state_Source.mono _ _ _ _ _ _ _ _ _
      | exact state_Writes.mono _ _ _ _ _ _ _ _ _ _
      | exact LeO.none _
      | refine LeO.ite ?_ ?_
      | refine LeO.bind ?_ (fun _ => ?_)
theorem catamaranlaw19_StateNext.mono : ∀ a0 a1 a2 a3 a4 a5 a6 a7 a8 a9 k, LeO (catamaranlaw19_StateNext.f k a0 a1 a2 a3 a4 a5 a6 a7 a8 a9) (catamaranlaw19_StateNext.f (k + 1) a0 a1 a2 a3 a4 a5 a6 a7 a8 a9) := by
  intro a0 a1 a2 a3 a4 a5 a6 a7 a8 a9 k
  obtain ⟨ih0, ih1⟩ := catamaranlaw19_StateNext.mono_l k
  unfold catamaranlaw19_StateNext.f
  repeat' first
      | (with_reducible exact ih0 _ _ _ _ _ _ _ _ _ _ _ _ _ _ _ _ _ _ _ _)
      | (with_reducible exact ih1 _ _ _ _ _ _ _ _ _ _ _ _ _ _ _ _ _ _ _ _)
      | (with_reducible exact catamaranlaw19_alive.mono _)
      | (with_reducible exact rec_Check.mono _ _ _ _ _ _ _ _ _)
      | (with_reducible exact state_Join.mono _ _ _ _ _ _ _ _ _ _ _)
      | (with_reducible exact state_Next.mono _ _ _ _ _ _ _ _ _ _)
      | (with_reducible exact state_Order.mono _ _ _ _ _ _ _ _ _ _ _)
      | (with_reducible exact state_Reads.mono _ _ _ _ _ _ _ _ _ _)
      | (with_reducible exact state_Source.mono _ _ _ _ _ _ _ _ _)
      | (with_reducible exact state_Writes.mono _ _ _ _ _ _ _ _ _ _)
      | (with_reducible exact LeO.refl _)
      | (with_reducible exact LeO.none _)
      | (with_reducible refine LeO.ite ?_ ?_)
      | (with_reducible refine LeO.bind ?_ (fun _ => ?_))
      | exact ih0 _ _ _ _ _ _ _ _ _ _ _ _ _ _ _ _ _ _ _ _
      | exact ih1 _ _ _ _ _ _ _ _ _ _ _ _ _ _ _ _ _ _ _ _
      | exact catamaranlaw19_alive.mono _
      | exact rec_Check.mono _ _ _ _ _ _ _ _ _
      | exact state_Join.mono _ _ _ _ _ _ _ _ _ _ _
      | exact state_Next.mono _ _ _ _ _ _ _ _ _ _
      | exact state_Order.mono _ _ _ _ _ _ _ _ _ _ _
      | exact state_Reads.mono _ _ _ _ _ _ _ _ _ _
      | exact state_Source.mono _ _ _ _ _ _ _ _ _
      | exact state_Writes.mono _ _ _ _ _ _ _ _ _ _
      | exact LeO.none _
      | refine LeO.ite ?_ ?_
      | refine LeO.bind ?_ (fun _ => ?_)
set_option maxHeartbeats 8000000 in
set_option maxRecDepth 100000 in
theorem catamaranlaw19_StateNext.calls (k : Nat) (a0_0 : Int) (a0_1 : Int) (a0_2 : Int) (a0_3 : Int) (a0_4 : Int) (a0_5 : Int) (a0_6 : Bool) (a0_7 : Bool) (a1 : Int) (a2 : Int) (r : Bool) (w : World) (h : catamaranlaw19_StateNext.f k a0_0 a0_1 a0_2 a0_3 a0_4 a0_5 a0_6 a0_7 a1 a2 = some r) (hT_ : Aside0 (r = true)) :
    Calls Try.prog 7 #[.agg #[.int .i64 a0_0, .int .u32 a0_1, .int .u32 a0_2, .int .i64 a0_3, .int .u8 a0_4, .int .i64 a0_5, .bool a0_6, .bool a0_7], .int .i64 a1, .int .u8 a2] w fun e w' => e = .returned (.bool r) ∧ Below w.heap.size w w' := by
  have hu24 := Try.underlying24
  have HB := Aside0.mk (Below.refl w.heap.size w)
  have H : ((catamaranlaw19_alive.f k).bind fun t234 => ((state_Next.f k a0_0 a0_1 a0_2 a0_3 a0_4 a0_5 a0_6 a0_7 a2).bind fun bt235 => (if bt235.2.2.2.2.2.2.2.2 = 0 then (catamaranlaw19_StateNext.j0 k a1 a2 t234 (!t234) a0_0 a0_1 a0_2 a0_3 a0_4 a0_5 a0_6 a0_7 bt235.1 bt235.2.1 bt235.2.2.1 bt235.2.2.2.1 bt235.2.2.2.2.1 bt235.2.2.2.2.2.1 bt235.2.2.2.2.2.2.1 bt235.2.2.2.2.2.2.2.1) else (catamaranlaw19_StateNext.j0 k a1 a2 t234 true a0_0 a0_1 a0_2 a0_3 a0_4 a0_5 a0_6 a0_7 bt235.1 bt235.2.1 bt235.2.2.1 bt235.2.2.2.1 bt235.2.2.2.2.1 bt235.2.2.2.2.2.1 bt235.2.2.2.2.2.2.1 bt235.2.2.2.2.2.2.2.1)))) = some r := h
  clear h
  replace H := Option.bind_eq_some_iff.mp H
  obtain ⟨t234, A40, H⟩ := H
  replace H : ((state_Next.f k a0_0 a0_1 a0_2 a0_3 a0_4 a0_5 a0_6 a0_7 a2).bind fun bt235 => (if bt235.2.2.2.2.2.2.2.2 = 0 then (catamaranlaw19_StateNext.j0 k a1 a2 t234 (!t234) a0_0 a0_1 a0_2 a0_3 a0_4 a0_5 a0_6 a0_7 bt235.1 bt235.2.1 bt235.2.2.1 bt235.2.2.2.1 bt235.2.2.2.2.1 bt235.2.2.2.2.2.1 bt235.2.2.2.2.2.2.1 bt235.2.2.2.2.2.2.2.1) else (catamaranlaw19_StateNext.j0 k a1 a2 t234 true a0_0 a0_1 a0_2 a0_3 a0_4 a0_5 a0_6 a0_7 bt235.1 bt235.2.1 bt235.2.2.1 bt235.2.2.2.1 bt235.2.2.2.2.1 bt235.2.2.2.2.2.1 bt235.2.2.2.2.2.2.1 bt235.2.2.2.2.2.2.2.1))) = some r := H
  have A4 := Aside0.mk A40
  clear A40
  replace H := Option.bind_eq_some_iff.mp H
  obtain ⟨⟨t235, t236, t237, t238, t239, t240, t241, t242, t243⟩, A50, H⟩ := H
  replace H : (if t243 = 0 then (catamaranlaw19_StateNext.j0 k a1 a2 t234 (!t234) a0_0 a0_1 a0_2 a0_3 a0_4 a0_5 a0_6 a0_7 t235 t236 t237 t238 t239 t240 t241 t242) else (catamaranlaw19_StateNext.j0 k a1 a2 t234 true a0_0 a0_1 a0_2 a0_3 a0_4 a0_5 a0_6 a0_7 t235 t236 t237 t238 t239 t240 t241 t242)) = some r := H
  have A5 := Aside0.mk A50
  clear A50
  have HC6 := Aside0.mk H
  clear H
  go_enter Try.func7, Try.ntmps7
  go_upto_region 3 with (first | ((with_reducible refine gate_dst (N := 3) rfl ?_); refine box_event ?hg (N := 3) ?hd (cs := #[.int .i64 a0_0, .int .u32 a0_1, .int .u32 a0_2, .int .i64 a0_3, .int .u8 a0_4, .int .i64 a0_5, .bool a0_6, .bool a0_7]) (t := 24) ?hr ?_; (case hd => rfl); (case hg => rfl); (case hr => first | (go_simp; done) | (go_simp; rfl)); intro gb233 hg w7 hbox hb; have n0_ := Aside0.mk (below_step (by repeat (first | (with_reducible first | exact HB.out | apply below_alloc | apply pw_below_drewN | apply below_drew1) | exact HB.out)) hb); have n1_ := Aside0.mk (hbox); have n2_ := Aside0.mk ((by rw [hg]; exact (below_size (by repeat (first | (with_reducible first | exact HB.out | apply below_alloc | apply pw_below_drewN | apply below_drew1) | exact HB.out))) : w.heap.size ≤ gb233)); have n3_ := Aside0.mk ((by rw [hg]; exact (below_size (by repeat (first | (with_reducible first | exact HB.out | apply below_alloc | apply pw_below_drewN | apply below_drew1) | exact HB.out))) : w.heap.size ≤ gb233)); clear HB; have HB := n0_; have BK233 := n1_; have GW233 := n2_; have GE233 := n3_; clear n0_ n1_ n2_ n3_; clear hb hbox hg) | ((with_reducible refine gate_callee (f := 36) rfl ?_); refine goesL_ (some 16) rfl rfl Try.func36 (by kernel_rfl) rfl #[] rfl (by (try simp only [List.map_toArray, List.map_cons, List.map_nil]); first | done | rfl | (simp only [List.length_drop, List.length_take]; rfl)) ?_; (with_reducible refine (catamaranlaw19_alive.calls k  t234 _ A4.out).mono ?_); rintro e w8 ⟨rfl, hb⟩; refine ⟨_, rfl, ?_⟩; have n0_ := Aside0.mk (blk_below (g := gb233) (o := .cells #[.int .i64 a0_0, .int .u32 a0_1, .int .u32 a0_2, .int .i64 a0_3, .int .u8 a0_4, .int .i64 a0_5, .bool a0_6, .bool a0_7] 24 (0, 0)) (by (with_reducible repeat (first | refine blk_drewN ?_ _ | refine blk_drew ?_ | refine blk_alloc ?_ _)); exact BK233.out) hb); have n1_ := Aside0.mk (below_step (by repeat (first | (with_reducible first | exact HB.out | apply below_alloc | apply pw_below_drewN | apply below_drew1 | refine below_set ?_ GE233.out) | exact HB.out)) hb); clear BK233; clear HB; have BK233 := n0_; have HB := n1_; clear n0_ n1_; (try clear hb); (try clear hb2); (try clear hk); (try clear hi); obtain ⟨hcz9_0, hcz9_1, hcz9_2, hcz9_3, hcz9_4, hcz9_5, hcz9_6, hcz9_7, hfz9_0, hfz9_1, hfz9_2, hfz9_3, hfz9_4, hfz9_5, hfz9_6, hfz9_7⟩ := blkc8 BK233.out) | ((with_reducible refine gate_callee (f := 20) rfl ?_); refine goesL_ (some 20) rfl rfl Try.func20 (by kernel_rfl) rfl #[.agg #[.int .i64 a0_0, .int .u32 a0_1, .int .u32 a0_2, .int .i64 a0_3, .int .u8 a0_4, .int .i64 a0_5, .bool a0_6, .bool a0_7], .int .u8 a2] rfl (by (try simp only [List.map_toArray, List.map_cons, List.map_nil]); first | done | rfl | (simp only [List.length_drop, List.length_take]; rfl)) ?_; (with_reducible refine (state_Next.calls k a0_0 a0_1 a0_2 a0_3 a0_4 a0_5 a0_6 a0_7 a2 t235 t236 t237 t238 t239 t240 t241 t242 t243 _ A5.out).mono ?_); rintro e w10 ⟨rfl, hb⟩; refine ⟨_, rfl, ?_⟩; have n0_ := Aside0.mk (blk_below (g := gb233) (o := .cells #[.int .i64 a0_0, .int .u32 a0_1, .int .u32 a0_2, .int .i64 a0_3, .int .u8 a0_4, .int .i64 a0_5, .bool a0_6, .bool a0_7] 24 (0, 0)) (by (with_reducible repeat (first | refine blk_drewN ?_ _ | refine blk_drew ?_ | refine blk_alloc ?_ _)); exact BK233.out) hb); have n1_ := Aside0.mk (below_step (by repeat (first | (with_reducible first | exact HB.out | apply below_alloc | apply pw_below_drewN | apply below_drew1 | refine below_set ?_ GE233.out) | exact HB.out)) hb); clear BK233; clear HB; have BK233 := n0_; have HB := n1_; clear n0_ n1_; (try clear hb); (try clear hb2); (try clear hk); (try clear hi)) | ((with_reducible refine gate_dst (N := 8) rfl ?_); refine box_event ?hg (N := 8) ?hd (cs := #[.int .i64 0, .int .u32 0, .int .u32 0, .int .i64 0, .int .u8 0, .int .i64 0, .bool false, .bool false]) (t := 24) ?hr ?_; (case hd => rfl); (case hg => rfl); (case hr => first | (go_simp; done) | (go_simp; rfl)); intro gb244 hg w11 hbox hb; have n0_ := Aside0.mk (blk_below (g := gb233) (o := .cells #[.int .i64 a0_0, .int .u32 a0_1, .int .u32 a0_2, .int .i64 a0_3, .int .u8 a0_4, .int .i64 a0_5, .bool a0_6, .bool a0_7] 24 (0, 0)) (by (with_reducible repeat (first | refine blk_drewN ?_ _ | refine blk_drew ?_ | refine blk_alloc ?_ _)); exact BK233.out) hb); have n1_ := Aside0.mk (below_step (by repeat (first | (with_reducible first | exact HB.out | apply below_alloc | apply pw_below_drewN | apply below_drew1 | refine below_set ?_ GE233.out) | exact HB.out)) hb); have n2_ := Aside0.mk (hbox); have n3_ := Aside0.mk ((by rw [hg]; exact (below_size (by repeat (first | (with_reducible first | exact HB.out | apply below_alloc | apply pw_below_drewN | apply below_drew1 | refine below_set ?_ GE233.out) | exact HB.out))) : w.heap.size ≤ gb244)); have n4_ := Aside0.mk ((by rw [hg]; exact (below_size (by repeat (first | (with_reducible first | exact HB.out | apply below_alloc | apply pw_below_drewN | apply below_drew1 | refine below_set ?_ GE233.out) | exact HB.out))) : w.heap.size ≤ gb244)); have n5_ := Aside0.mk ((by rw [hg]; exact Nat.ne_of_lt (blk_lt (g := gb233) (o := .cells #[.int .i64 a0_0, .int .u32 a0_1, .int .u32 a0_2, .int .i64 a0_3, .int .u8 a0_4, .int .i64 a0_5, .bool a0_6, .bool a0_7] 24 (0, 0)) (by (with_reducible repeat (first | refine blk_drewN ?_ _ | refine blk_drew ?_ | refine blk_alloc ?_ _)); exact BK233.out)) : gb233 ≠ gb244)); have n6_ := Aside0.mk ((by rw [hg]; exact Nat.ne_of_gt (blk_lt (g := gb233) (o := .cells #[.int .i64 a0_0, .int .u32 a0_1, .int .u32 a0_2, .int .i64 a0_3, .int .u8 a0_4, .int .i64 a0_5, .bool a0_6, .bool a0_7] 24 (0, 0)) (by (with_reducible repeat (first | refine blk_drewN ?_ _ | refine blk_drew ?_ | refine blk_alloc ?_ _)); exact BK233.out)) : gb244 ≠ gb233)); clear BK233; clear HB; have BK233 := n0_; have HB := n1_; have BK244 := n2_; have GW244 := n3_; have GE244 := n4_; have NB233_244 := n5_; have NB244_233 := n6_; clear n0_ n1_ n2_ n3_ n4_ n5_ n6_; clear hb hbox hg; have hnb12 := NB244_233.out; have hnc12 := NB233_244.out; obtain ⟨hcz13_0, hcz13_1, hcz13_2, hcz13_3, hcz13_4, hcz13_5, hcz13_6, hcz13_7, hfz13_0, hfz13_1, hfz13_2, hfz13_3, hfz13_4, hfz13_5, hfz13_6, hfz13_7⟩ := blkc8 BK244.out))
  (try simp only [Act.put, List.setIfInBounds_toArray, List.set_cons_zero, List.set_cons_succ])
  go_cut [28] (fun v28 wc => ∃ (kq : Nat) (x28_5 : Bool), v28 = .bool x28_5 ∧ Aside0 (catamaranlaw19_StateNext.j0 kq a1 a2 t234 x28_5 a0_0 a0_1 a0_2 a0_3 a0_4 a0_5 a0_6 a0_7 t235 t236 t237 t238 t239 t240 t241 t242 = some r) ∧ Aside0 (kq ≤ k) ∧ Aside0 (wc.heap[gb233]? = some (.cells #[.int .i64 a0_0, .int .u32 a0_1, .int .u32 a0_2, .int .i64 a0_3, .int .u8 a0_4, .int .i64 a0_5, .bool a0_6, .bool a0_7] 24 (0, 0))) ∧ Aside0 (wc.heap[gb244]? = some (.cells #[.int .i64 t235, .int .u32 t236, .int .u32 t237, .int .i64 t238, .int .u8 t239, .int .i64 t240, .bool t241, .bool t242] 24 (0, 0))) ∧ Aside0 (Below w.heap.size w wc))
  case first =>
    have H := HC6.out
    clear HC6
    by_cases c14 : t243 = 0
    · rw [if_pos c14] at H
      have c14b0 : (t243 == 0) = true := beq_iff_eq.mpr c14
      have c14b1 : (t243 != 0) = false := bne_eq_false_iff_eq.mpr c14
      clear c14
      (first | rw [c14b0] | (simp only [i64_w, i32_w]; rw [c14b0]) | skip)
      have H' := Aside0.mk H
      clear H
      go_wp2
      (first | go_meet | (refine Go.Met.intro ?_; go_step; (repeat apply Exists.intro); refine ⟨?rel, ?eqf⟩; case eqf => ((try rw [c14b0]); (first | done | rfl))))
      case rel => exact ⟨_, (!t234), (by first | rfl | (simp; done) | (simp [*]; done)), H', ⟨by first | omega | exact Nat.le_refl _⟩, ⟨by (iterate 8 ((with_reducible repeat (first | refine blk_drewN ?_ _ | refine blk_drew ?_ | refine blk_alloc ?_ _)); refine blk_far ?_ NB233_244.out _)); (with_reducible repeat (first | refine blk_drewN ?_ _ | refine blk_drew ?_ | refine blk_alloc ?_ _)); exact BK233.out⟩, ⟨by (with_reducible repeat (first | refine blk_drewN ?_ _ | refine blk_drew ?_ | refine blk_alloc ?_ _)); refine blk_put (cs := #[.int .i64 t235, .int .u32 t236, .int .u32 t237, .int .i64 t238, .int .u8 t239, .int .i64 t240, .bool t241, .bool false]) ?_ 7 _ rfl; (with_reducible repeat (first | refine blk_drewN ?_ _ | refine blk_drew ?_ | refine blk_alloc ?_ _)); refine blk_put (cs := #[.int .i64 t235, .int .u32 t236, .int .u32 t237, .int .i64 t238, .int .u8 t239, .int .i64 t240, .bool false, .bool false]) ?_ 6 _ rfl; (with_reducible repeat (first | refine blk_drewN ?_ _ | refine blk_drew ?_ | refine blk_alloc ?_ _)); refine blk_put (cs := #[.int .i64 t235, .int .u32 t236, .int .u32 t237, .int .i64 t238, .int .u8 t239, .int .i64 0, .bool false, .bool false]) ?_ 5 _ rfl; (with_reducible repeat (first | refine blk_drewN ?_ _ | refine blk_drew ?_ | refine blk_alloc ?_ _)); refine blk_put (cs := #[.int .i64 t235, .int .u32 t236, .int .u32 t237, .int .i64 t238, .int .u8 0, .int .i64 0, .bool false, .bool false]) ?_ 4 _ rfl; (with_reducible repeat (first | refine blk_drewN ?_ _ | refine blk_drew ?_ | refine blk_alloc ?_ _)); refine blk_put (cs := #[.int .i64 t235, .int .u32 t236, .int .u32 t237, .int .i64 0, .int .u8 0, .int .i64 0, .bool false, .bool false]) ?_ 3 _ rfl; (with_reducible repeat (first | refine blk_drewN ?_ _ | refine blk_drew ?_ | refine blk_alloc ?_ _)); refine blk_put (cs := #[.int .i64 t235, .int .u32 t236, .int .u32 0, .int .i64 0, .int .u8 0, .int .i64 0, .bool false, .bool false]) ?_ 2 _ rfl; (with_reducible repeat (first | refine blk_drewN ?_ _ | refine blk_drew ?_ | refine blk_alloc ?_ _)); refine blk_put (cs := #[.int .i64 t235, .int .u32 0, .int .u32 0, .int .i64 0, .int .u8 0, .int .i64 0, .bool false, .bool false]) ?_ 1 _ rfl; (with_reducible repeat (first | refine blk_drewN ?_ _ | refine blk_drew ?_ | refine blk_alloc ?_ _)); refine blk_put (cs := #[.int .i64 0, .int .u32 0, .int .u32 0, .int .i64 0, .int .u8 0, .int .i64 0, .bool false, .bool false]) ?_ 0 _ rfl; (with_reducible repeat (first | refine blk_drewN ?_ _ | refine blk_drew ?_ | refine blk_alloc ?_ _)); exact BK244.out⟩, ⟨by repeat (first | (with_reducible first | exact HB.out | apply below_alloc | apply pw_below_drewN | apply below_drew1 | refine below_set ?_ GE233.out | refine below_set ?_ GE244.out) | exact HB.out)⟩⟩
    · rw [if_neg c14] at H
      have c14b0 : (t243 == 0) = false := beq_eq_false_iff_ne.mpr c14
      have c14b1 : (t243 != 0) = true := bne_iff_ne.mpr c14
      (first | rw [c14b0] | (simp only [i64_w, i32_w]; rw [c14b0]) | skip)
      have H' := Aside0.mk H
      clear H
      go_wp2
      (first | go_meet | (refine Go.Met.intro ?_; go_step; (repeat apply Exists.intro); refine ⟨?rel, ?eqf⟩; case eqf => ((try rw [c14b0]); (first | done | rfl))))
      case rel => exact ⟨_, (true), (by first | rfl | (simp; done) | (simp [*]; done)), H', ⟨by first | omega | exact Nat.le_refl _⟩, ⟨by (iterate 8 ((with_reducible repeat (first | refine blk_drewN ?_ _ | refine blk_drew ?_ | refine blk_alloc ?_ _)); refine blk_far ?_ NB233_244.out _)); (with_reducible repeat (first | refine blk_drewN ?_ _ | refine blk_drew ?_ | refine blk_alloc ?_ _)); exact BK233.out⟩, ⟨by (with_reducible repeat (first | refine blk_drewN ?_ _ | refine blk_drew ?_ | refine blk_alloc ?_ _)); refine blk_put (cs := #[.int .i64 t235, .int .u32 t236, .int .u32 t237, .int .i64 t238, .int .u8 t239, .int .i64 t240, .bool t241, .bool false]) ?_ 7 _ rfl; (with_reducible repeat (first | refine blk_drewN ?_ _ | refine blk_drew ?_ | refine blk_alloc ?_ _)); refine blk_put (cs := #[.int .i64 t235, .int .u32 t236, .int .u32 t237, .int .i64 t238, .int .u8 t239, .int .i64 t240, .bool false, .bool false]) ?_ 6 _ rfl; (with_reducible repeat (first | refine blk_drewN ?_ _ | refine blk_drew ?_ | refine blk_alloc ?_ _)); refine blk_put (cs := #[.int .i64 t235, .int .u32 t236, .int .u32 t237, .int .i64 t238, .int .u8 t239, .int .i64 0, .bool false, .bool false]) ?_ 5 _ rfl; (with_reducible repeat (first | refine blk_drewN ?_ _ | refine blk_drew ?_ | refine blk_alloc ?_ _)); refine blk_put (cs := #[.int .i64 t235, .int .u32 t236, .int .u32 t237, .int .i64 t238, .int .u8 0, .int .i64 0, .bool false, .bool false]) ?_ 4 _ rfl; (with_reducible repeat (first | refine blk_drewN ?_ _ | refine blk_drew ?_ | refine blk_alloc ?_ _)); refine blk_put (cs := #[.int .i64 t235, .int .u32 t236, .int .u32 t237, .int .i64 0, .int .u8 0, .int .i64 0, .bool false, .bool false]) ?_ 3 _ rfl; (with_reducible repeat (first | refine blk_drewN ?_ _ | refine blk_drew ?_ | refine blk_alloc ?_ _)); refine blk_put (cs := #[.int .i64 t235, .int .u32 t236, .int .u32 0, .int .i64 0, .int .u8 0, .int .i64 0, .bool false, .bool false]) ?_ 2 _ rfl; (with_reducible repeat (first | refine blk_drewN ?_ _ | refine blk_drew ?_ | refine blk_alloc ?_ _)); refine blk_put (cs := #[.int .i64 t235, .int .u32 0, .int .u32 0, .int .i64 0, .int .u8 0, .int .i64 0, .bool false, .bool false]) ?_ 1 _ rfl; (with_reducible repeat (first | refine blk_drewN ?_ _ | refine blk_drew ?_ | refine blk_alloc ?_ _)); refine blk_put (cs := #[.int .i64 0, .int .u32 0, .int .u32 0, .int .i64 0, .int .u8 0, .int .i64 0, .bool false, .bool false]) ?_ 0 _ rfl; (with_reducible repeat (first | refine blk_drewN ?_ _ | refine blk_drew ?_ | refine blk_alloc ?_ _)); exact BK244.out⟩, ⟨by repeat (first | (with_reducible first | exact HB.out | apply below_alloc | apply pw_below_drewN | apply below_drew1 | refine below_set ?_ GE233.out | refine below_set ?_ GE244.out) | exact HB.out)⟩⟩
  case rest =>
    clear HC6
    try clear c1
    try clear c2
    try clear p2
    try clear c3
    try clear c7
    try clear c8
    try clear c12
    try clear c14
    try clear c14b0
    try clear c14b1
    try clear hcz13_0 hcz13_1 hcz13_2 hcz13_3 hcz13_4 hcz13_5 hcz13_6 hcz13_7
    try clear hcz9_0 hcz9_1 hcz9_2 hcz9_3 hcz9_4 hcz9_5 hcz9_6 hcz9_7
    try clear hfz13_0 hfz13_1 hfz13_2 hfz13_3 hfz13_4 hfz13_5 hfz13_6 hfz13_7
    try clear hfz9_0 hfz9_1 hfz9_2 hfz9_3 hfz9_4 hfz9_5 hfz9_6 hfz9_7
    obtain ⟨kq, x28_5, rfl, HA, HJ5, BK233, BK244, HB⟩ := hcut
    cases kq with
    | zero => exact absurd HA.out (by simp [catamaranlaw19_StateNext.j0])
    | succ kj5 =>
      have H := HA.out
      clear HA
      simp only [catamaranlaw19_StateNext.j0] at H
      by_cases c15 : x28_5 = true
      · subst c15
        have H1 : (if t234 = true then (some (t235 == 0 && (t236 == 0 && (t237 == 0 && (t238 == 0 && (t239 == 0 && (t240 == 0 && (!t241 && (!t242))))))))) else (some false)) = some r := by rw [if_pos rfl] at H; exact H
        clear H
        have H := H1
        clear H1
        by_cases c16 : t234 = true
        · subst c16
          have H1 : (some (t235 == 0 && (t236 == 0 && (t237 == 0 && (t238 == 0 && (t239 == 0 && (t240 == 0 && (!t241 && (!t242))))))))) = some r := by rw [if_pos rfl] at H; exact H
          clear H
          have H := H1
          clear H1
          obtain rfl := Option.some.inj H
          have hnb17 := NB244_233.out
          have hnc17 := NB233_244.out
          obtain ⟨hcz18_0, hcz18_1, hcz18_2, hcz18_3, hcz18_4, hcz18_5, hcz18_6, hcz18_7, hfz18_0, hfz18_1, hfz18_2, hfz18_3, hfz18_4, hfz18_5, hfz18_6, hfz18_7⟩ := blkc8 BK244.out
          go_wp2
          go_ret
          exact ⟨by first | rfl | (simp [errW_none, errW_some] <;> rfl) | (simp [*, errW_none, errW_some] <;> rfl), by repeat (first | (with_reducible first | exact HB.out | apply below_alloc | apply pw_below_drewN | apply below_drew1 | refine below_set ?_ GE233.out | refine below_set ?_ GE244.out) | exact HB.out)⟩
        · replace c16 := Bool.eq_false_iff.mpr c16
          subst c16
          have H1 : (some false) = some r := by rw [if_neg (show ¬ (false = true) by decide)] at H; exact H
          clear H
          have H := H1
          clear H1
          exact absurd ((Option.some.inj H).trans hT_.out) (by decide)
      · replace c15 := Bool.eq_false_iff.mpr c15
        subst c15
        have H1 : ((state_Source.f kj5 t235 t236 t237 t238 t239 t240 t241 t242).bind fun bt245 => ((state_Writes.f kj5 t238 t235 t236 t237 t238 t239 t240 t241 t242).bind fun bt247 => ((state_Reads.f kj5 t238 t235 t236 t237 t238 t239 t240 t241 t242).bind fun bt249 => ((rec_Check.f kj5 t235 t236 t237 t238 t239 t240 t241 t242).bind fun t251 => (if t251 = 0 then (if bt245.2 = 0 then (if bt247.2 = 0 then (if bt249.2 = 0 then (if bt245.1 < (-1) then (catamaranlaw19_StateNext.j1 kj5 a1 a2 t234 true a0_0 a0_1 a0_2 a0_3 a0_4 a0_5 a0_6 a0_7 t235 t236 t237 t238 t239 t240 t241 t242) else (if bt245.1 > 1 then (catamaranlaw19_StateNext.j1 kj5 a1 a2 t234 true a0_0 a0_1 a0_2 a0_3 a0_4 a0_5 a0_6 a0_7 t235 t236 t237 t238 t239 t240 t241 t242) else (if bt245.1 = t238 then (if (bt247.1 != true) = true then (catamaranlaw19_StateNext.j1 kj5 a1 a2 t234 true a0_0 a0_1 a0_2 a0_3 a0_4 a0_5 a0_6 a0_7 t235 t236 t237 t238 t239 t240 t241 t242) else (if bt249.1 = 0 then (if t241 = true then (catamaranlaw19_StateNext.j1 kj5 a1 a2 t234 true a0_0 a0_1 a0_2 a0_3 a0_4 a0_5 a0_6 a0_7 t235 t236 t237 t238 t239 t240 t241 t242) else (if bt249.1 = 1 then (catamaranlaw19_StateNext.j1 kj5 a1 a2 t234 (!bt247.1) a0_0 a0_1 a0_2 a0_3 a0_4 a0_5 a0_6 a0_7 t235 t236 t237 t238 t239 t240 t241 t242) else (catamaranlaw19_StateNext.j1 kj5 a1 a2 t234 false a0_0 a0_1 a0_2 a0_3 a0_4 a0_5 a0_6 a0_7 t235 t236 t237 t238 t239 t240 t241 t242))) else (if bt249.1 = 1 then (catamaranlaw19_StateNext.j1 kj5 a1 a2 t234 (!bt247.1) a0_0 a0_1 a0_2 a0_3 a0_4 a0_5 a0_6 a0_7 t235 t236 t237 t238 t239 t240 t241 t242) else (catamaranlaw19_StateNext.j1 kj5 a1 a2 t234 false a0_0 a0_1 a0_2 a0_3 a0_4 a0_5 a0_6 a0_7 t235 t236 t237 t238 t239 t240 t241 t242)))) else (if (bt247.1 != (decide (bt245.1 < 0))) = true then (catamaranlaw19_StateNext.j1 kj5 a1 a2 t234 true a0_0 a0_1 a0_2 a0_3 a0_4 a0_5 a0_6 a0_7 t235 t236 t237 t238 t239 t240 t241 t242) else (if bt249.1 = 0 then (if t241 = true then (catamaranlaw19_StateNext.j1 kj5 a1 a2 t234 true a0_0 a0_1 a0_2 a0_3 a0_4 a0_5 a0_6 a0_7 t235 t236 t237 t238 t239 t240 t241 t242) else (if bt249.1 = 1 then (catamaranlaw19_StateNext.j1 kj5 a1 a2 t234 (!bt247.1) a0_0 a0_1 a0_2 a0_3 a0_4 a0_5 a0_6 a0_7 t235 t236 t237 t238 t239 t240 t241 t242) else (catamaranlaw19_StateNext.j1 kj5 a1 a2 t234 false a0_0 a0_1 a0_2 a0_3 a0_4 a0_5 a0_6 a0_7 t235 t236 t237 t238 t239 t240 t241 t242))) else (if bt249.1 = 1 then (catamaranlaw19_StateNext.j1 kj5 a1 a2 t234 (!bt247.1) a0_0 a0_1 a0_2 a0_3 a0_4 a0_5 a0_6 a0_7 t235 t236 t237 t238 t239 t240 t241 t242) else (catamaranlaw19_StateNext.j1 kj5 a1 a2 t234 false a0_0 a0_1 a0_2 a0_3 a0_4 a0_5 a0_6 a0_7 t235 t236 t237 t238 t239 t240 t241 t242))))))) else (catamaranlaw19_StateNext.j1 kj5 a1 a2 t234 true a0_0 a0_1 a0_2 a0_3 a0_4 a0_5 a0_6 a0_7 t235 t236 t237 t238 t239 t240 t241 t242)) else (catamaranlaw19_StateNext.j1 kj5 a1 a2 t234 true a0_0 a0_1 a0_2 a0_3 a0_4 a0_5 a0_6 a0_7 t235 t236 t237 t238 t239 t240 t241 t242)) else (catamaranlaw19_StateNext.j1 kj5 a1 a2 t234 true a0_0 a0_1 a0_2 a0_3 a0_4 a0_5 a0_6 a0_7 t235 t236 t237 t238 t239 t240 t241 t242)) else (catamaranlaw19_StateNext.j1 kj5 a1 a2 t234 true a0_0 a0_1 a0_2 a0_3 a0_4 a0_5 a0_6 a0_7 t235 t236 t237 t238 t239 t240 t241 t242)))))) = some r := by rw [if_neg (show ¬ (false = true) by decide)] at H; exact H
        clear H
        have H := H1
        clear H1
        replace H := Option.bind_eq_some_iff.mp H
        obtain ⟨⟨t245, t246⟩, A190, H⟩ := H
        replace H : ((state_Writes.f kj5 t238 t235 t236 t237 t238 t239 t240 t241 t242).bind fun bt247 => ((state_Reads.f kj5 t238 t235 t236 t237 t238 t239 t240 t241 t242).bind fun bt249 => ((rec_Check.f kj5 t235 t236 t237 t238 t239 t240 t241 t242).bind fun t251 => (if t251 = 0 then (if t246 = 0 then (if bt247.2 = 0 then (if bt249.2 = 0 then (if t245 < (-1) then (catamaranlaw19_StateNext.j1 kj5 a1 a2 t234 true a0_0 a0_1 a0_2 a0_3 a0_4 a0_5 a0_6 a0_7 t235 t236 t237 t238 t239 t240 t241 t242) else (if t245 > 1 then (catamaranlaw19_StateNext.j1 kj5 a1 a2 t234 true a0_0 a0_1 a0_2 a0_3 a0_4 a0_5 a0_6 a0_7 t235 t236 t237 t238 t239 t240 t241 t242) else (if t245 = t238 then (if (bt247.1 != true) = true then (catamaranlaw19_StateNext.j1 kj5 a1 a2 t234 true a0_0 a0_1 a0_2 a0_3 a0_4 a0_5 a0_6 a0_7 t235 t236 t237 t238 t239 t240 t241 t242) else (if bt249.1 = 0 then (if t241 = true then (catamaranlaw19_StateNext.j1 kj5 a1 a2 t234 true a0_0 a0_1 a0_2 a0_3 a0_4 a0_5 a0_6 a0_7 t235 t236 t237 t238 t239 t240 t241 t242) else (if bt249.1 = 1 then (catamaranlaw19_StateNext.j1 kj5 a1 a2 t234 (!bt247.1) a0_0 a0_1 a0_2 a0_3 a0_4 a0_5 a0_6 a0_7 t235 t236 t237 t238 t239 t240 t241 t242) else (catamaranlaw19_StateNext.j1 kj5 a1 a2 t234 false a0_0 a0_1 a0_2 a0_3 a0_4 a0_5 a0_6 a0_7 t235 t236 t237 t238 t239 t240 t241 t242))) else (if bt249.1 = 1 then (catamaranlaw19_StateNext.j1 kj5 a1 a2 t234 (!bt247.1) a0_0 a0_1 a0_2 a0_3 a0_4 a0_5 a0_6 a0_7 t235 t236 t237 t238 t239 t240 t241 t242) else (catamaranlaw19_StateNext.j1 kj5 a1 a2 t234 false a0_0 a0_1 a0_2 a0_3 a0_4 a0_5 a0_6 a0_7 t235 t236 t237 t238 t239 t240 t241 t242)))) else (if (bt247.1 != (decide (t245 < 0))) = true then (catamaranlaw19_StateNext.j1 kj5 a1 a2 t234 true a0_0 a0_1 a0_2 a0_3 a0_4 a0_5 a0_6 a0_7 t235 t236 t237 t238 t239 t240 t241 t242) else (if bt249.1 = 0 then (if t241 = true then (catamaranlaw19_StateNext.j1 kj5 a1 a2 t234 true a0_0 a0_1 a0_2 a0_3 a0_4 a0_5 a0_6 a0_7 t235 t236 t237 t238 t239 t240 t241 t242) else (if bt249.1 = 1 then (catamaranlaw19_StateNext.j1 kj5 a1 a2 t234 (!bt247.1) a0_0 a0_1 a0_2 a0_3 a0_4 a0_5 a0_6 a0_7 t235 t236 t237 t238 t239 t240 t241 t242) else (catamaranlaw19_StateNext.j1 kj5 a1 a2 t234 false a0_0 a0_1 a0_2 a0_3 a0_4 a0_5 a0_6 a0_7 t235 t236 t237 t238 t239 t240 t241 t242))) else (if bt249.1 = 1 then (catamaranlaw19_StateNext.j1 kj5 a1 a2 t234 (!bt247.1) a0_0 a0_1 a0_2 a0_3 a0_4 a0_5 a0_6 a0_7 t235 t236 t237 t238 t239 t240 t241 t242) else (catamaranlaw19_StateNext.j1 kj5 a1 a2 t234 false a0_0 a0_1 a0_2 a0_3 a0_4 a0_5 a0_6 a0_7 t235 t236 t237 t238 t239 t240 t241 t242))))))) else (catamaranlaw19_StateNext.j1 kj5 a1 a2 t234 true a0_0 a0_1 a0_2 a0_3 a0_4 a0_5 a0_6 a0_7 t235 t236 t237 t238 t239 t240 t241 t242)) else (catamaranlaw19_StateNext.j1 kj5 a1 a2 t234 true a0_0 a0_1 a0_2 a0_3 a0_4 a0_5 a0_6 a0_7 t235 t236 t237 t238 t239 t240 t241 t242)) else (catamaranlaw19_StateNext.j1 kj5 a1 a2 t234 true a0_0 a0_1 a0_2 a0_3 a0_4 a0_5 a0_6 a0_7 t235 t236 t237 t238 t239 t240 t241 t242)) else (catamaranlaw19_StateNext.j1 kj5 a1 a2 t234 true a0_0 a0_1 a0_2 a0_3 a0_4 a0_5 a0_6 a0_7 t235 t236 t237 t238 t239 t240 t241 t242))))) = some r := H
        have A19 := Aside0.mk A190
        clear A190
        replace H := Option.bind_eq_some_iff.mp H
        obtain ⟨⟨t247, t248⟩, A200, H⟩ := H
        replace H : ((state_Reads.f kj5 t238 t235 t236 t237 t238 t239 t240 t241 t242).bind fun bt249 => ((rec_Check.f kj5 t235 t236 t237 t238 t239 t240 t241 t242).bind fun t251 => (if t251 = 0 then (if t246 = 0 then (if t248 = 0 then (if bt249.2 = 0 then (if t245 < (-1) then (catamaranlaw19_StateNext.j1 kj5 a1 a2 t234 true a0_0 a0_1 a0_2 a0_3 a0_4 a0_5 a0_6 a0_7 t235 t236 t237 t238 t239 t240 t241 t242) else (if t245 > 1 then (catamaranlaw19_StateNext.j1 kj5 a1 a2 t234 true a0_0 a0_1 a0_2 a0_3 a0_4 a0_5 a0_6 a0_7 t235 t236 t237 t238 t239 t240 t241 t242) else (if t245 = t238 then (if (t247 != true) = true then (catamaranlaw19_StateNext.j1 kj5 a1 a2 t234 true a0_0 a0_1 a0_2 a0_3 a0_4 a0_5 a0_6 a0_7 t235 t236 t237 t238 t239 t240 t241 t242) else (if bt249.1 = 0 then (if t241 = true then (catamaranlaw19_StateNext.j1 kj5 a1 a2 t234 true a0_0 a0_1 a0_2 a0_3 a0_4 a0_5 a0_6 a0_7 t235 t236 t237 t238 t239 t240 t241 t242) else (if bt249.1 = 1 then (catamaranlaw19_StateNext.j1 kj5 a1 a2 t234 (!t247) a0_0 a0_1 a0_2 a0_3 a0_4 a0_5 a0_6 a0_7 t235 t236 t237 t238 t239 t240 t241 t242) else (catamaranlaw19_StateNext.j1 kj5 a1 a2 t234 false a0_0 a0_1 a0_2 a0_3 a0_4 a0_5 a0_6 a0_7 t235 t236 t237 t238 t239 t240 t241 t242))) else (if bt249.1 = 1 then (catamaranlaw19_StateNext.j1 kj5 a1 a2 t234 (!t247) a0_0 a0_1 a0_2 a0_3 a0_4 a0_5 a0_6 a0_7 t235 t236 t237 t238 t239 t240 t241 t242) else (catamaranlaw19_StateNext.j1 kj5 a1 a2 t234 false a0_0 a0_1 a0_2 a0_3 a0_4 a0_5 a0_6 a0_7 t235 t236 t237 t238 t239 t240 t241 t242)))) else (if (t247 != (decide (t245 < 0))) = true then (catamaranlaw19_StateNext.j1 kj5 a1 a2 t234 true a0_0 a0_1 a0_2 a0_3 a0_4 a0_5 a0_6 a0_7 t235 t236 t237 t238 t239 t240 t241 t242) else (if bt249.1 = 0 then (if t241 = true then (catamaranlaw19_StateNext.j1 kj5 a1 a2 t234 true a0_0 a0_1 a0_2 a0_3 a0_4 a0_5 a0_6 a0_7 t235 t236 t237 t238 t239 t240 t241 t242) else (if bt249.1 = 1 then (catamaranlaw19_StateNext.j1 kj5 a1 a2 t234 (!t247) a0_0 a0_1 a0_2 a0_3 a0_4 a0_5 a0_6 a0_7 t235 t236 t237 t238 t239 t240 t241 t242) else (catamaranlaw19_StateNext.j1 kj5 a1 a2 t234 false a0_0 a0_1 a0_2 a0_3 a0_4 a0_5 a0_6 a0_7 t235 t236 t237 t238 t239 t240 t241 t242))) else (if bt249.1 = 1 then (catamaranlaw19_StateNext.j1 kj5 a1 a2 t234 (!t247) a0_0 a0_1 a0_2 a0_3 a0_4 a0_5 a0_6 a0_7 t235 t236 t237 t238 t239 t240 t241 t242) else (catamaranlaw19_StateNext.j1 kj5 a1 a2 t234 false a0_0 a0_1 a0_2 a0_3 a0_4 a0_5 a0_6 a0_7 t235 t236 t237 t238 t239 t240 t241 t242))))))) else (catamaranlaw19_StateNext.j1 kj5 a1 a2 t234 true a0_0 a0_1 a0_2 a0_3 a0_4 a0_5 a0_6 a0_7 t235 t236 t237 t238 t239 t240 t241 t242)) else (catamaranlaw19_StateNext.j1 kj5 a1 a2 t234 true a0_0 a0_1 a0_2 a0_3 a0_4 a0_5 a0_6 a0_7 t235 t236 t237 t238 t239 t240 t241 t242)) else (catamaranlaw19_StateNext.j1 kj5 a1 a2 t234 true a0_0 a0_1 a0_2 a0_3 a0_4 a0_5 a0_6 a0_7 t235 t236 t237 t238 t239 t240 t241 t242)) else (catamaranlaw19_StateNext.j1 kj5 a1 a2 t234 true a0_0 a0_1 a0_2 a0_3 a0_4 a0_5 a0_6 a0_7 t235 t236 t237 t238 t239 t240 t241 t242)))) = some r := H
        have A20 := Aside0.mk A200
        clear A200
        replace H := Option.bind_eq_some_iff.mp H
        obtain ⟨⟨t249, t250⟩, A210, H⟩ := H
        replace H : ((rec_Check.f kj5 t235 t236 t237 t238 t239 t240 t241 t242).bind fun t251 => (if t251 = 0 then (if t246 = 0 then (if t248 = 0 then (if t250 = 0 then (if t245 < (-1) then (catamaranlaw19_StateNext.j1 kj5 a1 a2 t234 true a0_0 a0_1 a0_2 a0_3 a0_4 a0_5 a0_6 a0_7 t235 t236 t237 t238 t239 t240 t241 t242) else (if t245 > 1 then (catamaranlaw19_StateNext.j1 kj5 a1 a2 t234 true a0_0 a0_1 a0_2 a0_3 a0_4 a0_5 a0_6 a0_7 t235 t236 t237 t238 t239 t240 t241 t242) else (if t245 = t238 then (if (t247 != true) = true then (catamaranlaw19_StateNext.j1 kj5 a1 a2 t234 true a0_0 a0_1 a0_2 a0_3 a0_4 a0_5 a0_6 a0_7 t235 t236 t237 t238 t239 t240 t241 t242) else (if t249 = 0 then (if t241 = true then (catamaranlaw19_StateNext.j1 kj5 a1 a2 t234 true a0_0 a0_1 a0_2 a0_3 a0_4 a0_5 a0_6 a0_7 t235 t236 t237 t238 t239 t240 t241 t242) else (if t249 = 1 then (catamaranlaw19_StateNext.j1 kj5 a1 a2 t234 (!t247) a0_0 a0_1 a0_2 a0_3 a0_4 a0_5 a0_6 a0_7 t235 t236 t237 t238 t239 t240 t241 t242) else (catamaranlaw19_StateNext.j1 kj5 a1 a2 t234 false a0_0 a0_1 a0_2 a0_3 a0_4 a0_5 a0_6 a0_7 t235 t236 t237 t238 t239 t240 t241 t242))) else (if t249 = 1 then (catamaranlaw19_StateNext.j1 kj5 a1 a2 t234 (!t247) a0_0 a0_1 a0_2 a0_3 a0_4 a0_5 a0_6 a0_7 t235 t236 t237 t238 t239 t240 t241 t242) else (catamaranlaw19_StateNext.j1 kj5 a1 a2 t234 false a0_0 a0_1 a0_2 a0_3 a0_4 a0_5 a0_6 a0_7 t235 t236 t237 t238 t239 t240 t241 t242)))) else (if (t247 != (decide (t245 < 0))) = true then (catamaranlaw19_StateNext.j1 kj5 a1 a2 t234 true a0_0 a0_1 a0_2 a0_3 a0_4 a0_5 a0_6 a0_7 t235 t236 t237 t238 t239 t240 t241 t242) else (if t249 = 0 then (if t241 = true then (catamaranlaw19_StateNext.j1 kj5 a1 a2 t234 true a0_0 a0_1 a0_2 a0_3 a0_4 a0_5 a0_6 a0_7 t235 t236 t237 t238 t239 t240 t241 t242) else (if t249 = 1 then (catamaranlaw19_StateNext.j1 kj5 a1 a2 t234 (!t247) a0_0 a0_1 a0_2 a0_3 a0_4 a0_5 a0_6 a0_7 t235 t236 t237 t238 t239 t240 t241 t242) else (catamaranlaw19_StateNext.j1 kj5 a1 a2 t234 false a0_0 a0_1 a0_2 a0_3 a0_4 a0_5 a0_6 a0_7 t235 t236 t237 t238 t239 t240 t241 t242))) else (if t249 = 1 then (catamaranlaw19_StateNext.j1 kj5 a1 a2 t234 (!t247) a0_0 a0_1 a0_2 a0_3 a0_4 a0_5 a0_6 a0_7 t235 t236 t237 t238 t239 t240 t241 t242) else (catamaranlaw19_StateNext.j1 kj5 a1 a2 t234 false a0_0 a0_1 a0_2 a0_3 a0_4 a0_5 a0_6 a0_7 t235 t236 t237 t238 t239 t240 t241 t242))))))) else (catamaranlaw19_StateNext.j1 kj5 a1 a2 t234 true a0_0 a0_1 a0_2 a0_3 a0_4 a0_5 a0_6 a0_7 t235 t236 t237 t238 t239 t240 t241 t242)) else (catamaranlaw19_StateNext.j1 kj5 a1 a2 t234 true a0_0 a0_1 a0_2 a0_3 a0_4 a0_5 a0_6 a0_7 t235 t236 t237 t238 t239 t240 t241 t242)) else (catamaranlaw19_StateNext.j1 kj5 a1 a2 t234 true a0_0 a0_1 a0_2 a0_3 a0_4 a0_5 a0_6 a0_7 t235 t236 t237 t238 t239 t240 t241 t242)) else (catamaranlaw19_StateNext.j1 kj5 a1 a2 t234 true a0_0 a0_1 a0_2 a0_3 a0_4 a0_5 a0_6 a0_7 t235 t236 t237 t238 t239 t240 t241 t242))) = some r := H
        have A21 := Aside0.mk A210
        clear A210
        have HC22 := Aside0.mk H
        clear H
        have hnb23 := NB244_233.out
        have hnc23 := NB233_244.out
        obtain ⟨hcz24_0, hcz24_1, hcz24_2, hcz24_3, hcz24_4, hcz24_5, hcz24_6, hcz24_7, hfz24_0, hfz24_1, hfz24_2, hfz24_3, hfz24_4, hfz24_5, hfz24_6, hfz24_7⟩ := blkc8 BK244.out
        go_upto_region 8 with (first | ((with_reducible refine gate_callee (f := 26) rfl ?_); refine goesL_ (some 37) rfl rfl Try.func26 (by kernel_rfl) rfl #[.agg #[.int .i64 t235, .int .u32 t236, .int .u32 t237, .int .i64 t238, .int .u8 t239, .int .i64 t240, .bool t241, .bool t242]] rfl (by (try simp only [List.map_toArray, List.map_cons, List.map_nil]); first | done | rfl | (simp only [List.length_drop, List.length_take]; rfl)) ?_; (with_reducible refine (state_Source.calls kj5 t235 t236 t237 t238 t239 t240 t241 t242 t245 t246 _ A19.out).mono ?_); rintro e w25 ⟨rfl, hb⟩; refine ⟨_, rfl, ?_⟩; have n0_ := Aside0.mk (blk_below (g := gb233) (o := .cells #[.int .i64 a0_0, .int .u32 a0_1, .int .u32 a0_2, .int .i64 a0_3, .int .u8 a0_4, .int .i64 a0_5, .bool a0_6, .bool a0_7] 24 (0, 0)) (by (with_reducible repeat (first | refine blk_drewN ?_ _ | refine blk_drew ?_ | refine blk_alloc ?_ _)); exact BK233.out) hb); have n1_ := Aside0.mk (blk_below (g := gb244) (o := .cells #[.int .i64 t235, .int .u32 t236, .int .u32 t237, .int .i64 t238, .int .u8 t239, .int .i64 t240, .bool t241, .bool t242] 24 (0, 0)) (by (with_reducible repeat (first | refine blk_drewN ?_ _ | refine blk_drew ?_ | refine blk_alloc ?_ _)); exact BK244.out) hb); have n2_ := Aside0.mk (below_step (by repeat (first | (with_reducible first | exact HB.out | apply below_alloc | apply pw_below_drewN | apply below_drew1 | refine below_set ?_ GE233.out | refine below_set ?_ GE244.out) | exact HB.out)) hb); clear BK233; clear BK244; clear HB; have BK233 := n0_; have BK244 := n1_; have HB := n2_; clear n0_ n1_ n2_; (try clear hb); (try clear hb2); (try clear hk); (try clear hi); obtain ⟨hcz26_0, hcz26_1, hcz26_2, hcz26_3, hcz26_4, hcz26_5, hcz26_6, hcz26_7, hfz26_0, hfz26_1, hfz26_2, hfz26_3, hfz26_4, hfz26_5, hfz26_6, hfz26_7⟩ := blkc8 BK244.out) | ((with_reducible refine gate_callee (f := 28) rfl ?_); refine goesL_ (some 44) rfl rfl Try.func28 (by kernel_rfl) rfl #[.int .i64 t238, .agg #[.int .i64 t235, .int .u32 t236, .int .u32 t237, .int .i64 t238, .int .u8 t239, .int .i64 t240, .bool t241, .bool t242]] rfl (by (try simp only [List.map_toArray, List.map_cons, List.map_nil]); first | done | rfl | (simp only [List.length_drop, List.length_take]; rfl)) ?_; (with_reducible refine (state_Writes.calls kj5 t238 t235 t236 t237 t238 t239 t240 t241 t242 t247 t248 _ A20.out).mono ?_); rintro e w27 ⟨rfl, hb⟩; refine ⟨_, rfl, ?_⟩; have n0_ := Aside0.mk (blk_below (g := gb233) (o := .cells #[.int .i64 a0_0, .int .u32 a0_1, .int .u32 a0_2, .int .i64 a0_3, .int .u8 a0_4, .int .i64 a0_5, .bool a0_6, .bool a0_7] 24 (0, 0)) (by (with_reducible repeat (first | refine blk_drewN ?_ _ | refine blk_drew ?_ | refine blk_alloc ?_ _)); exact BK233.out) hb); have n1_ := Aside0.mk (blk_below (g := gb244) (o := .cells #[.int .i64 t235, .int .u32 t236, .int .u32 t237, .int .i64 t238, .int .u8 t239, .int .i64 t240, .bool t241, .bool t242] 24 (0, 0)) (by (with_reducible repeat (first | refine blk_drewN ?_ _ | refine blk_drew ?_ | refine blk_alloc ?_ _)); exact BK244.out) hb); have n2_ := Aside0.mk (below_step (by repeat (first | (with_reducible first | exact HB.out | apply below_alloc | apply pw_below_drewN | apply below_drew1 | refine below_set ?_ GE233.out | refine below_set ?_ GE244.out) | exact HB.out)) hb); clear BK233; clear BK244; clear HB; have BK233 := n0_; have BK244 := n1_; have HB := n2_; clear n0_ n1_ n2_; (try clear hb); (try clear hb2); (try clear hk); (try clear hi); obtain ⟨hcz28_0, hcz28_1, hcz28_2, hcz28_3, hcz28_4, hcz28_5, hcz28_6, hcz28_7, hfz28_0, hfz28_1, hfz28_2, hfz28_3, hfz28_4, hfz28_5, hfz28_6, hfz28_7⟩ := blkc8 BK244.out) | ((with_reducible refine gate_callee (f := 30) rfl ?_); refine goesL_ (some 51) rfl rfl Try.func30 (by kernel_rfl) rfl #[.int .i64 t238, .agg #[.int .i64 t235, .int .u32 t236, .int .u32 t237, .int .i64 t238, .int .u8 t239, .int .i64 t240, .bool t241, .bool t242]] rfl (by (try simp only [List.map_toArray, List.map_cons, List.map_nil]); first | done | rfl | (simp only [List.length_drop, List.length_take]; rfl)) ?_; (with_reducible refine (state_Reads.calls kj5 t238 t235 t236 t237 t238 t239 t240 t241 t242 t249 t250 _ A21.out).mono ?_); rintro e w29 ⟨rfl, hb⟩; refine ⟨_, rfl, ?_⟩; have n0_ := Aside0.mk (blk_below (g := gb233) (o := .cells #[.int .i64 a0_0, .int .u32 a0_1, .int .u32 a0_2, .int .i64 a0_3, .int .u8 a0_4, .int .i64 a0_5, .bool a0_6, .bool a0_7] 24 (0, 0)) (by (with_reducible repeat (first | refine blk_drewN ?_ _ | refine blk_drew ?_ | refine blk_alloc ?_ _)); exact BK233.out) hb); have n1_ := Aside0.mk (blk_below (g := gb244) (o := .cells #[.int .i64 t235, .int .u32 t236, .int .u32 t237, .int .i64 t238, .int .u8 t239, .int .i64 t240, .bool t241, .bool t242] 24 (0, 0)) (by (with_reducible repeat (first | refine blk_drewN ?_ _ | refine blk_drew ?_ | refine blk_alloc ?_ _)); exact BK244.out) hb); have n2_ := Aside0.mk (below_step (by repeat (first | (with_reducible first | exact HB.out | apply below_alloc | apply pw_below_drewN | apply below_drew1 | refine below_set ?_ GE233.out | refine below_set ?_ GE244.out) | exact HB.out)) hb); clear BK233; clear BK244; clear HB; have BK233 := n0_; have BK244 := n1_; have HB := n2_; clear n0_ n1_ n2_; (try clear hb); (try clear hb2); (try clear hk); (try clear hi)))
        (try simp only [Act.put, List.setIfInBounds_toArray, List.set_cons_zero, List.set_cons_succ])
        go_cut [104] (fun v104 wc => ∃ (kq : Nat) (x104_21 : Bool), v104 = .bool x104_21 ∧ Aside0 (catamaranlaw19_StateNext.j1 kq a1 a2 t234 x104_21 a0_0 a0_1 a0_2 a0_3 a0_4 a0_5 a0_6 a0_7 t235 t236 t237 t238 t239 t240 t241 t242 = some r) ∧ Aside0 (kq ≤ kj5) ∧ Aside0 (wc.heap[gb233]? = some (.cells #[.int .i64 a0_0, .int .u32 a0_1, .int .u32 a0_2, .int .i64 a0_3, .int .u8 a0_4, .int .i64 a0_5, .bool a0_6, .bool a0_7] 24 (0, 0))) ∧ Aside0 (wc.heap[gb244]? = some (.cells #[.int .i64 t235, .int .u32 t236, .int .u32 t237, .int .i64 t238, .int .u8 t239, .int .i64 t240, .bool t241, .bool t242] 24 (0, 0))) ∧ Aside0 (Below w.heap.size w wc))
        case first =>
          have H := HC22.out
          clear HC22
          replace H := Option.bind_eq_some_iff.mp H
          obtain ⟨t251, A300, H⟩ := H
          replace H : (if t251 = 0 then (if t246 = 0 then (if t248 = 0 then (if t250 = 0 then (if t245 < (-1) then (catamaranlaw19_StateNext.j1 kj5 a1 a2 t234 true a0_0 a0_1 a0_2 a0_3 a0_4 a0_5 a0_6 a0_7 t235 t236 t237 t238 t239 t240 t241 t242) else (if t245 > 1 then (catamaranlaw19_StateNext.j1 kj5 a1 a2 t234 true a0_0 a0_1 a0_2 a0_3 a0_4 a0_5 a0_6 a0_7 t235 t236 t237 t238 t239 t240 t241 t242) else (if t245 = t238 then (if (t247 != true) = true then (catamaranlaw19_StateNext.j1 kj5 a1 a2 t234 true a0_0 a0_1 a0_2 a0_3 a0_4 a0_5 a0_6 a0_7 t235 t236 t237 t238 t239 t240 t241 t242) else (if t249 = 0 then (if t241 = true then (catamaranlaw19_StateNext.j1 kj5 a1 a2 t234 true a0_0 a0_1 a0_2 a0_3 a0_4 a0_5 a0_6 a0_7 t235 t236 t237 t238 t239 t240 t241 t242) else (if t249 = 1 then (catamaranlaw19_StateNext.j1 kj5 a1 a2 t234 (!t247) a0_0 a0_1 a0_2 a0_3 a0_4 a0_5 a0_6 a0_7 t235 t236 t237 t238 t239 t240 t241 t242) else (catamaranlaw19_StateNext.j1 kj5 a1 a2 t234 false a0_0 a0_1 a0_2 a0_3 a0_4 a0_5 a0_6 a0_7 t235 t236 t237 t238 t239 t240 t241 t242))) else (if t249 = 1 then (catamaranlaw19_StateNext.j1 kj5 a1 a2 t234 (!t247) a0_0 a0_1 a0_2 a0_3 a0_4 a0_5 a0_6 a0_7 t235 t236 t237 t238 t239 t240 t241 t242) else (catamaranlaw19_StateNext.j1 kj5 a1 a2 t234 false a0_0 a0_1 a0_2 a0_3 a0_4 a0_5 a0_6 a0_7 t235 t236 t237 t238 t239 t240 t241 t242)))) else (if (t247 != (decide (t245 < 0))) = true then (catamaranlaw19_StateNext.j1 kj5 a1 a2 t234 true a0_0 a0_1 a0_2 a0_3 a0_4 a0_5 a0_6 a0_7 t235 t236 t237 t238 t239 t240 t241 t242) else (if t249 = 0 then (if t241 = true then (catamaranlaw19_StateNext.j1 kj5 a1 a2 t234 true a0_0 a0_1 a0_2 a0_3 a0_4 a0_5 a0_6 a0_7 t235 t236 t237 t238 t239 t240 t241 t242) else (if t249 = 1 then (catamaranlaw19_StateNext.j1 kj5 a1 a2 t234 (!t247) a0_0 a0_1 a0_2 a0_3 a0_4 a0_5 a0_6 a0_7 t235 t236 t237 t238 t239 t240 t241 t242) else (catamaranlaw19_StateNext.j1 kj5 a1 a2 t234 false a0_0 a0_1 a0_2 a0_3 a0_4 a0_5 a0_6 a0_7 t235 t236 t237 t238 t239 t240 t241 t242))) else (if t249 = 1 then (catamaranlaw19_StateNext.j1 kj5 a1 a2 t234 (!t247) a0_0 a0_1 a0_2 a0_3 a0_4 a0_5 a0_6 a0_7 t235 t236 t237 t238 t239 t240 t241 t242) else (catamaranlaw19_StateNext.j1 kj5 a1 a2 t234 false a0_0 a0_1 a0_2 a0_3 a0_4 a0_5 a0_6 a0_7 t235 t236 t237 t238 t239 t240 t241 t242))))))) else (catamaranlaw19_StateNext.j1 kj5 a1 a2 t234 true a0_0 a0_1 a0_2 a0_3 a0_4 a0_5 a0_6 a0_7 t235 t236 t237 t238 t239 t240 t241 t242)) else (catamaranlaw19_StateNext.j1 kj5 a1 a2 t234 true a0_0 a0_1 a0_2 a0_3 a0_4 a0_5 a0_6 a0_7 t235 t236 t237 t238 t239 t240 t241 t242)) else (catamaranlaw19_StateNext.j1 kj5 a1 a2 t234 true a0_0 a0_1 a0_2 a0_3 a0_4 a0_5 a0_6 a0_7 t235 t236 t237 t238 t239 t240 t241 t242)) else (catamaranlaw19_StateNext.j1 kj5 a1 a2 t234 true a0_0 a0_1 a0_2 a0_3 a0_4 a0_5 a0_6 a0_7 t235 t236 t237 t238 t239 t240 t241 t242)) = some r := H
          have A30 := Aside0.mk A300
          clear A300
          by_cases c31 : t251 = 0
          · rw [if_pos c31] at H
            have c31b0 : (t251 == 0) = true := beq_iff_eq.mpr c31
            have c31b1 : (t251 != 0) = false := bne_eq_false_iff_eq.mpr c31
            clear c31
            (first | rw [c31b0] | (simp only [i64_w, i32_w]; rw [c31b0]) | skip)
            by_cases c32 : t246 = 0
            · rw [if_pos c32] at H
              have c32b0 : (t246 == 0) = true := beq_iff_eq.mpr c32
              have c32b1 : (t246 != 0) = false := bne_eq_false_iff_eq.mpr c32
              clear c32
              by_cases c33 : t248 = 0
              · rw [if_pos c33] at H
                have c33b0 : (t248 == 0) = true := beq_iff_eq.mpr c33
                have c33b1 : (t248 != 0) = false := bne_eq_false_iff_eq.mpr c33
                clear c33
                by_cases c34 : t250 = 0
                · rw [if_pos c34] at H
                  have c34b0 : (t250 == 0) = true := beq_iff_eq.mpr c34
                  have c34b1 : (t250 != 0) = false := bne_eq_false_iff_eq.mpr c34
                  clear c34
                  by_cases c35 : t245 < (-1)
                  · rw [if_pos c35] at H
                    have c35b0 : decide (t245 < (-1)) = true := decide_eq_true c35
                    clear c35
                    have H' := Aside0.mk H
                    clear H
                    have hnb36 := NB244_233.out
                    have hnc36 := NB233_244.out
                    obtain ⟨hcz37_0, hcz37_1, hcz37_2, hcz37_3, hcz37_4, hcz37_5, hcz37_6, hcz37_7, hfz37_0, hfz37_1, hfz37_2, hfz37_3, hfz37_4, hfz37_5, hfz37_6, hfz37_7⟩ := blkc8 BK244.out
                    go_wp2_with (first | ((with_reducible refine gate_callee (f := 18) rfl ?_); refine goesL_ (some 55) rfl rfl Try.func18 (by kernel_rfl) rfl #[.agg #[.int .i64 t235, .int .u32 t236, .int .u32 t237, .int .i64 t238, .int .u8 t239, .int .i64 t240, .bool t241, .bool t242]] rfl (by (try simp only [List.map_toArray, List.map_cons, List.map_nil]); first | done | rfl | (simp only [List.length_drop, List.length_take]; rfl)) ?_; (with_reducible refine (rec_Check.calls kj5 t235 t236 t237 t238 t239 t240 t241 t242 t251 _ A30.out).mono ?_); rintro e w38 ⟨rfl, hb⟩; refine ⟨_, rfl, ?_⟩; have n0_ := Aside0.mk (blk_below (g := gb233) (o := .cells #[.int .i64 a0_0, .int .u32 a0_1, .int .u32 a0_2, .int .i64 a0_3, .int .u8 a0_4, .int .i64 a0_5, .bool a0_6, .bool a0_7] 24 (0, 0)) (by (with_reducible repeat (first | refine blk_drewN ?_ _ | refine blk_drew ?_ | refine blk_alloc ?_ _)); exact BK233.out) hb); have n1_ := Aside0.mk (blk_below (g := gb244) (o := .cells #[.int .i64 t235, .int .u32 t236, .int .u32 t237, .int .i64 t238, .int .u8 t239, .int .i64 t240, .bool t241, .bool t242] 24 (0, 0)) (by (with_reducible repeat (first | refine blk_drewN ?_ _ | refine blk_drew ?_ | refine blk_alloc ?_ _)); exact BK244.out) hb); have n2_ := Aside0.mk (below_step (by repeat (first | (with_reducible first | exact HB.out | apply below_alloc | apply pw_below_drewN | apply below_drew1 | refine below_set ?_ GE233.out | refine below_set ?_ GE244.out) | exact HB.out)) hb); clear BK233; clear BK244; clear HB; have BK233 := n0_; have BK244 := n1_; have HB := n2_; clear n0_ n1_ n2_; (try clear hb); (try clear hb2); (try clear hk); (try clear hi)))
                    (first | go_meet | (refine Go.Met.intro ?_; go_step; (repeat apply Exists.intro); refine ⟨?rel, ?eqf⟩; case eqf => ((try rw [c31b0]); (first | done | rfl))))
                    case rel => exact ⟨_, (true), (by first | rfl | (simp; done) | (simp [*]; done)), H', ⟨by have := HJ5.out; first | omega | exact Nat.le_refl _⟩, ⟨by (with_reducible repeat (first | refine blk_drewN ?_ _ | refine blk_drew ?_ | refine blk_alloc ?_ _)); exact BK233.out⟩, ⟨by (with_reducible repeat (first | refine blk_drewN ?_ _ | refine blk_drew ?_ | refine blk_alloc ?_ _)); exact BK244.out⟩, ⟨by repeat (first | (with_reducible first | exact HB.out | apply below_alloc | apply pw_below_drewN | apply below_drew1 | refine below_set ?_ GE233.out | refine below_set ?_ GE244.out) | exact HB.out)⟩⟩
                  · rw [if_neg c35] at H
                    have c35b0 : decide (t245 < (-1)) = false := decide_eq_false c35
                    clear c35
                    by_cases c39 : t245 > 1
                    · rw [if_pos c39] at H
                      have c39b0 : decide (1 < t245) = true := decide_eq_true c39
                      clear c39
                      have H' := Aside0.mk H
                      clear H
                      have hnb40 := NB244_233.out
                      have hnc40 := NB233_244.out
                      obtain ⟨hcz41_0, hcz41_1, hcz41_2, hcz41_3, hcz41_4, hcz41_5, hcz41_6, hcz41_7, hfz41_0, hfz41_1, hfz41_2, hfz41_3, hfz41_4, hfz41_5, hfz41_6, hfz41_7⟩ := blkc8 BK244.out
                      go_wp2_with (first | ((with_reducible refine gate_callee (f := 18) rfl ?_); refine goesL_ (some 55) rfl rfl Try.func18 (by kernel_rfl) rfl #[.agg #[.int .i64 t235, .int .u32 t236, .int .u32 t237, .int .i64 t238, .int .u8 t239, .int .i64 t240, .bool t241, .bool t242]] rfl (by (try simp only [List.map_toArray, List.map_cons, List.map_nil]); first | done | rfl | (simp only [List.length_drop, List.length_take]; rfl)) ?_; (with_reducible refine (rec_Check.calls kj5 t235 t236 t237 t238 t239 t240 t241 t242 t251 _ A30.out).mono ?_); rintro e w42 ⟨rfl, hb⟩; refine ⟨_, rfl, ?_⟩; have n0_ := Aside0.mk (blk_below (g := gb233) (o := .cells #[.int .i64 a0_0, .int .u32 a0_1, .int .u32 a0_2, .int .i64 a0_3, .int .u8 a0_4, .int .i64 a0_5, .bool a0_6, .bool a0_7] 24 (0, 0)) (by (with_reducible repeat (first | refine blk_drewN ?_ _ | refine blk_drew ?_ | refine blk_alloc ?_ _)); exact BK233.out) hb); have n1_ := Aside0.mk (blk_below (g := gb244) (o := .cells #[.int .i64 t235, .int .u32 t236, .int .u32 t237, .int .i64 t238, .int .u8 t239, .int .i64 t240, .bool t241, .bool t242] 24 (0, 0)) (by (with_reducible repeat (first | refine blk_drewN ?_ _ | refine blk_drew ?_ | refine blk_alloc ?_ _)); exact BK244.out) hb); have n2_ := Aside0.mk (below_step (by repeat (first | (with_reducible first | exact HB.out | apply below_alloc | apply pw_below_drewN | apply below_drew1 | refine below_set ?_ GE233.out | refine below_set ?_ GE244.out) | exact HB.out)) hb); clear BK233; clear BK244; clear HB; have BK233 := n0_; have BK244 := n1_; have HB := n2_; clear n0_ n1_ n2_; (try clear hb); (try clear hb2); (try clear hk); (try clear hi)))
                      (first | go_meet | (refine Go.Met.intro ?_; go_step; (repeat apply Exists.intro); refine ⟨?rel, ?eqf⟩; case eqf => ((try rw [c31b0]); (first | done | rfl))))
                      case rel => exact ⟨_, (true), (by first | rfl | (simp; done) | (simp [*]; done)), H', ⟨by have := HJ5.out; first | omega | exact Nat.le_refl _⟩, ⟨by (with_reducible repeat (first | refine blk_drewN ?_ _ | refine blk_drew ?_ | refine blk_alloc ?_ _)); exact BK233.out⟩, ⟨by (with_reducible repeat (first | refine blk_drewN ?_ _ | refine blk_drew ?_ | refine blk_alloc ?_ _)); exact BK244.out⟩, ⟨by repeat (first | (with_reducible first | exact HB.out | apply below_alloc | apply pw_below_drewN | apply below_drew1 | refine below_set ?_ GE233.out | refine below_set ?_ GE244.out) | exact HB.out)⟩⟩
                    · rw [if_neg c39] at H
                      have c39b0 : decide (1 < t245) = false := decide_eq_false c39
                      clear c39
                      by_cases c43 : t245 = t238
                      · rw [if_pos c43] at H
                        have c43b0 : (t245 == t238) = true := beq_iff_eq.mpr c43
                        have c43b1 : (t245 != t238) = false := bne_eq_false_iff_eq.mpr c43
                        clear c43
                        by_cases c44 : (t247 != true) = true
                        · rw [if_pos c44] at H
                          have c44b0 : (t247 != true) = true := c44
                          (try (have c44b1 : decide (t247 = true) = false := by simpa using c44))
                          (try (have c44b2 : (t247 == true) = false := by simpa using c44))
                          (try (have c44b3 : ¬ (t247 = true) := by simpa using c44))
                          clear c44
                          have H' := Aside0.mk H
                          clear H
                          have hnb45 := NB244_233.out
                          have hnc45 := NB233_244.out
                          obtain ⟨hcz46_0, hcz46_1, hcz46_2, hcz46_3, hcz46_4, hcz46_5, hcz46_6, hcz46_7, hfz46_0, hfz46_1, hfz46_2, hfz46_3, hfz46_4, hfz46_5, hfz46_6, hfz46_7⟩ := blkc8 BK244.out
                          go_wp2_with (first | ((with_reducible refine gate_callee (f := 18) rfl ?_); refine goesL_ (some 55) rfl rfl Try.func18 (by kernel_rfl) rfl #[.agg #[.int .i64 t235, .int .u32 t236, .int .u32 t237, .int .i64 t238, .int .u8 t239, .int .i64 t240, .bool t241, .bool t242]] rfl (by (try simp only [List.map_toArray, List.map_cons, List.map_nil]); first | done | rfl | (simp only [List.length_drop, List.length_take]; rfl)) ?_; (with_reducible refine (rec_Check.calls kj5 t235 t236 t237 t238 t239 t240 t241 t242 t251 _ A30.out).mono ?_); rintro e w47 ⟨rfl, hb⟩; refine ⟨_, rfl, ?_⟩; have n0_ := Aside0.mk (blk_below (g := gb233) (o := .cells #[.int .i64 a0_0, .int .u32 a0_1, .int .u32 a0_2, .int .i64 a0_3, .int .u8 a0_4, .int .i64 a0_5, .bool a0_6, .bool a0_7] 24 (0, 0)) (by (with_reducible repeat (first | refine blk_drewN ?_ _ | refine blk_drew ?_ | refine blk_alloc ?_ _)); exact BK233.out) hb); have n1_ := Aside0.mk (blk_below (g := gb244) (o := .cells #[.int .i64 t235, .int .u32 t236, .int .u32 t237, .int .i64 t238, .int .u8 t239, .int .i64 t240, .bool t241, .bool t242] 24 (0, 0)) (by (with_reducible repeat (first | refine blk_drewN ?_ _ | refine blk_drew ?_ | refine blk_alloc ?_ _)); exact BK244.out) hb); have n2_ := Aside0.mk (below_step (by repeat (first | (with_reducible first | exact HB.out | apply below_alloc | apply pw_below_drewN | apply below_drew1 | refine below_set ?_ GE233.out | refine below_set ?_ GE244.out) | exact HB.out)) hb); clear BK233; clear BK244; clear HB; have BK233 := n0_; have BK244 := n1_; have HB := n2_; clear n0_ n1_ n2_; (try clear hb); (try clear hb2); (try clear hk); (try clear hi); obtain ⟨hcz48_0, hcz48_1, hcz48_2, hcz48_3, hcz48_4, hcz48_5, hcz48_6, hcz48_7, hfz48_0, hfz48_1, hfz48_2, hfz48_3, hfz48_4, hfz48_5, hfz48_6, hfz48_7⟩ := blkc8 BK244.out))
                          (first | go_meet | (refine Go.Met.intro ?_; go_step; (repeat apply Exists.intro); refine ⟨?rel, ?eqf⟩; case eqf => ((try rw [show t247 = false from by simpa using c44b0]); (try rw [c31b0]); (first | done | rfl))))
                          case rel => exact ⟨_, (true), (by first | rfl | (simp; done) | (simp [*]; done)), H', ⟨by have := HJ5.out; first | omega | exact Nat.le_refl _⟩, ⟨by (with_reducible repeat (first | refine blk_drewN ?_ _ | refine blk_drew ?_ | refine blk_alloc ?_ _)); exact BK233.out⟩, ⟨by (with_reducible repeat (first | refine blk_drewN ?_ _ | refine blk_drew ?_ | refine blk_alloc ?_ _)); exact BK244.out⟩, ⟨by repeat (first | (with_reducible first | exact HB.out | apply below_alloc | apply pw_below_drewN | apply below_drew1 | refine below_set ?_ GE233.out | refine below_set ?_ GE244.out) | exact HB.out)⟩⟩
                        · rw [if_neg c44] at H
                          have c44b0 : (t247 != true) = false := by simpa using c44
                          (try (have c44b1 : decide (t247 = true) = true := by simpa using c44))
                          (try (have c44b2 : (t247 == true) = true := by simpa using c44))
                          clear c44
                          by_cases c49 : t249 = 0
                          · rw [if_pos c49] at H
                            have c49b0 : (t249 == 0) = true := beq_iff_eq.mpr c49
                            have c49b1 : (t249 != 0) = false := bne_eq_false_iff_eq.mpr c49
                            clear c49
                            by_cases c50 : t241 = true
                            · subst c50
                              have H1 : (catamaranlaw19_StateNext.j1 kj5 a1 a2 t234 true a0_0 a0_1 a0_2 a0_3 a0_4 a0_5 a0_6 a0_7 t235 t236 t237 t238 t239 t240 true t242) = some r := by rw [if_pos rfl] at H; exact H
                              clear H
                              have H := H1
                              clear H1
                              have H' := Aside0.mk H
                              clear H
                              have hnb51 := NB244_233.out
                              have hnc51 := NB233_244.out
                              obtain ⟨hcz52_0, hcz52_1, hcz52_2, hcz52_3, hcz52_4, hcz52_5, hcz52_6, hcz52_7, hfz52_0, hfz52_1, hfz52_2, hfz52_3, hfz52_4, hfz52_5, hfz52_6, hfz52_7⟩ := blkc8 BK244.out
                              go_wp2_with (first | ((with_reducible refine gate_callee (f := 18) rfl ?_); refine goesL_ (some 55) rfl rfl Try.func18 (by kernel_rfl) rfl #[.agg #[.int .i64 t235, .int .u32 t236, .int .u32 t237, .int .i64 t238, .int .u8 t239, .int .i64 t240, .bool true, .bool t242]] rfl (by (try simp only [List.map_toArray, List.map_cons, List.map_nil]); first | done | rfl | (simp only [List.length_drop, List.length_take]; rfl)) ?_; (with_reducible refine (rec_Check.calls kj5 t235 t236 t237 t238 t239 t240 true t242 t251 _ A30.out).mono ?_); rintro e w53 ⟨rfl, hb⟩; refine ⟨_, rfl, ?_⟩; have n0_ := Aside0.mk (blk_below (g := gb233) (o := .cells #[.int .i64 a0_0, .int .u32 a0_1, .int .u32 a0_2, .int .i64 a0_3, .int .u8 a0_4, .int .i64 a0_5, .bool a0_6, .bool a0_7] 24 (0, 0)) (by (with_reducible repeat (first | refine blk_drewN ?_ _ | refine blk_drew ?_ | refine blk_alloc ?_ _)); exact BK233.out) hb); have n1_ := Aside0.mk (blk_below (g := gb244) (o := .cells #[.int .i64 t235, .int .u32 t236, .int .u32 t237, .int .i64 t238, .int .u8 t239, .int .i64 t240, .bool true, .bool t242] 24 (0, 0)) (by (with_reducible repeat (first | refine blk_drewN ?_ _ | refine blk_drew ?_ | refine blk_alloc ?_ _)); exact BK244.out) hb); have n2_ := Aside0.mk (below_step (by repeat (first | (with_reducible first | exact HB.out | apply below_alloc | apply pw_below_drewN | apply below_drew1 | refine below_set ?_ GE233.out | refine below_set ?_ GE244.out) | exact HB.out)) hb); clear BK233; clear BK244; clear HB; have BK233 := n0_; have BK244 := n1_; have HB := n2_; clear n0_ n1_ n2_; (try clear hb); (try clear hb2); (try clear hk); (try clear hi); obtain ⟨hcz54_0, hcz54_1, hcz54_2, hcz54_3, hcz54_4, hcz54_5, hcz54_6, hcz54_7, hfz54_0, hfz54_1, hfz54_2, hfz54_3, hfz54_4, hfz54_5, hfz54_6, hfz54_7⟩ := blkc8 BK244.out))
                              (first | go_meet | (refine Go.Met.intro ?_; go_step; (repeat apply Exists.intro); refine ⟨?rel, ?eqf⟩; case eqf => ((try rw [show t247 = true from by simpa using c44b0]); (try rw [show t247 = false from by simpa using c44b0]); (try rw [c31b0]); (first | done | rfl))))
                              case rel => exact ⟨_, (true), (by first | rfl | (simp; done) | (simp [*]; done)), H', ⟨by have := HJ5.out; first | omega | exact Nat.le_refl _⟩, ⟨by (with_reducible repeat (first | refine blk_drewN ?_ _ | refine blk_drew ?_ | refine blk_alloc ?_ _)); exact BK233.out⟩, ⟨by (with_reducible repeat (first | refine blk_drewN ?_ _ | refine blk_drew ?_ | refine blk_alloc ?_ _)); exact BK244.out⟩, ⟨by repeat (first | (with_reducible first | exact HB.out | apply below_alloc | apply pw_below_drewN | apply below_drew1 | refine below_set ?_ GE233.out | refine below_set ?_ GE244.out) | exact HB.out)⟩⟩
                            · replace c50 := Bool.eq_false_iff.mpr c50
                              subst c50
                              have H1 : (if t249 = 1 then (catamaranlaw19_StateNext.j1 kj5 a1 a2 t234 (!t247) a0_0 a0_1 a0_2 a0_3 a0_4 a0_5 a0_6 a0_7 t235 t236 t237 t238 t239 t240 false t242) else (catamaranlaw19_StateNext.j1 kj5 a1 a2 t234 false a0_0 a0_1 a0_2 a0_3 a0_4 a0_5 a0_6 a0_7 t235 t236 t237 t238 t239 t240 false t242)) = some r := by rw [if_neg (show ¬ (false = true) by decide)] at H; exact H
                              clear H
                              have H := H1
                              clear H1
                              by_cases c55 : t249 = 1
                              · rw [if_pos c55] at H
                                have c55b0 : (t249 == 1) = true := beq_iff_eq.mpr c55
                                have c55b1 : (t249 != 1) = false := bne_eq_false_iff_eq.mpr c55
                                clear c55
                                have H' := Aside0.mk H
                                clear H
                                have hnb56 := NB244_233.out
                                have hnc56 := NB233_244.out
                                obtain ⟨hcz57_0, hcz57_1, hcz57_2, hcz57_3, hcz57_4, hcz57_5, hcz57_6, hcz57_7, hfz57_0, hfz57_1, hfz57_2, hfz57_3, hfz57_4, hfz57_5, hfz57_6, hfz57_7⟩ := blkc8 BK244.out
                                go_wp2_with (first | ((with_reducible refine gate_callee (f := 18) rfl ?_); refine goesL_ (some 55) rfl rfl Try.func18 (by kernel_rfl) rfl #[.agg #[.int .i64 t235, .int .u32 t236, .int .u32 t237, .int .i64 t238, .int .u8 t239, .int .i64 t240, .bool false, .bool t242]] rfl (by (try simp only [List.map_toArray, List.map_cons, List.map_nil]); first | done | rfl | (simp only [List.length_drop, List.length_take]; rfl)) ?_; (with_reducible refine (rec_Check.calls kj5 t235 t236 t237 t238 t239 t240 false t242 t251 _ A30.out).mono ?_); rintro e w58 ⟨rfl, hb⟩; refine ⟨_, rfl, ?_⟩; have n0_ := Aside0.mk (blk_below (g := gb233) (o := .cells #[.int .i64 a0_0, .int .u32 a0_1, .int .u32 a0_2, .int .i64 a0_3, .int .u8 a0_4, .int .i64 a0_5, .bool a0_6, .bool a0_7] 24 (0, 0)) (by (with_reducible repeat (first | refine blk_drewN ?_ _ | refine blk_drew ?_ | refine blk_alloc ?_ _)); exact BK233.out) hb); have n1_ := Aside0.mk (blk_below (g := gb244) (o := .cells #[.int .i64 t235, .int .u32 t236, .int .u32 t237, .int .i64 t238, .int .u8 t239, .int .i64 t240, .bool false, .bool t242] 24 (0, 0)) (by (with_reducible repeat (first | refine blk_drewN ?_ _ | refine blk_drew ?_ | refine blk_alloc ?_ _)); exact BK244.out) hb); have n2_ := Aside0.mk (below_step (by repeat (first | (with_reducible first | exact HB.out | apply below_alloc | apply pw_below_drewN | apply below_drew1 | refine below_set ?_ GE233.out | refine below_set ?_ GE244.out) | exact HB.out)) hb); clear BK233; clear BK244; clear HB; have BK233 := n0_; have BK244 := n1_; have HB := n2_; clear n0_ n1_ n2_; (try clear hb); (try clear hb2); (try clear hk); (try clear hi); obtain ⟨hcz59_0, hcz59_1, hcz59_2, hcz59_3, hcz59_4, hcz59_5, hcz59_6, hcz59_7, hfz59_0, hfz59_1, hfz59_2, hfz59_3, hfz59_4, hfz59_5, hfz59_6, hfz59_7⟩ := blkc8 BK244.out))
                                (first | go_meet | (refine Go.Met.intro ?_; go_step; (repeat apply Exists.intro); refine ⟨?rel, ?eqf⟩; case eqf => ((try rw [show t247 = true from by simpa using c44b0]); (try rw [show t247 = false from by simpa using c44b0]); (try rw [c31b0]); (first | done | rfl))))
                                case rel => exact ⟨_, (!t247), (by first | rfl | (simp; done) | (simp [*]; done)), H', ⟨by have := HJ5.out; first | omega | exact Nat.le_refl _⟩, ⟨by (with_reducible repeat (first | refine blk_drewN ?_ _ | refine blk_drew ?_ | refine blk_alloc ?_ _)); exact BK233.out⟩, ⟨by (with_reducible repeat (first | refine blk_drewN ?_ _ | refine blk_drew ?_ | refine blk_alloc ?_ _)); exact BK244.out⟩, ⟨by repeat (first | (with_reducible first | exact HB.out | apply below_alloc | apply pw_below_drewN | apply below_drew1 | refine below_set ?_ GE233.out | refine below_set ?_ GE244.out) | exact HB.out)⟩⟩
                              · rw [if_neg c55] at H
                                have c55b0 : (t249 == 1) = false := beq_eq_false_iff_ne.mpr c55
                                have c55b1 : (t249 != 1) = true := bne_iff_ne.mpr c55
                                have H' := Aside0.mk H
                                clear H
                                have hnb60 := NB244_233.out
                                have hnc60 := NB233_244.out
                                obtain ⟨hcz61_0, hcz61_1, hcz61_2, hcz61_3, hcz61_4, hcz61_5, hcz61_6, hcz61_7, hfz61_0, hfz61_1, hfz61_2, hfz61_3, hfz61_4, hfz61_5, hfz61_6, hfz61_7⟩ := blkc8 BK244.out
                                go_wp2_with (first | ((with_reducible refine gate_callee (f := 18) rfl ?_); refine goesL_ (some 55) rfl rfl Try.func18 (by kernel_rfl) rfl #[.agg #[.int .i64 t235, .int .u32 t236, .int .u32 t237, .int .i64 t238, .int .u8 t239, .int .i64 t240, .bool false, .bool t242]] rfl (by (try simp only [List.map_toArray, List.map_cons, List.map_nil]); first | done | rfl | (simp only [List.length_drop, List.length_take]; rfl)) ?_; (with_reducible refine (rec_Check.calls kj5 t235 t236 t237 t238 t239 t240 false t242 t251 _ A30.out).mono ?_); rintro e w62 ⟨rfl, hb⟩; refine ⟨_, rfl, ?_⟩; have n0_ := Aside0.mk (blk_below (g := gb233) (o := .cells #[.int .i64 a0_0, .int .u32 a0_1, .int .u32 a0_2, .int .i64 a0_3, .int .u8 a0_4, .int .i64 a0_5, .bool a0_6, .bool a0_7] 24 (0, 0)) (by (with_reducible repeat (first | refine blk_drewN ?_ _ | refine blk_drew ?_ | refine blk_alloc ?_ _)); exact BK233.out) hb); have n1_ := Aside0.mk (blk_below (g := gb244) (o := .cells #[.int .i64 t235, .int .u32 t236, .int .u32 t237, .int .i64 t238, .int .u8 t239, .int .i64 t240, .bool false, .bool t242] 24 (0, 0)) (by (with_reducible repeat (first | refine blk_drewN ?_ _ | refine blk_drew ?_ | refine blk_alloc ?_ _)); exact BK244.out) hb); have n2_ := Aside0.mk (below_step (by repeat (first | (with_reducible first | exact HB.out | apply below_alloc | apply pw_below_drewN | apply below_drew1 | refine below_set ?_ GE233.out | refine below_set ?_ GE244.out) | exact HB.out)) hb); clear BK233; clear BK244; clear HB; have BK233 := n0_; have BK244 := n1_; have HB := n2_; clear n0_ n1_ n2_; (try clear hb); (try clear hb2); (try clear hk); (try clear hi); obtain ⟨hcz63_0, hcz63_1, hcz63_2, hcz63_3, hcz63_4, hcz63_5, hcz63_6, hcz63_7, hfz63_0, hfz63_1, hfz63_2, hfz63_3, hfz63_4, hfz63_5, hfz63_6, hfz63_7⟩ := blkc8 BK244.out))
                                (first | go_meet | (refine Go.Met.intro ?_; go_step; (repeat apply Exists.intro); refine ⟨?rel, ?eqf⟩; case eqf => ((try rw [show t247 = true from by simpa using c44b0]); (try rw [show t247 = false from by simpa using c44b0]); (try rw [c31b0]); (first | done | rfl))))
                                case rel => exact ⟨_, (false), (by first | rfl | (simp; done) | (simp [*]; done)), H', ⟨by have := HJ5.out; first | omega | exact Nat.le_refl _⟩, ⟨by (with_reducible repeat (first | refine blk_drewN ?_ _ | refine blk_drew ?_ | refine blk_alloc ?_ _)); exact BK233.out⟩, ⟨by (with_reducible repeat (first | refine blk_drewN ?_ _ | refine blk_drew ?_ | refine blk_alloc ?_ _)); exact BK244.out⟩, ⟨by repeat (first | (with_reducible first | exact HB.out | apply below_alloc | apply pw_below_drewN | apply below_drew1 | refine below_set ?_ GE233.out | refine below_set ?_ GE244.out) | exact HB.out)⟩⟩
                          · rw [if_neg c49] at H
                            have c49b0 : (t249 == 0) = false := beq_eq_false_iff_ne.mpr c49
                            have c49b1 : (t249 != 0) = true := bne_iff_ne.mpr c49
                            by_cases c64 : t249 = 1
                            · rw [if_pos c64] at H
                              have c64b0 : (t249 == 1) = true := beq_iff_eq.mpr c64
                              have c64b1 : (t249 != 1) = false := bne_eq_false_iff_eq.mpr c64
                              clear c64
                              have H' := Aside0.mk H
                              clear H
                              have hnb65 := NB244_233.out
                              have hnc65 := NB233_244.out
                              obtain ⟨hcz66_0, hcz66_1, hcz66_2, hcz66_3, hcz66_4, hcz66_5, hcz66_6, hcz66_7, hfz66_0, hfz66_1, hfz66_2, hfz66_3, hfz66_4, hfz66_5, hfz66_6, hfz66_7⟩ := blkc8 BK244.out
                              go_wp2_with (first | ((with_reducible refine gate_callee (f := 18) rfl ?_); refine goesL_ (some 55) rfl rfl Try.func18 (by kernel_rfl) rfl #[.agg #[.int .i64 t235, .int .u32 t236, .int .u32 t237, .int .i64 t238, .int .u8 t239, .int .i64 t240, .bool t241, .bool t242]] rfl (by (try simp only [List.map_toArray, List.map_cons, List.map_nil]); first | done | rfl | (simp only [List.length_drop, List.length_take]; rfl)) ?_; (with_reducible refine (rec_Check.calls kj5 t235 t236 t237 t238 t239 t240 t241 t242 t251 _ A30.out).mono ?_); rintro e w67 ⟨rfl, hb⟩; refine ⟨_, rfl, ?_⟩; have n0_ := Aside0.mk (blk_below (g := gb233) (o := .cells #[.int .i64 a0_0, .int .u32 a0_1, .int .u32 a0_2, .int .i64 a0_3, .int .u8 a0_4, .int .i64 a0_5, .bool a0_6, .bool a0_7] 24 (0, 0)) (by (with_reducible repeat (first | refine blk_drewN ?_ _ | refine blk_drew ?_ | refine blk_alloc ?_ _)); exact BK233.out) hb); have n1_ := Aside0.mk (blk_below (g := gb244) (o := .cells #[.int .i64 t235, .int .u32 t236, .int .u32 t237, .int .i64 t238, .int .u8 t239, .int .i64 t240, .bool t241, .bool t242] 24 (0, 0)) (by (with_reducible repeat (first | refine blk_drewN ?_ _ | refine blk_drew ?_ | refine blk_alloc ?_ _)); exact BK244.out) hb); have n2_ := Aside0.mk (below_step (by repeat (first | (with_reducible first | exact HB.out | apply below_alloc | apply pw_below_drewN | apply below_drew1 | refine below_set ?_ GE233.out | refine below_set ?_ GE244.out) | exact HB.out)) hb); clear BK233; clear BK244; clear HB; have BK233 := n0_; have BK244 := n1_; have HB := n2_; clear n0_ n1_ n2_; (try clear hb); (try clear hb2); (try clear hk); (try clear hi); obtain ⟨hcz68_0, hcz68_1, hcz68_2, hcz68_3, hcz68_4, hcz68_5, hcz68_6, hcz68_7, hfz68_0, hfz68_1, hfz68_2, hfz68_3, hfz68_4, hfz68_5, hfz68_6, hfz68_7⟩ := blkc8 BK244.out))
                              (first | go_meet | (refine Go.Met.intro ?_; go_step; (repeat apply Exists.intro); refine ⟨?rel, ?eqf⟩; case eqf => ((try rw [show t247 = true from by simpa using c44b0]); (try rw [show t247 = false from by simpa using c44b0]); (try rw [c31b0]); (first | done | rfl))))
                              case rel => exact ⟨_, (!t247), (by first | rfl | (simp; done) | (simp [*]; done)), H', ⟨by have := HJ5.out; first | omega | exact Nat.le_refl _⟩, ⟨by (with_reducible repeat (first | refine blk_drewN ?_ _ | refine blk_drew ?_ | refine blk_alloc ?_ _)); exact BK233.out⟩, ⟨by (with_reducible repeat (first | refine blk_drewN ?_ _ | refine blk_drew ?_ | refine blk_alloc ?_ _)); exact BK244.out⟩, ⟨by repeat (first | (with_reducible first | exact HB.out | apply below_alloc | apply pw_below_drewN | apply below_drew1 | refine below_set ?_ GE233.out | refine below_set ?_ GE244.out) | exact HB.out)⟩⟩
                            · rw [if_neg c64] at H
                              have c64b0 : (t249 == 1) = false := beq_eq_false_iff_ne.mpr c64
                              have c64b1 : (t249 != 1) = true := bne_iff_ne.mpr c64
                              have H' := Aside0.mk H
                              clear H
                              have hnb69 := NB244_233.out
                              have hnc69 := NB233_244.out
                              obtain ⟨hcz70_0, hcz70_1, hcz70_2, hcz70_3, hcz70_4, hcz70_5, hcz70_6, hcz70_7, hfz70_0, hfz70_1, hfz70_2, hfz70_3, hfz70_4, hfz70_5, hfz70_6, hfz70_7⟩ := blkc8 BK244.out
                              go_wp2_with (first | ((with_reducible refine gate_callee (f := 18) rfl ?_); refine goesL_ (some 55) rfl rfl Try.func18 (by kernel_rfl) rfl #[.agg #[.int .i64 t235, .int .u32 t236, .int .u32 t237, .int .i64 t238, .int .u8 t239, .int .i64 t240, .bool t241, .bool t242]] rfl (by (try simp only [List.map_toArray, List.map_cons, List.map_nil]); first | done | rfl | (simp only [List.length_drop, List.length_take]; rfl)) ?_; (with_reducible refine (rec_Check.calls kj5 t235 t236 t237 t238 t239 t240 t241 t242 t251 _ A30.out).mono ?_); rintro e w71 ⟨rfl, hb⟩; refine ⟨_, rfl, ?_⟩; have n0_ := Aside0.mk (blk_below (g := gb233) (o := .cells #[.int .i64 a0_0, .int .u32 a0_1, .int .u32 a0_2, .int .i64 a0_3, .int .u8 a0_4, .int .i64 a0_5, .bool a0_6, .bool a0_7] 24 (0, 0)) (by (with_reducible repeat (first | refine blk_drewN ?_ _ | refine blk_drew ?_ | refine blk_alloc ?_ _)); exact BK233.out) hb); have n1_ := Aside0.mk (blk_below (g := gb244) (o := .cells #[.int .i64 t235, .int .u32 t236, .int .u32 t237, .int .i64 t238, .int .u8 t239, .int .i64 t240, .bool t241, .bool t242] 24 (0, 0)) (by (with_reducible repeat (first | refine blk_drewN ?_ _ | refine blk_drew ?_ | refine blk_alloc ?_ _)); exact BK244.out) hb); have n2_ := Aside0.mk (below_step (by repeat (first | (with_reducible first | exact HB.out | apply below_alloc | apply pw_below_drewN | apply below_drew1 | refine below_set ?_ GE233.out | refine below_set ?_ GE244.out) | exact HB.out)) hb); clear BK233; clear BK244; clear HB; have BK233 := n0_; have BK244 := n1_; have HB := n2_; clear n0_ n1_ n2_; (try clear hb); (try clear hb2); (try clear hk); (try clear hi); obtain ⟨hcz72_0, hcz72_1, hcz72_2, hcz72_3, hcz72_4, hcz72_5, hcz72_6, hcz72_7, hfz72_0, hfz72_1, hfz72_2, hfz72_3, hfz72_4, hfz72_5, hfz72_6, hfz72_7⟩ := blkc8 BK244.out))
                              (first | go_meet | (refine Go.Met.intro ?_; go_step; (repeat apply Exists.intro); refine ⟨?rel, ?eqf⟩; case eqf => ((try rw [show t247 = true from by simpa using c44b0]); (try rw [show t247 = false from by simpa using c44b0]); (try rw [c31b0]); (first | done | rfl))))
                              case rel => exact ⟨_, (false), (by first | rfl | (simp; done) | (simp [*]; done)), H', ⟨by have := HJ5.out; first | omega | exact Nat.le_refl _⟩, ⟨by (with_reducible repeat (first | refine blk_drewN ?_ _ | refine blk_drew ?_ | refine blk_alloc ?_ _)); exact BK233.out⟩, ⟨by (with_reducible repeat (first | refine blk_drewN ?_ _ | refine blk_drew ?_ | refine blk_alloc ?_ _)); exact BK244.out⟩, ⟨by repeat (first | (with_reducible first | exact HB.out | apply below_alloc | apply pw_below_drewN | apply below_drew1 | refine below_set ?_ GE233.out | refine below_set ?_ GE244.out) | exact HB.out)⟩⟩
                      · rw [if_neg c43] at H
                        have c43b0 : (t245 == t238) = false := beq_eq_false_iff_ne.mpr c43
                        have c43b1 : (t245 != t238) = true := bne_iff_ne.mpr c43
                        by_cases c73 : (t247 != (decide (t245 < 0))) = true
                        · rw [if_pos c73] at H
                          have c73b0 : (t247 != (decide (t245 < 0))) = true := c73
                          (try (have c73b1 : decide (t247 = (decide (t245 < 0))) = false := by simpa using c73))
                          (try (have c73b2 : (t247 == (decide (t245 < 0))) = false := by simpa using c73))
                          (try (have c73b3 : ¬ (t247 = (decide (t245 < 0))) := by simpa using c73))
                          clear c73
                          have H' := Aside0.mk H
                          clear H
                          have hnb74 := NB244_233.out
                          have hnc74 := NB233_244.out
                          obtain ⟨hcz75_0, hcz75_1, hcz75_2, hcz75_3, hcz75_4, hcz75_5, hcz75_6, hcz75_7, hfz75_0, hfz75_1, hfz75_2, hfz75_3, hfz75_4, hfz75_5, hfz75_6, hfz75_7⟩ := blkc8 BK244.out
                          go_wp2_with (first | ((with_reducible refine gate_callee (f := 18) rfl ?_); refine goesL_ (some 55) rfl rfl Try.func18 (by kernel_rfl) rfl #[.agg #[.int .i64 t235, .int .u32 t236, .int .u32 t237, .int .i64 t238, .int .u8 t239, .int .i64 t240, .bool t241, .bool t242]] rfl (by (try simp only [List.map_toArray, List.map_cons, List.map_nil]); first | done | rfl | (simp only [List.length_drop, List.length_take]; rfl)) ?_; (with_reducible refine (rec_Check.calls kj5 t235 t236 t237 t238 t239 t240 t241 t242 t251 _ A30.out).mono ?_); rintro e w76 ⟨rfl, hb⟩; refine ⟨_, rfl, ?_⟩; have n0_ := Aside0.mk (blk_below (g := gb233) (o := .cells #[.int .i64 a0_0, .int .u32 a0_1, .int .u32 a0_2, .int .i64 a0_3, .int .u8 a0_4, .int .i64 a0_5, .bool a0_6, .bool a0_7] 24 (0, 0)) (by (with_reducible repeat (first | refine blk_drewN ?_ _ | refine blk_drew ?_ | refine blk_alloc ?_ _)); exact BK233.out) hb); have n1_ := Aside0.mk (blk_below (g := gb244) (o := .cells #[.int .i64 t235, .int .u32 t236, .int .u32 t237, .int .i64 t238, .int .u8 t239, .int .i64 t240, .bool t241, .bool t242] 24 (0, 0)) (by (with_reducible repeat (first | refine blk_drewN ?_ _ | refine blk_drew ?_ | refine blk_alloc ?_ _)); exact BK244.out) hb); have n2_ := Aside0.mk (below_step (by repeat (first | (with_reducible first | exact HB.out | apply below_alloc | apply pw_below_drewN | apply below_drew1 | refine below_set ?_ GE233.out | refine below_set ?_ GE244.out) | exact HB.out)) hb); clear BK233; clear BK244; clear HB; have BK233 := n0_; have BK244 := n1_; have HB := n2_; clear n0_ n1_ n2_; (try clear hb); (try clear hb2); (try clear hk); (try clear hi); obtain ⟨hcz77_0, hcz77_1, hcz77_2, hcz77_3, hcz77_4, hcz77_5, hcz77_6, hcz77_7, hfz77_0, hfz77_1, hfz77_2, hfz77_3, hfz77_4, hfz77_5, hfz77_6, hfz77_7⟩ := blkc8 BK244.out))
                          (first | go_meet | (refine Go.Met.intro ?_; go_step; (repeat apply Exists.intro); refine ⟨?rel, ?eqf⟩; case eqf => ((try rw [c31b0]); (first | done | rfl))))
                          case rel => exact ⟨_, (true), (by first | rfl | (simp; done) | (simp [*]; done)), H', ⟨by have := HJ5.out; first | omega | exact Nat.le_refl _⟩, ⟨by (with_reducible repeat (first | refine blk_drewN ?_ _ | refine blk_drew ?_ | refine blk_alloc ?_ _)); exact BK233.out⟩, ⟨by (with_reducible repeat (first | refine blk_drewN ?_ _ | refine blk_drew ?_ | refine blk_alloc ?_ _)); exact BK244.out⟩, ⟨by repeat (first | (with_reducible first | exact HB.out | apply below_alloc | apply pw_below_drewN | apply below_drew1 | refine below_set ?_ GE233.out | refine below_set ?_ GE244.out) | exact HB.out)⟩⟩
                        · rw [if_neg c73] at H
                          have c73b0 : (t247 != (decide (t245 < 0))) = false := by simpa using c73
                          (try (have c73b1 : decide (t247 = (decide (t245 < 0))) = true := by simpa using c73))
                          (try (have c73b2 : (t247 == (decide (t245 < 0))) = true := by simpa using c73))
                          clear c73
                          by_cases c78 : t249 = 0
                          · rw [if_pos c78] at H
                            have c78b0 : (t249 == 0) = true := beq_iff_eq.mpr c78
                            have c78b1 : (t249 != 0) = false := bne_eq_false_iff_eq.mpr c78
                            clear c78
                            by_cases c79 : t241 = true
                            · subst c79
                              have H1 : (catamaranlaw19_StateNext.j1 kj5 a1 a2 t234 true a0_0 a0_1 a0_2 a0_3 a0_4 a0_5 a0_6 a0_7 t235 t236 t237 t238 t239 t240 true t242) = some r := by rw [if_pos rfl] at H; exact H
                              clear H
                              have H := H1
                              clear H1
                              have H' := Aside0.mk H
                              clear H
                              have hnb80 := NB244_233.out
                              have hnc80 := NB233_244.out
                              obtain ⟨hcz81_0, hcz81_1, hcz81_2, hcz81_3, hcz81_4, hcz81_5, hcz81_6, hcz81_7, hfz81_0, hfz81_1, hfz81_2, hfz81_3, hfz81_4, hfz81_5, hfz81_6, hfz81_7⟩ := blkc8 BK244.out
                              go_wp2_with (first | ((with_reducible refine gate_callee (f := 18) rfl ?_); refine goesL_ (some 55) rfl rfl Try.func18 (by kernel_rfl) rfl #[.agg #[.int .i64 t235, .int .u32 t236, .int .u32 t237, .int .i64 t238, .int .u8 t239, .int .i64 t240, .bool true, .bool t242]] rfl (by (try simp only [List.map_toArray, List.map_cons, List.map_nil]); first | done | rfl | (simp only [List.length_drop, List.length_take]; rfl)) ?_; (with_reducible refine (rec_Check.calls kj5 t235 t236 t237 t238 t239 t240 true t242 t251 _ A30.out).mono ?_); rintro e w82 ⟨rfl, hb⟩; refine ⟨_, rfl, ?_⟩; have n0_ := Aside0.mk (blk_below (g := gb233) (o := .cells #[.int .i64 a0_0, .int .u32 a0_1, .int .u32 a0_2, .int .i64 a0_3, .int .u8 a0_4, .int .i64 a0_5, .bool a0_6, .bool a0_7] 24 (0, 0)) (by (with_reducible repeat (first | refine blk_drewN ?_ _ | refine blk_drew ?_ | refine blk_alloc ?_ _)); exact BK233.out) hb); have n1_ := Aside0.mk (blk_below (g := gb244) (o := .cells #[.int .i64 t235, .int .u32 t236, .int .u32 t237, .int .i64 t238, .int .u8 t239, .int .i64 t240, .bool true, .bool t242] 24 (0, 0)) (by (with_reducible repeat (first | refine blk_drewN ?_ _ | refine blk_drew ?_ | refine blk_alloc ?_ _)); exact BK244.out) hb); have n2_ := Aside0.mk (below_step (by repeat (first | (with_reducible first | exact HB.out | apply below_alloc | apply pw_below_drewN | apply below_drew1 | refine below_set ?_ GE233.out | refine below_set ?_ GE244.out) | exact HB.out)) hb); clear BK233; clear BK244; clear HB; have BK233 := n0_; have BK244 := n1_; have HB := n2_; clear n0_ n1_ n2_; (try clear hb); (try clear hb2); (try clear hk); (try clear hi); obtain ⟨hcz83_0, hcz83_1, hcz83_2, hcz83_3, hcz83_4, hcz83_5, hcz83_6, hcz83_7, hfz83_0, hfz83_1, hfz83_2, hfz83_3, hfz83_4, hfz83_5, hfz83_6, hfz83_7⟩ := blkc8 BK244.out))
                              (first | go_meet | (refine Go.Met.intro ?_; go_step; (repeat apply Exists.intro); refine ⟨?rel, ?eqf⟩; case eqf => ((try rw [c31b0]); (first | done | rfl))))
                              case rel => exact ⟨_, (true), (by first | rfl | (simp; done) | (simp [*]; done)), H', ⟨by have := HJ5.out; first | omega | exact Nat.le_refl _⟩, ⟨by (with_reducible repeat (first | refine blk_drewN ?_ _ | refine blk_drew ?_ | refine blk_alloc ?_ _)); exact BK233.out⟩, ⟨by (with_reducible repeat (first | refine blk_drewN ?_ _ | refine blk_drew ?_ | refine blk_alloc ?_ _)); exact BK244.out⟩, ⟨by repeat (first | (with_reducible first | exact HB.out | apply below_alloc | apply pw_below_drewN | apply below_drew1 | refine below_set ?_ GE233.out | refine below_set ?_ GE244.out) | exact HB.out)⟩⟩
                            · replace c79 := Bool.eq_false_iff.mpr c79
                              subst c79
                              have H1 : (if t249 = 1 then (catamaranlaw19_StateNext.j1 kj5 a1 a2 t234 (!t247) a0_0 a0_1 a0_2 a0_3 a0_4 a0_5 a0_6 a0_7 t235 t236 t237 t238 t239 t240 false t242) else (catamaranlaw19_StateNext.j1 kj5 a1 a2 t234 false a0_0 a0_1 a0_2 a0_3 a0_4 a0_5 a0_6 a0_7 t235 t236 t237 t238 t239 t240 false t242)) = some r := by rw [if_neg (show ¬ (false = true) by decide)] at H; exact H
                              clear H
                              have H := H1
                              clear H1
                              by_cases c84 : t249 = 1
                              · rw [if_pos c84] at H
                                have c84b0 : (t249 == 1) = true := beq_iff_eq.mpr c84
                                have c84b1 : (t249 != 1) = false := bne_eq_false_iff_eq.mpr c84
                                clear c84
                                have H' := Aside0.mk H
                                clear H
                                have hnb85 := NB244_233.out
                                have hnc85 := NB233_244.out
                                obtain ⟨hcz86_0, hcz86_1, hcz86_2, hcz86_3, hcz86_4, hcz86_5, hcz86_6, hcz86_7, hfz86_0, hfz86_1, hfz86_2, hfz86_3, hfz86_4, hfz86_5, hfz86_6, hfz86_7⟩ := blkc8 BK244.out
                                go_wp2_with (first | ((with_reducible refine gate_callee (f := 18) rfl ?_); refine goesL_ (some 55) rfl rfl Try.func18 (by kernel_rfl) rfl #[.agg #[.int .i64 t235, .int .u32 t236, .int .u32 t237, .int .i64 t238, .int .u8 t239, .int .i64 t240, .bool false, .bool t242]] rfl (by (try simp only [List.map_toArray, List.map_cons, List.map_nil]); first | done | rfl | (simp only [List.length_drop, List.length_take]; rfl)) ?_; (with_reducible refine (rec_Check.calls kj5 t235 t236 t237 t238 t239 t240 false t242 t251 _ A30.out).mono ?_); rintro e w87 ⟨rfl, hb⟩; refine ⟨_, rfl, ?_⟩; have n0_ := Aside0.mk (blk_below (g := gb233) (o := .cells #[.int .i64 a0_0, .int .u32 a0_1, .int .u32 a0_2, .int .i64 a0_3, .int .u8 a0_4, .int .i64 a0_5, .bool a0_6, .bool a0_7] 24 (0, 0)) (by (with_reducible repeat (first | refine blk_drewN ?_ _ | refine blk_drew ?_ | refine blk_alloc ?_ _)); exact BK233.out) hb); have n1_ := Aside0.mk (blk_below (g := gb244) (o := .cells #[.int .i64 t235, .int .u32 t236, .int .u32 t237, .int .i64 t238, .int .u8 t239, .int .i64 t240, .bool false, .bool t242] 24 (0, 0)) (by (with_reducible repeat (first | refine blk_drewN ?_ _ | refine blk_drew ?_ | refine blk_alloc ?_ _)); exact BK244.out) hb); have n2_ := Aside0.mk (below_step (by repeat (first | (with_reducible first | exact HB.out | apply below_alloc | apply pw_below_drewN | apply below_drew1 | refine below_set ?_ GE233.out | refine below_set ?_ GE244.out) | exact HB.out)) hb); clear BK233; clear BK244; clear HB; have BK233 := n0_; have BK244 := n1_; have HB := n2_; clear n0_ n1_ n2_; (try clear hb); (try clear hb2); (try clear hk); (try clear hi); obtain ⟨hcz88_0, hcz88_1, hcz88_2, hcz88_3, hcz88_4, hcz88_5, hcz88_6, hcz88_7, hfz88_0, hfz88_1, hfz88_2, hfz88_3, hfz88_4, hfz88_5, hfz88_6, hfz88_7⟩ := blkc8 BK244.out))
                                (first | go_meet | (refine Go.Met.intro ?_; go_step; (repeat apply Exists.intro); refine ⟨?rel, ?eqf⟩; case eqf => ((try rw [c31b0]); (first | done | rfl))))
                                case rel => exact ⟨_, (!t247), (by first | rfl | (simp; done) | (simp [*]; done)), H', ⟨by have := HJ5.out; first | omega | exact Nat.le_refl _⟩, ⟨by (with_reducible repeat (first | refine blk_drewN ?_ _ | refine blk_drew ?_ | refine blk_alloc ?_ _)); exact BK233.out⟩, ⟨by (with_reducible repeat (first | refine blk_drewN ?_ _ | refine blk_drew ?_ | refine blk_alloc ?_ _)); exact BK244.out⟩, ⟨by repeat (first | (with_reducible first | exact HB.out | apply below_alloc | apply pw_below_drewN | apply below_drew1 | refine below_set ?_ GE233.out | refine below_set ?_ GE244.out) | exact HB.out)⟩⟩
                              · rw [if_neg c84] at H
                                have c84b0 : (t249 == 1) = false := beq_eq_false_iff_ne.mpr c84
                                have c84b1 : (t249 != 1) = true := bne_iff_ne.mpr c84
                                have H' := Aside0.mk H
                                clear H
                                have hnb89 := NB244_233.out
                                have hnc89 := NB233_244.out
                                obtain ⟨hcz90_0, hcz90_1, hcz90_2, hcz90_3, hcz90_4, hcz90_5, hcz90_6, hcz90_7, hfz90_0, hfz90_1, hfz90_2, hfz90_3, hfz90_4, hfz90_5, hfz90_6, hfz90_7⟩ := blkc8 BK244.out
                                go_wp2_with (first | ((with_reducible refine gate_callee (f := 18) rfl ?_); refine goesL_ (some 55) rfl rfl Try.func18 (by kernel_rfl) rfl #[.agg #[.int .i64 t235, .int .u32 t236, .int .u32 t237, .int .i64 t238, .int .u8 t239, .int .i64 t240, .bool false, .bool t242]] rfl (by (try simp only [List.map_toArray, List.map_cons, List.map_nil]); first | done | rfl | (simp only [List.length_drop, List.length_take]; rfl)) ?_; (with_reducible refine (rec_Check.calls kj5 t235 t236 t237 t238 t239 t240 false t242 t251 _ A30.out).mono ?_); rintro e w91 ⟨rfl, hb⟩; refine ⟨_, rfl, ?_⟩; have n0_ := Aside0.mk (blk_below (g := gb233) (o := .cells #[.int .i64 a0_0, .int .u32 a0_1, .int .u32 a0_2, .int .i64 a0_3, .int .u8 a0_4, .int .i64 a0_5, .bool a0_6, .bool a0_7] 24 (0, 0)) (by (with_reducible repeat (first | refine blk_drewN ?_ _ | refine blk_drew ?_ | refine blk_alloc ?_ _)); exact BK233.out) hb); have n1_ := Aside0.mk (blk_below (g := gb244) (o := .cells #[.int .i64 t235, .int .u32 t236, .int .u32 t237, .int .i64 t238, .int .u8 t239, .int .i64 t240, .bool false, .bool t242] 24 (0, 0)) (by (with_reducible repeat (first | refine blk_drewN ?_ _ | refine blk_drew ?_ | refine blk_alloc ?_ _)); exact BK244.out) hb); have n2_ := Aside0.mk (below_step (by repeat (first | (with_reducible first | exact HB.out | apply below_alloc | apply pw_below_drewN | apply below_drew1 | refine below_set ?_ GE233.out | refine below_set ?_ GE244.out) | exact HB.out)) hb); clear BK233; clear BK244; clear HB; have BK233 := n0_; have BK244 := n1_; have HB := n2_; clear n0_ n1_ n2_; (try clear hb); (try clear hb2); (try clear hk); (try clear hi); obtain ⟨hcz92_0, hcz92_1, hcz92_2, hcz92_3, hcz92_4, hcz92_5, hcz92_6, hcz92_7, hfz92_0, hfz92_1, hfz92_2, hfz92_3, hfz92_4, hfz92_5, hfz92_6, hfz92_7⟩ := blkc8 BK244.out))
                                (first | go_meet | (refine Go.Met.intro ?_; go_step; (repeat apply Exists.intro); refine ⟨?rel, ?eqf⟩; case eqf => ((try rw [c31b0]); (first | done | rfl))))
                                case rel => exact ⟨_, (false), (by first | rfl | (simp; done) | (simp [*]; done)), H', ⟨by have := HJ5.out; first | omega | exact Nat.le_refl _⟩, ⟨by (with_reducible repeat (first | refine blk_drewN ?_ _ | refine blk_drew ?_ | refine blk_alloc ?_ _)); exact BK233.out⟩, ⟨by (with_reducible repeat (first | refine blk_drewN ?_ _ | refine blk_drew ?_ | refine blk_alloc ?_ _)); exact BK244.out⟩, ⟨by repeat (first | (with_reducible first | exact HB.out | apply below_alloc | apply pw_below_drewN | apply below_drew1 | refine below_set ?_ GE233.out | refine below_set ?_ GE244.out) | exact HB.out)⟩⟩
                          · rw [if_neg c78] at H
                            have c78b0 : (t249 == 0) = false := beq_eq_false_iff_ne.mpr c78
                            have c78b1 : (t249 != 0) = true := bne_iff_ne.mpr c78
                            by_cases c93 : t249 = 1
                            · rw [if_pos c93] at H
                              have c93b0 : (t249 == 1) = true := beq_iff_eq.mpr c93
                              have c93b1 : (t249 != 1) = false := bne_eq_false_iff_eq.mpr c93
                              clear c93
                              have H' := Aside0.mk H
                              clear H
                              have hnb94 := NB244_233.out
                              have hnc94 := NB233_244.out
                              obtain ⟨hcz95_0, hcz95_1, hcz95_2, hcz95_3, hcz95_4, hcz95_5, hcz95_6, hcz95_7, hfz95_0, hfz95_1, hfz95_2, hfz95_3, hfz95_4, hfz95_5, hfz95_6, hfz95_7⟩ := blkc8 BK244.out
                              go_wp2_with (first | ((with_reducible refine gate_callee (f := 18) rfl ?_); refine goesL_ (some 55) rfl rfl Try.func18 (by kernel_rfl) rfl #[.agg #[.int .i64 t235, .int .u32 t236, .int .u32 t237, .int .i64 t238, .int .u8 t239, .int .i64 t240, .bool t241, .bool t242]] rfl (by (try simp only [List.map_toArray, List.map_cons, List.map_nil]); first | done | rfl | (simp only [List.length_drop, List.length_take]; rfl)) ?_; (with_reducible refine (rec_Check.calls kj5 t235 t236 t237 t238 t239 t240 t241 t242 t251 _ A30.out).mono ?_); rintro e w96 ⟨rfl, hb⟩; refine ⟨_, rfl, ?_⟩; have n0_ := Aside0.mk (blk_below (g := gb233) (o := .cells #[.int .i64 a0_0, .int .u32 a0_1, .int .u32 a0_2, .int .i64 a0_3, .int .u8 a0_4, .int .i64 a0_5, .bool a0_6, .bool a0_7] 24 (0, 0)) (by (with_reducible repeat (first | refine blk_drewN ?_ _ | refine blk_drew ?_ | refine blk_alloc ?_ _)); exact BK233.out) hb); have n1_ := Aside0.mk (blk_below (g := gb244) (o := .cells #[.int .i64 t235, .int .u32 t236, .int .u32 t237, .int .i64 t238, .int .u8 t239, .int .i64 t240, .bool t241, .bool t242] 24 (0, 0)) (by (with_reducible repeat (first | refine blk_drewN ?_ _ | refine blk_drew ?_ | refine blk_alloc ?_ _)); exact BK244.out) hb); have n2_ := Aside0.mk (below_step (by repeat (first | (with_reducible first | exact HB.out | apply below_alloc | apply pw_below_drewN | apply below_drew1 | refine below_set ?_ GE233.out | refine below_set ?_ GE244.out) | exact HB.out)) hb); clear BK233; clear BK244; clear HB; have BK233 := n0_; have BK244 := n1_; have HB := n2_; clear n0_ n1_ n2_; (try clear hb); (try clear hb2); (try clear hk); (try clear hi); obtain ⟨hcz97_0, hcz97_1, hcz97_2, hcz97_3, hcz97_4, hcz97_5, hcz97_6, hcz97_7, hfz97_0, hfz97_1, hfz97_2, hfz97_3, hfz97_4, hfz97_5, hfz97_6, hfz97_7⟩ := blkc8 BK244.out))
                              (first | go_meet | (refine Go.Met.intro ?_; go_step; (repeat apply Exists.intro); refine ⟨?rel, ?eqf⟩; case eqf => ((try rw [c31b0]); (first | done | rfl))))
                              case rel => exact ⟨_, (!t247), (by first | rfl | (simp; done) | (simp [*]; done)), H', ⟨by have := HJ5.out; first | omega | exact Nat.le_refl _⟩, ⟨by (with_reducible repeat (first | refine blk_drewN ?_ _ | refine blk_drew ?_ | refine blk_alloc ?_ _)); exact BK233.out⟩, ⟨by (with_reducible repeat (first | refine blk_drewN ?_ _ | refine blk_drew ?_ | refine blk_alloc ?_ _)); exact BK244.out⟩, ⟨by repeat (first | (with_reducible first | exact HB.out | apply below_alloc | apply pw_below_drewN | apply below_drew1 | refine below_set ?_ GE233.out | refine below_set ?_ GE244.out) | exact HB.out)⟩⟩
                            · rw [if_neg c93] at H
                              have c93b0 : (t249 == 1) = false := beq_eq_false_iff_ne.mpr c93
                              have c93b1 : (t249 != 1) = true := bne_iff_ne.mpr c93
                              have H' := Aside0.mk H
                              clear H
                              have hnb98 := NB244_233.out
                              have hnc98 := NB233_244.out
                              obtain ⟨hcz99_0, hcz99_1, hcz99_2, hcz99_3, hcz99_4, hcz99_5, hcz99_6, hcz99_7, hfz99_0, hfz99_1, hfz99_2, hfz99_3, hfz99_4, hfz99_5, hfz99_6, hfz99_7⟩ := blkc8 BK244.out
                              go_wp2_with (first | ((with_reducible refine gate_callee (f := 18) rfl ?_); refine goesL_ (some 55) rfl rfl Try.func18 (by kernel_rfl) rfl #[.agg #[.int .i64 t235, .int .u32 t236, .int .u32 t237, .int .i64 t238, .int .u8 t239, .int .i64 t240, .bool t241, .bool t242]] rfl (by (try simp only [List.map_toArray, List.map_cons, List.map_nil]); first | done | rfl | (simp only [List.length_drop, List.length_take]; rfl)) ?_; (with_reducible refine (rec_Check.calls kj5 t235 t236 t237 t238 t239 t240 t241 t242 t251 _ A30.out).mono ?_); rintro e w100 ⟨rfl, hb⟩; refine ⟨_, rfl, ?_⟩; have n0_ := Aside0.mk (blk_below (g := gb233) (o := .cells #[.int .i64 a0_0, .int .u32 a0_1, .int .u32 a0_2, .int .i64 a0_3, .int .u8 a0_4, .int .i64 a0_5, .bool a0_6, .bool a0_7] 24 (0, 0)) (by (with_reducible repeat (first | refine blk_drewN ?_ _ | refine blk_drew ?_ | refine blk_alloc ?_ _)); exact BK233.out) hb); have n1_ := Aside0.mk (blk_below (g := gb244) (o := .cells #[.int .i64 t235, .int .u32 t236, .int .u32 t237, .int .i64 t238, .int .u8 t239, .int .i64 t240, .bool t241, .bool t242] 24 (0, 0)) (by (with_reducible repeat (first | refine blk_drewN ?_ _ | refine blk_drew ?_ | refine blk_alloc ?_ _)); exact BK244.out) hb); have n2_ := Aside0.mk (below_step (by repeat (first | (with_reducible first | exact HB.out | apply below_alloc | apply pw_below_drewN | apply below_drew1 | refine below_set ?_ GE233.out | refine below_set ?_ GE244.out) | exact HB.out)) hb); clear BK233; clear BK244; clear HB; have BK233 := n0_; have BK244 := n1_; have HB := n2_; clear n0_ n1_ n2_; (try clear hb); (try clear hb2); (try clear hk); (try clear hi); obtain ⟨hcz101_0, hcz101_1, hcz101_2, hcz101_3, hcz101_4, hcz101_5, hcz101_6, hcz101_7, hfz101_0, hfz101_1, hfz101_2, hfz101_3, hfz101_4, hfz101_5, hfz101_6, hfz101_7⟩ := blkc8 BK244.out))
                              (first | go_meet | (refine Go.Met.intro ?_; go_step; (repeat apply Exists.intro); refine ⟨?rel, ?eqf⟩; case eqf => ((try rw [c31b0]); (first | done | rfl))))
                              case rel => exact ⟨_, (false), (by first | rfl | (simp; done) | (simp [*]; done)), H', ⟨by have := HJ5.out; first | omega | exact Nat.le_refl _⟩, ⟨by (with_reducible repeat (first | refine blk_drewN ?_ _ | refine blk_drew ?_ | refine blk_alloc ?_ _)); exact BK233.out⟩, ⟨by (with_reducible repeat (first | refine blk_drewN ?_ _ | refine blk_drew ?_ | refine blk_alloc ?_ _)); exact BK244.out⟩, ⟨by repeat (first | (with_reducible first | exact HB.out | apply below_alloc | apply pw_below_drewN | apply below_drew1 | refine below_set ?_ GE233.out | refine below_set ?_ GE244.out) | exact HB.out)⟩⟩
                · rw [if_neg c34] at H
                  have c34b0 : (t250 == 0) = false := beq_eq_false_iff_ne.mpr c34
                  have c34b1 : (t250 != 0) = true := bne_iff_ne.mpr c34
                  have H' := Aside0.mk H
                  clear H
                  have hnb102 := NB244_233.out
                  have hnc102 := NB233_244.out
                  obtain ⟨hcz103_0, hcz103_1, hcz103_2, hcz103_3, hcz103_4, hcz103_5, hcz103_6, hcz103_7, hfz103_0, hfz103_1, hfz103_2, hfz103_3, hfz103_4, hfz103_5, hfz103_6, hfz103_7⟩ := blkc8 BK244.out
                  go_wp2_with (first | ((with_reducible refine gate_callee (f := 18) rfl ?_); refine goesL_ (some 55) rfl rfl Try.func18 (by kernel_rfl) rfl #[.agg #[.int .i64 t235, .int .u32 t236, .int .u32 t237, .int .i64 t238, .int .u8 t239, .int .i64 t240, .bool t241, .bool t242]] rfl (by (try simp only [List.map_toArray, List.map_cons, List.map_nil]); first | done | rfl | (simp only [List.length_drop, List.length_take]; rfl)) ?_; (with_reducible refine (rec_Check.calls kj5 t235 t236 t237 t238 t239 t240 t241 t242 t251 _ A30.out).mono ?_); rintro e w104 ⟨rfl, hb⟩; refine ⟨_, rfl, ?_⟩; have n0_ := Aside0.mk (blk_below (g := gb233) (o := .cells #[.int .i64 a0_0, .int .u32 a0_1, .int .u32 a0_2, .int .i64 a0_3, .int .u8 a0_4, .int .i64 a0_5, .bool a0_6, .bool a0_7] 24 (0, 0)) (by (with_reducible repeat (first | refine blk_drewN ?_ _ | refine blk_drew ?_ | refine blk_alloc ?_ _)); exact BK233.out) hb); have n1_ := Aside0.mk (blk_below (g := gb244) (o := .cells #[.int .i64 t235, .int .u32 t236, .int .u32 t237, .int .i64 t238, .int .u8 t239, .int .i64 t240, .bool t241, .bool t242] 24 (0, 0)) (by (with_reducible repeat (first | refine blk_drewN ?_ _ | refine blk_drew ?_ | refine blk_alloc ?_ _)); exact BK244.out) hb); have n2_ := Aside0.mk (below_step (by repeat (first | (with_reducible first | exact HB.out | apply below_alloc | apply pw_below_drewN | apply below_drew1 | refine below_set ?_ GE233.out | refine below_set ?_ GE244.out) | exact HB.out)) hb); clear BK233; clear BK244; clear HB; have BK233 := n0_; have BK244 := n1_; have HB := n2_; clear n0_ n1_ n2_; (try clear hb); (try clear hb2); (try clear hk); (try clear hi)))
                  (first | go_meet | (refine Go.Met.intro ?_; go_step; (repeat apply Exists.intro); refine ⟨?rel, ?eqf⟩; case eqf => ((try rw [c31b0]); (first | done | rfl))))
                  case rel => exact ⟨_, (true), (by first | rfl | (simp; done) | (simp [*]; done)), H', ⟨by have := HJ5.out; first | omega | exact Nat.le_refl _⟩, ⟨by (with_reducible repeat (first | refine blk_drewN ?_ _ | refine blk_drew ?_ | refine blk_alloc ?_ _)); exact BK233.out⟩, ⟨by (with_reducible repeat (first | refine blk_drewN ?_ _ | refine blk_drew ?_ | refine blk_alloc ?_ _)); exact BK244.out⟩, ⟨by repeat (first | (with_reducible first | exact HB.out | apply below_alloc | apply pw_below_drewN | apply below_drew1 | refine below_set ?_ GE233.out | refine below_set ?_ GE244.out) | exact HB.out)⟩⟩
              · rw [if_neg c33] at H
                have c33b0 : (t248 == 0) = false := beq_eq_false_iff_ne.mpr c33
                have c33b1 : (t248 != 0) = true := bne_iff_ne.mpr c33
                have H' := Aside0.mk H
                clear H
                have hnb105 := NB244_233.out
                have hnc105 := NB233_244.out
                obtain ⟨hcz106_0, hcz106_1, hcz106_2, hcz106_3, hcz106_4, hcz106_5, hcz106_6, hcz106_7, hfz106_0, hfz106_1, hfz106_2, hfz106_3, hfz106_4, hfz106_5, hfz106_6, hfz106_7⟩ := blkc8 BK244.out
                go_wp2_with (first | ((with_reducible refine gate_callee (f := 18) rfl ?_); refine goesL_ (some 55) rfl rfl Try.func18 (by kernel_rfl) rfl #[.agg #[.int .i64 t235, .int .u32 t236, .int .u32 t237, .int .i64 t238, .int .u8 t239, .int .i64 t240, .bool t241, .bool t242]] rfl (by (try simp only [List.map_toArray, List.map_cons, List.map_nil]); first | done | rfl | (simp only [List.length_drop, List.length_take]; rfl)) ?_; (with_reducible refine (rec_Check.calls kj5 t235 t236 t237 t238 t239 t240 t241 t242 t251 _ A30.out).mono ?_); rintro e w107 ⟨rfl, hb⟩; refine ⟨_, rfl, ?_⟩; have n0_ := Aside0.mk (blk_below (g := gb233) (o := .cells #[.int .i64 a0_0, .int .u32 a0_1, .int .u32 a0_2, .int .i64 a0_3, .int .u8 a0_4, .int .i64 a0_5, .bool a0_6, .bool a0_7] 24 (0, 0)) (by (with_reducible repeat (first | refine blk_drewN ?_ _ | refine blk_drew ?_ | refine blk_alloc ?_ _)); exact BK233.out) hb); have n1_ := Aside0.mk (blk_below (g := gb244) (o := .cells #[.int .i64 t235, .int .u32 t236, .int .u32 t237, .int .i64 t238, .int .u8 t239, .int .i64 t240, .bool t241, .bool t242] 24 (0, 0)) (by (with_reducible repeat (first | refine blk_drewN ?_ _ | refine blk_drew ?_ | refine blk_alloc ?_ _)); exact BK244.out) hb); have n2_ := Aside0.mk (below_step (by repeat (first | (with_reducible first | exact HB.out | apply below_alloc | apply pw_below_drewN | apply below_drew1 | refine below_set ?_ GE233.out | refine below_set ?_ GE244.out) | exact HB.out)) hb); clear BK233; clear BK244; clear HB; have BK233 := n0_; have BK244 := n1_; have HB := n2_; clear n0_ n1_ n2_; (try clear hb); (try clear hb2); (try clear hk); (try clear hi)))
                (first | go_meet | (refine Go.Met.intro ?_; go_step; (repeat apply Exists.intro); refine ⟨?rel, ?eqf⟩; case eqf => ((try rw [c31b0]); (first | done | rfl))))
                case rel => exact ⟨_, (true), (by first | rfl | (simp; done) | (simp [*]; done)), H', ⟨by have := HJ5.out; first | omega | exact Nat.le_refl _⟩, ⟨by (with_reducible repeat (first | refine blk_drewN ?_ _ | refine blk_drew ?_ | refine blk_alloc ?_ _)); exact BK233.out⟩, ⟨by (with_reducible repeat (first | refine blk_drewN ?_ _ | refine blk_drew ?_ | refine blk_alloc ?_ _)); exact BK244.out⟩, ⟨by repeat (first | (with_reducible first | exact HB.out | apply below_alloc | apply pw_below_drewN | apply below_drew1 | refine below_set ?_ GE233.out | refine below_set ?_ GE244.out) | exact HB.out)⟩⟩
            · rw [if_neg c32] at H
              have c32b0 : (t246 == 0) = false := beq_eq_false_iff_ne.mpr c32
              have c32b1 : (t246 != 0) = true := bne_iff_ne.mpr c32
              have H' := Aside0.mk H
              clear H
              have hnb108 := NB244_233.out
              have hnc108 := NB233_244.out
              obtain ⟨hcz109_0, hcz109_1, hcz109_2, hcz109_3, hcz109_4, hcz109_5, hcz109_6, hcz109_7, hfz109_0, hfz109_1, hfz109_2, hfz109_3, hfz109_4, hfz109_5, hfz109_6, hfz109_7⟩ := blkc8 BK244.out
              go_wp2_with (first | ((with_reducible refine gate_callee (f := 18) rfl ?_); refine goesL_ (some 55) rfl rfl Try.func18 (by kernel_rfl) rfl #[.agg #[.int .i64 t235, .int .u32 t236, .int .u32 t237, .int .i64 t238, .int .u8 t239, .int .i64 t240, .bool t241, .bool t242]] rfl (by (try simp only [List.map_toArray, List.map_cons, List.map_nil]); first | done | rfl | (simp only [List.length_drop, List.length_take]; rfl)) ?_; (with_reducible refine (rec_Check.calls kj5 t235 t236 t237 t238 t239 t240 t241 t242 t251 _ A30.out).mono ?_); rintro e w110 ⟨rfl, hb⟩; refine ⟨_, rfl, ?_⟩; have n0_ := Aside0.mk (blk_below (g := gb233) (o := .cells #[.int .i64 a0_0, .int .u32 a0_1, .int .u32 a0_2, .int .i64 a0_3, .int .u8 a0_4, .int .i64 a0_5, .bool a0_6, .bool a0_7] 24 (0, 0)) (by (with_reducible repeat (first | refine blk_drewN ?_ _ | refine blk_drew ?_ | refine blk_alloc ?_ _)); exact BK233.out) hb); have n1_ := Aside0.mk (blk_below (g := gb244) (o := .cells #[.int .i64 t235, .int .u32 t236, .int .u32 t237, .int .i64 t238, .int .u8 t239, .int .i64 t240, .bool t241, .bool t242] 24 (0, 0)) (by (with_reducible repeat (first | refine blk_drewN ?_ _ | refine blk_drew ?_ | refine blk_alloc ?_ _)); exact BK244.out) hb); have n2_ := Aside0.mk (below_step (by repeat (first | (with_reducible first | exact HB.out | apply below_alloc | apply pw_below_drewN | apply below_drew1 | refine below_set ?_ GE233.out | refine below_set ?_ GE244.out) | exact HB.out)) hb); clear BK233; clear BK244; clear HB; have BK233 := n0_; have BK244 := n1_; have HB := n2_; clear n0_ n1_ n2_; (try clear hb); (try clear hb2); (try clear hk); (try clear hi)))
              (first | go_meet | (refine Go.Met.intro ?_; go_step; (repeat apply Exists.intro); refine ⟨?rel, ?eqf⟩; case eqf => ((try rw [c31b0]); (first | done | rfl))))
              case rel => exact ⟨_, (true), (by first | rfl | (simp; done) | (simp [*]; done)), H', ⟨by have := HJ5.out; first | omega | exact Nat.le_refl _⟩, ⟨by (with_reducible repeat (first | refine blk_drewN ?_ _ | refine blk_drew ?_ | refine blk_alloc ?_ _)); exact BK233.out⟩, ⟨by (with_reducible repeat (first | refine blk_drewN ?_ _ | refine blk_drew ?_ | refine blk_alloc ?_ _)); exact BK244.out⟩, ⟨by repeat (first | (with_reducible first | exact HB.out | apply below_alloc | apply pw_below_drewN | apply below_drew1 | refine below_set ?_ GE233.out | refine below_set ?_ GE244.out) | exact HB.out)⟩⟩
          · rw [if_neg c31] at H
            have c31b0 : (t251 == 0) = false := beq_eq_false_iff_ne.mpr c31
            have c31b1 : (t251 != 0) = true := bne_iff_ne.mpr c31
            (first | rw [c31b0] | (simp only [i64_w, i32_w]; rw [c31b0]) | skip)
            have H' := Aside0.mk H
            clear H
            have hnb111 := NB244_233.out
            have hnc111 := NB233_244.out
            obtain ⟨hcz112_0, hcz112_1, hcz112_2, hcz112_3, hcz112_4, hcz112_5, hcz112_6, hcz112_7, hfz112_0, hfz112_1, hfz112_2, hfz112_3, hfz112_4, hfz112_5, hfz112_6, hfz112_7⟩ := blkc8 BK244.out
            go_wp2_with (first | ((with_reducible refine gate_callee (f := 18) rfl ?_); refine goesL_ (some 55) rfl rfl Try.func18 (by kernel_rfl) rfl #[.agg #[.int .i64 t235, .int .u32 t236, .int .u32 t237, .int .i64 t238, .int .u8 t239, .int .i64 t240, .bool t241, .bool t242]] rfl (by (try simp only [List.map_toArray, List.map_cons, List.map_nil]); first | done | rfl | (simp only [List.length_drop, List.length_take]; rfl)) ?_; (with_reducible refine (rec_Check.calls kj5 t235 t236 t237 t238 t239 t240 t241 t242 t251 _ A30.out).mono ?_); rintro e w113 ⟨rfl, hb⟩; refine ⟨_, rfl, ?_⟩; have n0_ := Aside0.mk (blk_below (g := gb233) (o := .cells #[.int .i64 a0_0, .int .u32 a0_1, .int .u32 a0_2, .int .i64 a0_3, .int .u8 a0_4, .int .i64 a0_5, .bool a0_6, .bool a0_7] 24 (0, 0)) (by (with_reducible repeat (first | refine blk_drewN ?_ _ | refine blk_drew ?_ | refine blk_alloc ?_ _)); exact BK233.out) hb); have n1_ := Aside0.mk (blk_below (g := gb244) (o := .cells #[.int .i64 t235, .int .u32 t236, .int .u32 t237, .int .i64 t238, .int .u8 t239, .int .i64 t240, .bool t241, .bool t242] 24 (0, 0)) (by (with_reducible repeat (first | refine blk_drewN ?_ _ | refine blk_drew ?_ | refine blk_alloc ?_ _)); exact BK244.out) hb); have n2_ := Aside0.mk (below_step (by repeat (first | (with_reducible first | exact HB.out | apply below_alloc | apply pw_below_drewN | apply below_drew1 | refine below_set ?_ GE233.out | refine below_set ?_ GE244.out) | exact HB.out)) hb); clear BK233; clear BK244; clear HB; have BK233 := n0_; have BK244 := n1_; have HB := n2_; clear n0_ n1_ n2_; (try clear hb); (try clear hb2); (try clear hk); (try clear hi)))
            (first | go_meet | (refine Go.Met.intro ?_; go_step; (repeat apply Exists.intro); refine ⟨?rel, ?eqf⟩; case eqf => ((try rw [c31b0]); (first | done | rfl))))
            case rel => exact ⟨_, (true), (by first | rfl | (simp; done) | (simp [*]; done)), H', ⟨by have := HJ5.out; first | omega | exact Nat.le_refl _⟩, ⟨by (with_reducible repeat (first | refine blk_drewN ?_ _ | refine blk_drew ?_ | refine blk_alloc ?_ _)); exact BK233.out⟩, ⟨by (with_reducible repeat (first | refine blk_drewN ?_ _ | refine blk_drew ?_ | refine blk_alloc ?_ _)); exact BK244.out⟩, ⟨by repeat (first | (with_reducible first | exact HB.out | apply below_alloc | apply pw_below_drewN | apply below_drew1 | refine below_set ?_ GE233.out | refine below_set ?_ GE244.out) | exact HB.out)⟩⟩
        case rest =>
          clear HC22
          try clear c1
          try clear c2
          try clear p2
          try clear c3
          try clear c4
          try clear c5
          try clear c6
          try clear c7
          try clear c8
          try clear c9
          try clear c10
          try clear c11
          try clear c12
          try clear c14
          try clear c14b0
          try clear c14b1
          try clear c15
          try clear c16
          try clear c17
          try clear c18
          try clear c20
          try clear c23
          try clear c26
          try clear c28
          try clear c30
          try clear c31
          try clear c31b0
          try clear c31b1
          try clear c32
          try clear c32b0
          try clear c32b1
          try clear c33
          try clear c33b0
          try clear c33b1
          try clear c34
          try clear c34b0
          try clear c34b1
          try clear c35
          try clear c35b0
          try clear c36
          try clear c39
          try clear c39b0
          try clear c40
          try clear c43
          try clear c43b0
          try clear c43b1
          try clear c44
          try clear c44b0
          try clear c44b1
          try clear c44b2
          try clear c45
          try clear c49
          try clear c49b0
          try clear c49b1
          try clear c50
          try clear c51
          try clear c55
          try clear c55b0
          try clear c55b1
          try clear c56
          try clear c60
          try clear c64
          try clear c64b0
          try clear c64b1
          try clear c65
          try clear c69
          try clear c73
          try clear c73b0
          try clear c73b1
          try clear c73b2
          try clear c74
          try clear c78
          try clear c78b0
          try clear c78b1
          try clear c79
          try clear c80
          try clear c84
          try clear c84b0
          try clear c84b1
          try clear c85
          try clear c89
          try clear c93
          try clear c93b0
          try clear c93b1
          try clear c94
          try clear c98
          try clear c102
          try clear c105
          try clear c108
          try clear c111
          try clear hcz101_0 hcz101_1 hcz101_2 hcz101_3 hcz101_4 hcz101_5 hcz101_6 hcz101_7
          try clear hcz103_0 hcz103_1 hcz103_2 hcz103_3 hcz103_4 hcz103_5 hcz103_6 hcz103_7
          try clear hcz106_0 hcz106_1 hcz106_2 hcz106_3 hcz106_4 hcz106_5 hcz106_6 hcz106_7
          try clear hcz109_0 hcz109_1 hcz109_2 hcz109_3 hcz109_4 hcz109_5 hcz109_6 hcz109_7
          try clear hcz112_0 hcz112_1 hcz112_2 hcz112_3 hcz112_4 hcz112_5 hcz112_6 hcz112_7
          try clear hcz13_0 hcz13_1 hcz13_2 hcz13_3 hcz13_4 hcz13_5 hcz13_6 hcz13_7
          try clear hcz18_0 hcz18_1 hcz18_2 hcz18_3 hcz18_4 hcz18_5 hcz18_6 hcz18_7
          try clear hcz24_0 hcz24_1 hcz24_2 hcz24_3 hcz24_4 hcz24_5 hcz24_6 hcz24_7
          try clear hcz26_0 hcz26_1 hcz26_2 hcz26_3 hcz26_4 hcz26_5 hcz26_6 hcz26_7
          try clear hcz28_0 hcz28_1 hcz28_2 hcz28_3 hcz28_4 hcz28_5 hcz28_6 hcz28_7
          try clear hcz37_0 hcz37_1 hcz37_2 hcz37_3 hcz37_4 hcz37_5 hcz37_6 hcz37_7
          try clear hcz41_0 hcz41_1 hcz41_2 hcz41_3 hcz41_4 hcz41_5 hcz41_6 hcz41_7
          try clear hcz46_0 hcz46_1 hcz46_2 hcz46_3 hcz46_4 hcz46_5 hcz46_6 hcz46_7
          try clear hcz48_0 hcz48_1 hcz48_2 hcz48_3 hcz48_4 hcz48_5 hcz48_6 hcz48_7
          try clear hcz52_0 hcz52_1 hcz52_2 hcz52_3 hcz52_4 hcz52_5 hcz52_6 hcz52_7
          try clear hcz54_0 hcz54_1 hcz54_2 hcz54_3 hcz54_4 hcz54_5 hcz54_6 hcz54_7
          try clear hcz57_0 hcz57_1 hcz57_2 hcz57_3 hcz57_4 hcz57_5 hcz57_6 hcz57_7
          try clear hcz59_0 hcz59_1 hcz59_2 hcz59_3 hcz59_4 hcz59_5 hcz59_6 hcz59_7
          try clear hcz61_0 hcz61_1 hcz61_2 hcz61_3 hcz61_4 hcz61_5 hcz61_6 hcz61_7
          try clear hcz63_0 hcz63_1 hcz63_2 hcz63_3 hcz63_4 hcz63_5 hcz63_6 hcz63_7
          try clear hcz66_0 hcz66_1 hcz66_2 hcz66_3 hcz66_4 hcz66_5 hcz66_6 hcz66_7
          try clear hcz68_0 hcz68_1 hcz68_2 hcz68_3 hcz68_4 hcz68_5 hcz68_6 hcz68_7
          try clear hcz70_0 hcz70_1 hcz70_2 hcz70_3 hcz70_4 hcz70_5 hcz70_6 hcz70_7
          try clear hcz72_0 hcz72_1 hcz72_2 hcz72_3 hcz72_4 hcz72_5 hcz72_6 hcz72_7
          try clear hcz75_0 hcz75_1 hcz75_2 hcz75_3 hcz75_4 hcz75_5 hcz75_6 hcz75_7
          try clear hcz77_0 hcz77_1 hcz77_2 hcz77_3 hcz77_4 hcz77_5 hcz77_6 hcz77_7
          try clear hcz81_0 hcz81_1 hcz81_2 hcz81_3 hcz81_4 hcz81_5 hcz81_6 hcz81_7
          try clear hcz83_0 hcz83_1 hcz83_2 hcz83_3 hcz83_4 hcz83_5 hcz83_6 hcz83_7
          try clear hcz86_0 hcz86_1 hcz86_2 hcz86_3 hcz86_4 hcz86_5 hcz86_6 hcz86_7
          try clear hcz88_0 hcz88_1 hcz88_2 hcz88_3 hcz88_4 hcz88_5 hcz88_6 hcz88_7
          try clear hcz9_0 hcz9_1 hcz9_2 hcz9_3 hcz9_4 hcz9_5 hcz9_6 hcz9_7
          try clear hcz90_0 hcz90_1 hcz90_2 hcz90_3 hcz90_4 hcz90_5 hcz90_6 hcz90_7
          try clear hcz92_0 hcz92_1 hcz92_2 hcz92_3 hcz92_4 hcz92_5 hcz92_6 hcz92_7
          try clear hcz95_0 hcz95_1 hcz95_2 hcz95_3 hcz95_4 hcz95_5 hcz95_6 hcz95_7
          try clear hcz97_0 hcz97_1 hcz97_2 hcz97_3 hcz97_4 hcz97_5 hcz97_6 hcz97_7
          try clear hcz99_0 hcz99_1 hcz99_2 hcz99_3 hcz99_4 hcz99_5 hcz99_6 hcz99_7
          try clear hfz101_0 hfz101_1 hfz101_2 hfz101_3 hfz101_4 hfz101_5 hfz101_6 hfz101_7
          try clear hfz103_0 hfz103_1 hfz103_2 hfz103_3 hfz103_4 hfz103_5 hfz103_6 hfz103_7
          try clear hfz106_0 hfz106_1 hfz106_2 hfz106_3 hfz106_4 hfz106_5 hfz106_6 hfz106_7
          try clear hfz109_0 hfz109_1 hfz109_2 hfz109_3 hfz109_4 hfz109_5 hfz109_6 hfz109_7
          try clear hfz112_0 hfz112_1 hfz112_2 hfz112_3 hfz112_4 hfz112_5 hfz112_6 hfz112_7
          try clear hfz13_0 hfz13_1 hfz13_2 hfz13_3 hfz13_4 hfz13_5 hfz13_6 hfz13_7
          try clear hfz18_0 hfz18_1 hfz18_2 hfz18_3 hfz18_4 hfz18_5 hfz18_6 hfz18_7
          try clear hfz24_0 hfz24_1 hfz24_2 hfz24_3 hfz24_4 hfz24_5 hfz24_6 hfz24_7
          try clear hfz26_0 hfz26_1 hfz26_2 hfz26_3 hfz26_4 hfz26_5 hfz26_6 hfz26_7
          try clear hfz28_0 hfz28_1 hfz28_2 hfz28_3 hfz28_4 hfz28_5 hfz28_6 hfz28_7
          try clear hfz37_0 hfz37_1 hfz37_2 hfz37_3 hfz37_4 hfz37_5 hfz37_6 hfz37_7
          try clear hfz41_0 hfz41_1 hfz41_2 hfz41_3 hfz41_4 hfz41_5 hfz41_6 hfz41_7
          try clear hfz46_0 hfz46_1 hfz46_2 hfz46_3 hfz46_4 hfz46_5 hfz46_6 hfz46_7
          try clear hfz48_0 hfz48_1 hfz48_2 hfz48_3 hfz48_4 hfz48_5 hfz48_6 hfz48_7
          try clear hfz52_0 hfz52_1 hfz52_2 hfz52_3 hfz52_4 hfz52_5 hfz52_6 hfz52_7
          try clear hfz54_0 hfz54_1 hfz54_2 hfz54_3 hfz54_4 hfz54_5 hfz54_6 hfz54_7
          try clear hfz57_0 hfz57_1 hfz57_2 hfz57_3 hfz57_4 hfz57_5 hfz57_6 hfz57_7
          try clear hfz59_0 hfz59_1 hfz59_2 hfz59_3 hfz59_4 hfz59_5 hfz59_6 hfz59_7
          try clear hfz61_0 hfz61_1 hfz61_2 hfz61_3 hfz61_4 hfz61_5 hfz61_6 hfz61_7
          try clear hfz63_0 hfz63_1 hfz63_2 hfz63_3 hfz63_4 hfz63_5 hfz63_6 hfz63_7
          try clear hfz66_0 hfz66_1 hfz66_2 hfz66_3 hfz66_4 hfz66_5 hfz66_6 hfz66_7
          try clear hfz68_0 hfz68_1 hfz68_2 hfz68_3 hfz68_4 hfz68_5 hfz68_6 hfz68_7
          try clear hfz70_0 hfz70_1 hfz70_2 hfz70_3 hfz70_4 hfz70_5 hfz70_6 hfz70_7
          try clear hfz72_0 hfz72_1 hfz72_2 hfz72_3 hfz72_4 hfz72_5 hfz72_6 hfz72_7
          try clear hfz75_0 hfz75_1 hfz75_2 hfz75_3 hfz75_4 hfz75_5 hfz75_6 hfz75_7
          try clear hfz77_0 hfz77_1 hfz77_2 hfz77_3 hfz77_4 hfz77_5 hfz77_6 hfz77_7
          try clear hfz81_0 hfz81_1 hfz81_2 hfz81_3 hfz81_4 hfz81_5 hfz81_6 hfz81_7
          try clear hfz83_0 hfz83_1 hfz83_2 hfz83_3 hfz83_4 hfz83_5 hfz83_6 hfz83_7
          try clear hfz86_0 hfz86_1 hfz86_2 hfz86_3 hfz86_4 hfz86_5 hfz86_6 hfz86_7
          try clear hfz88_0 hfz88_1 hfz88_2 hfz88_3 hfz88_4 hfz88_5 hfz88_6 hfz88_7
          try clear hfz9_0 hfz9_1 hfz9_2 hfz9_3 hfz9_4 hfz9_5 hfz9_6 hfz9_7
          try clear hfz90_0 hfz90_1 hfz90_2 hfz90_3 hfz90_4 hfz90_5 hfz90_6 hfz90_7
          try clear hfz92_0 hfz92_1 hfz92_2 hfz92_3 hfz92_4 hfz92_5 hfz92_6 hfz92_7
          try clear hfz95_0 hfz95_1 hfz95_2 hfz95_3 hfz95_4 hfz95_5 hfz95_6 hfz95_7
          try clear hfz97_0 hfz97_1 hfz97_2 hfz97_3 hfz97_4 hfz97_5 hfz97_6 hfz97_7
          try clear hfz99_0 hfz99_1 hfz99_2 hfz99_3 hfz99_4 hfz99_5 hfz99_6 hfz99_7
          try clear p2
          obtain ⟨kq, x104_21, rfl, HA, HJ21, BK233, BK244, HB⟩ := hcut
          cases kq with
          | zero => exact absurd HA.out (by simp [catamaranlaw19_StateNext.j1])
          | succ kj21 =>
            have H := HA.out
            clear HA
            simp only [catamaranlaw19_StateNext.j1] at H
            by_cases c114 : x104_21 = true
            · subst c114
              have H1 : (some false) = some r := by rw [if_pos rfl] at H; exact H
              clear H
              have H := H1
              clear H1
              exact absurd ((Option.some.inj H).trans hT_.out) (by decide)
            · replace c114 := Bool.eq_false_iff.mpr c114
              subst c114
              have H1 : ((state_Order.f kj21 a1 a0_0 a0_1 a0_2 a0_3 a0_4 a0_5 a0_6 a0_7 a2).bind fun t252 => (if t252 = 0 then ((state_Join.f kj21 a1 a0_0 a0_1 a0_2 a0_3 a0_4 a0_5 a0_6 a0_7 a2).bind fun t253 => (if t253 = 0 then (some false) else (if t234 = true then (if a2 = 8 then (if t238 = a0_3 then (if t239 = 2 then (if a2 = 7 then (some (t238 != a0_3)) else (if a2 = 6 then (some (t238 != a0_3)) else (some true))) else (some false)) else (some false)) else (if a2 = 7 then (some (t238 != a0_3)) else (if a2 = 6 then (some (t238 != a0_3)) else (some true)))) else (some false)))) else (if t234 = true then (if a2 = 8 then (if t238 = a0_3 then (if t239 = 2 then (if a2 = 7 then (some (t238 != a0_3)) else (if a2 = 6 then (some (t238 != a0_3)) else (some true))) else (some false)) else (some false)) else (if a2 = 7 then (some (t238 != a0_3)) else (if a2 = 6 then (some (t238 != a0_3)) else (some true)))) else (some false)))) = some r := by rw [if_neg (show ¬ (false = true) by decide)] at H; exact H
              clear H
              have H := H1
              clear H1
              replace H := Option.bind_eq_some_iff.mp H
              obtain ⟨t252, A1150, H⟩ := H
              replace H : (if t252 = 0 then ((state_Join.f kj21 a1 a0_0 a0_1 a0_2 a0_3 a0_4 a0_5 a0_6 a0_7 a2).bind fun t253 => (if t253 = 0 then (some false) else (if t234 = true then (if a2 = 8 then (if t238 = a0_3 then (if t239 = 2 then (if a2 = 7 then (some (t238 != a0_3)) else (if a2 = 6 then (some (t238 != a0_3)) else (some true))) else (some false)) else (some false)) else (if a2 = 7 then (some (t238 != a0_3)) else (if a2 = 6 then (some (t238 != a0_3)) else (some true)))) else (some false)))) else (if t234 = true then (if a2 = 8 then (if t238 = a0_3 then (if t239 = 2 then (if a2 = 7 then (some (t238 != a0_3)) else (if a2 = 6 then (some (t238 != a0_3)) else (some true))) else (some false)) else (some false)) else (if a2 = 7 then (some (t238 != a0_3)) else (if a2 = 6 then (some (t238 != a0_3)) else (some true)))) else (some false))) = some r := H
              have A115 := Aside0.mk A1150
              clear A1150
              by_cases c116 : t252 = 0
              · rw [if_pos c116] at H
                have c116b0 : (t252 == 0) = true := beq_iff_eq.mpr c116
                have c116b1 : (t252 != 0) = false := bne_eq_false_iff_eq.mpr c116
                clear c116
                replace H := Option.bind_eq_some_iff.mp H
                obtain ⟨t253, A1170, H⟩ := H
                replace H : (if t253 = 0 then (some false) else (if t234 = true then (if a2 = 8 then (if t238 = a0_3 then (if t239 = 2 then (if a2 = 7 then (some (t238 != a0_3)) else (if a2 = 6 then (some (t238 != a0_3)) else (some true))) else (some false)) else (some false)) else (if a2 = 7 then (some (t238 != a0_3)) else (if a2 = 6 then (some (t238 != a0_3)) else (some true)))) else (some false))) = some r := H
                have A117 := Aside0.mk A1170
                clear A1170
                by_cases c118 : t253 = 0
                · rw [if_pos c118] at H
                  have c118b0 : (t253 == 0) = true := beq_iff_eq.mpr c118
                  have c118b1 : (t253 != 0) = false := bne_eq_false_iff_eq.mpr c118
                  clear c118
                  exact absurd ((Option.some.inj H).trans hT_.out) (by decide)
                · rw [if_neg c118] at H
                  have c118b0 : (t253 == 0) = false := beq_eq_false_iff_ne.mpr c118
                  have c118b1 : (t253 != 0) = true := bne_iff_ne.mpr c118
                  by_cases c119 : t234 = true
                  · subst c119
                    have H1 : (if a2 = 8 then (if t238 = a0_3 then (if t239 = 2 then (if a2 = 7 then (some (t238 != a0_3)) else (if a2 = 6 then (some (t238 != a0_3)) else (some true))) else (some false)) else (some false)) else (if a2 = 7 then (some (t238 != a0_3)) else (if a2 = 6 then (some (t238 != a0_3)) else (some true)))) = some r := by rw [if_pos rfl] at H; exact H
                    clear H
                    have H := H1
                    clear H1
                    by_cases c120 : a2 = 8
                    · rw [if_pos c120] at H
                      have c120b0 : (a2 == 8) = true := beq_iff_eq.mpr c120
                      have c120b1 : (a2 != 8) = false := bne_eq_false_iff_eq.mpr c120
                      clear c120
                      by_cases c121 : t238 = a0_3
                      · rw [if_pos c121] at H
                        have c121b0 : (t238 == a0_3) = true := beq_iff_eq.mpr c121
                        have c121b1 : (t238 != a0_3) = false := bne_eq_false_iff_eq.mpr c121
                        clear c121
                        by_cases c122 : t239 = 2
                        · rw [if_pos c122] at H
                          have c122b0 : (t239 == 2) = true := beq_iff_eq.mpr c122
                          have c122b1 : (t239 != 2) = false := bne_eq_false_iff_eq.mpr c122
                          clear c122
                          by_cases c123 : a2 = 7
                          · rw [if_pos c123] at H
                            have c123b0 : (a2 == 7) = true := beq_iff_eq.mpr c123
                            have c123b1 : (a2 != 7) = false := bne_eq_false_iff_eq.mpr c123
                            clear c123
                            obtain rfl := Option.some.inj H
                            have hnb124 := NB233_244.out
                            have hnc124 := NB244_233.out
                            obtain ⟨hcz125_0, hcz125_1, hcz125_2, hcz125_3, hcz125_4, hcz125_5, hcz125_6, hcz125_7, hfz125_0, hfz125_1, hfz125_2, hfz125_3, hfz125_4, hfz125_5, hfz125_6, hfz125_7⟩ := blkc8 BK233.out
                            go_wp2_with (first | ((with_reducible refine gate_callee (f := 22) rfl ?_); refine goesL_ (some 108) rfl rfl Try.func22 (by kernel_rfl) rfl #[.int .i64 a1, .agg #[.int .i64 a0_0, .int .u32 a0_1, .int .u32 a0_2, .int .i64 a0_3, .int .u8 a0_4, .int .i64 a0_5, .bool a0_6, .bool a0_7], .int .u8 a2] rfl (by (try simp only [List.map_toArray, List.map_cons, List.map_nil]); first | done | rfl | (simp only [List.length_drop, List.length_take]; rfl)) ?_; (with_reducible refine (state_Order.calls kj21 a1 a0_0 a0_1 a0_2 a0_3 a0_4 a0_5 a0_6 a0_7 a2 t252 _ A115.out).mono ?_); rintro e w126 ⟨rfl, hb⟩; refine ⟨_, rfl, ?_⟩; have n0_ := Aside0.mk (blk_below (g := gb233) (o := .cells #[.int .i64 a0_0, .int .u32 a0_1, .int .u32 a0_2, .int .i64 a0_3, .int .u8 a0_4, .int .i64 a0_5, .bool a0_6, .bool a0_7] 24 (0, 0)) (by (with_reducible repeat (first | refine blk_drewN ?_ _ | refine blk_drew ?_ | refine blk_alloc ?_ _)); exact BK233.out) hb); have n1_ := Aside0.mk (blk_below (g := gb244) (o := .cells #[.int .i64 t235, .int .u32 t236, .int .u32 t237, .int .i64 t238, .int .u8 t239, .int .i64 t240, .bool t241, .bool t242] 24 (0, 0)) (by (with_reducible repeat (first | refine blk_drewN ?_ _ | refine blk_drew ?_ | refine blk_alloc ?_ _)); exact BK244.out) hb); have n2_ := Aside0.mk (below_step (by repeat (first | (with_reducible first | exact HB.out | apply below_alloc | apply pw_below_drewN | apply below_drew1 | refine below_set ?_ GE233.out | refine below_set ?_ GE244.out) | exact HB.out)) hb); clear BK233; clear BK244; clear HB; have BK233 := n0_; have BK244 := n1_; have HB := n2_; clear n0_ n1_ n2_; (try clear hb); (try clear hb2); (try clear hk); (try clear hi); obtain ⟨hcz127_0, hcz127_1, hcz127_2, hcz127_3, hcz127_4, hcz127_5, hcz127_6, hcz127_7, hfz127_0, hfz127_1, hfz127_2, hfz127_3, hfz127_4, hfz127_5, hfz127_6, hfz127_7⟩ := blkc8 BK233.out) | (go_at_call 24; (with_reducible refine (state_Join.calls kj21 a1 a0_0 a0_1 a0_2 a0_3 a0_4 a0_5 a0_6 a0_7 a2 t253 _ A117.out).mono ?_); rintro e w128 ⟨rfl, hb⟩; have n0_ := Aside0.mk (blk_below (g := gb233) (o := .cells #[.int .i64 a0_0, .int .u32 a0_1, .int .u32 a0_2, .int .i64 a0_3, .int .u8 a0_4, .int .i64 a0_5, .bool a0_6, .bool a0_7] 24 (0, 0)) (by (with_reducible repeat (first | refine blk_drewN ?_ _ | refine blk_drew ?_ | refine blk_alloc ?_ _)); exact BK233.out) hb); have n1_ := Aside0.mk (blk_below (g := gb244) (o := .cells #[.int .i64 t235, .int .u32 t236, .int .u32 t237, .int .i64 t238, .int .u8 t239, .int .i64 t240, .bool t241, .bool t242] 24 (0, 0)) (by (with_reducible repeat (first | refine blk_drewN ?_ _ | refine blk_drew ?_ | refine blk_alloc ?_ _)); exact BK244.out) hb); have n2_ := Aside0.mk (below_step (by repeat (first | (with_reducible first | exact HB.out | apply below_alloc | apply pw_below_drewN | apply below_drew1 | refine below_set ?_ GE233.out | refine below_set ?_ GE244.out) | exact HB.out)) hb); clear BK233; clear BK244; clear HB; have BK233 := n0_; have BK244 := n1_; have HB := n2_; clear n0_ n1_ n2_; (try clear hb); (try clear hb2); (try clear hk); (try clear hi); obtain ⟨hcz129_0, hcz129_1, hcz129_2, hcz129_3, hcz129_4, hcz129_5, hcz129_6, hcz129_7, hfz129_0, hfz129_1, hfz129_2, hfz129_3, hfz129_4, hfz129_5, hfz129_6, hfz129_7⟩ := blkc8 BK244.out; obtain ⟨hcz130_0, hcz130_1, hcz130_2, hcz130_3, hcz130_4, hcz130_5, hcz130_6, hcz130_7, hfz130_0, hfz130_1, hfz130_2, hfz130_3, hfz130_4, hfz130_5, hfz130_6, hfz130_7⟩ := blkc8 BK233.out))
                            go_ret
                            exact ⟨by first | rfl | (simp [errW_none, errW_some] <;> rfl) | (simp [*, errW_none, errW_some] <;> rfl), by repeat (first | (with_reducible first | exact HB.out | apply below_alloc | apply pw_below_drewN | apply below_drew1 | refine below_set ?_ GE233.out | refine below_set ?_ GE244.out) | exact HB.out)⟩
                          · rw [if_neg c123] at H
                            have c123b0 : (a2 == 7) = false := beq_eq_false_iff_ne.mpr c123
                            have c123b1 : (a2 != 7) = true := bne_iff_ne.mpr c123
                            by_cases c131 : a2 = 6
                            · rw [if_pos c131] at H
                              have c131b0 : (a2 == 6) = true := beq_iff_eq.mpr c131
                              have c131b1 : (a2 != 6) = false := bne_eq_false_iff_eq.mpr c131
                              clear c131
                              obtain rfl := Option.some.inj H
                              have hnb132 := NB233_244.out
                              have hnc132 := NB244_233.out
                              obtain ⟨hcz133_0, hcz133_1, hcz133_2, hcz133_3, hcz133_4, hcz133_5, hcz133_6, hcz133_7, hfz133_0, hfz133_1, hfz133_2, hfz133_3, hfz133_4, hfz133_5, hfz133_6, hfz133_7⟩ := blkc8 BK233.out
                              go_wp2_with (first | ((with_reducible refine gate_callee (f := 22) rfl ?_); refine goesL_ (some 108) rfl rfl Try.func22 (by kernel_rfl) rfl #[.int .i64 a1, .agg #[.int .i64 a0_0, .int .u32 a0_1, .int .u32 a0_2, .int .i64 a0_3, .int .u8 a0_4, .int .i64 a0_5, .bool a0_6, .bool a0_7], .int .u8 a2] rfl (by (try simp only [List.map_toArray, List.map_cons, List.map_nil]); first | done | rfl | (simp only [List.length_drop, List.length_take]; rfl)) ?_; (with_reducible refine (state_Order.calls kj21 a1 a0_0 a0_1 a0_2 a0_3 a0_4 a0_5 a0_6 a0_7 a2 t252 _ A115.out).mono ?_); rintro e w134 ⟨rfl, hb⟩; refine ⟨_, rfl, ?_⟩; have n0_ := Aside0.mk (blk_below (g := gb233) (o := .cells #[.int .i64 a0_0, .int .u32 a0_1, .int .u32 a0_2, .int .i64 a0_3, .int .u8 a0_4, .int .i64 a0_5, .bool a0_6, .bool a0_7] 24 (0, 0)) (by (with_reducible repeat (first | refine blk_drewN ?_ _ | refine blk_drew ?_ | refine blk_alloc ?_ _)); exact BK233.out) hb); have n1_ := Aside0.mk (blk_below (g := gb244) (o := .cells #[.int .i64 t235, .int .u32 t236, .int .u32 t237, .int .i64 t238, .int .u8 t239, .int .i64 t240, .bool t241, .bool t242] 24 (0, 0)) (by (with_reducible repeat (first | refine blk_drewN ?_ _ | refine blk_drew ?_ | refine blk_alloc ?_ _)); exact BK244.out) hb); have n2_ := Aside0.mk (below_step (by repeat (first | (with_reducible first | exact HB.out | apply below_alloc | apply pw_below_drewN | apply below_drew1 | refine below_set ?_ GE233.out | refine below_set ?_ GE244.out) | exact HB.out)) hb); clear BK233; clear BK244; clear HB; have BK233 := n0_; have BK244 := n1_; have HB := n2_; clear n0_ n1_ n2_; (try clear hb); (try clear hb2); (try clear hk); (try clear hi); obtain ⟨hcz135_0, hcz135_1, hcz135_2, hcz135_3, hcz135_4, hcz135_5, hcz135_6, hcz135_7, hfz135_0, hfz135_1, hfz135_2, hfz135_3, hfz135_4, hfz135_5, hfz135_6, hfz135_7⟩ := blkc8 BK233.out) | (go_at_call 24; (with_reducible refine (state_Join.calls kj21 a1 a0_0 a0_1 a0_2 a0_3 a0_4 a0_5 a0_6 a0_7 a2 t253 _ A117.out).mono ?_); rintro e w136 ⟨rfl, hb⟩; have n0_ := Aside0.mk (blk_below (g := gb233) (o := .cells #[.int .i64 a0_0, .int .u32 a0_1, .int .u32 a0_2, .int .i64 a0_3, .int .u8 a0_4, .int .i64 a0_5, .bool a0_6, .bool a0_7] 24 (0, 0)) (by (with_reducible repeat (first | refine blk_drewN ?_ _ | refine blk_drew ?_ | refine blk_alloc ?_ _)); exact BK233.out) hb); have n1_ := Aside0.mk (blk_below (g := gb244) (o := .cells #[.int .i64 t235, .int .u32 t236, .int .u32 t237, .int .i64 t238, .int .u8 t239, .int .i64 t240, .bool t241, .bool t242] 24 (0, 0)) (by (with_reducible repeat (first | refine blk_drewN ?_ _ | refine blk_drew ?_ | refine blk_alloc ?_ _)); exact BK244.out) hb); have n2_ := Aside0.mk (below_step (by repeat (first | (with_reducible first | exact HB.out | apply below_alloc | apply pw_below_drewN | apply below_drew1 | refine below_set ?_ GE233.out | refine below_set ?_ GE244.out) | exact HB.out)) hb); clear BK233; clear BK244; clear HB; have BK233 := n0_; have BK244 := n1_; have HB := n2_; clear n0_ n1_ n2_; (try clear hb); (try clear hb2); (try clear hk); (try clear hi); obtain ⟨hcz137_0, hcz137_1, hcz137_2, hcz137_3, hcz137_4, hcz137_5, hcz137_6, hcz137_7, hfz137_0, hfz137_1, hfz137_2, hfz137_3, hfz137_4, hfz137_5, hfz137_6, hfz137_7⟩ := blkc8 BK244.out; obtain ⟨hcz138_0, hcz138_1, hcz138_2, hcz138_3, hcz138_4, hcz138_5, hcz138_6, hcz138_7, hfz138_0, hfz138_1, hfz138_2, hfz138_3, hfz138_4, hfz138_5, hfz138_6, hfz138_7⟩ := blkc8 BK233.out))
                              go_ret
                              exact ⟨by first | rfl | (simp [errW_none, errW_some] <;> rfl) | (simp [*, errW_none, errW_some] <;> rfl), by repeat (first | (with_reducible first | exact HB.out | apply below_alloc | apply pw_below_drewN | apply below_drew1 | refine below_set ?_ GE233.out | refine below_set ?_ GE244.out) | exact HB.out)⟩
                            · rw [if_neg c131] at H
                              have c131b0 : (a2 == 6) = false := beq_eq_false_iff_ne.mpr c131
                              have c131b1 : (a2 != 6) = true := bne_iff_ne.mpr c131
                              obtain rfl := Option.some.inj H
                              have hnb139 := NB233_244.out
                              have hnc139 := NB244_233.out
                              obtain ⟨hcz140_0, hcz140_1, hcz140_2, hcz140_3, hcz140_4, hcz140_5, hcz140_6, hcz140_7, hfz140_0, hfz140_1, hfz140_2, hfz140_3, hfz140_4, hfz140_5, hfz140_6, hfz140_7⟩ := blkc8 BK233.out
                              go_wp2_with (first | ((with_reducible refine gate_callee (f := 22) rfl ?_); refine goesL_ (some 108) rfl rfl Try.func22 (by kernel_rfl) rfl #[.int .i64 a1, .agg #[.int .i64 a0_0, .int .u32 a0_1, .int .u32 a0_2, .int .i64 a0_3, .int .u8 a0_4, .int .i64 a0_5, .bool a0_6, .bool a0_7], .int .u8 a2] rfl (by (try simp only [List.map_toArray, List.map_cons, List.map_nil]); first | done | rfl | (simp only [List.length_drop, List.length_take]; rfl)) ?_; (with_reducible refine (state_Order.calls kj21 a1 a0_0 a0_1 a0_2 a0_3 a0_4 a0_5 a0_6 a0_7 a2 t252 _ A115.out).mono ?_); rintro e w141 ⟨rfl, hb⟩; refine ⟨_, rfl, ?_⟩; have n0_ := Aside0.mk (blk_below (g := gb233) (o := .cells #[.int .i64 a0_0, .int .u32 a0_1, .int .u32 a0_2, .int .i64 a0_3, .int .u8 a0_4, .int .i64 a0_5, .bool a0_6, .bool a0_7] 24 (0, 0)) (by (with_reducible repeat (first | refine blk_drewN ?_ _ | refine blk_drew ?_ | refine blk_alloc ?_ _)); exact BK233.out) hb); have n1_ := Aside0.mk (blk_below (g := gb244) (o := .cells #[.int .i64 t235, .int .u32 t236, .int .u32 t237, .int .i64 t238, .int .u8 t239, .int .i64 t240, .bool t241, .bool t242] 24 (0, 0)) (by (with_reducible repeat (first | refine blk_drewN ?_ _ | refine blk_drew ?_ | refine blk_alloc ?_ _)); exact BK244.out) hb); have n2_ := Aside0.mk (below_step (by repeat (first | (with_reducible first | exact HB.out | apply below_alloc | apply pw_below_drewN | apply below_drew1 | refine below_set ?_ GE233.out | refine below_set ?_ GE244.out) | exact HB.out)) hb); clear BK233; clear BK244; clear HB; have BK233 := n0_; have BK244 := n1_; have HB := n2_; clear n0_ n1_ n2_; (try clear hb); (try clear hb2); (try clear hk); (try clear hi); obtain ⟨hcz142_0, hcz142_1, hcz142_2, hcz142_3, hcz142_4, hcz142_5, hcz142_6, hcz142_7, hfz142_0, hfz142_1, hfz142_2, hfz142_3, hfz142_4, hfz142_5, hfz142_6, hfz142_7⟩ := blkc8 BK233.out) | (go_at_call 24; (with_reducible refine (state_Join.calls kj21 a1 a0_0 a0_1 a0_2 a0_3 a0_4 a0_5 a0_6 a0_7 a2 t253 _ A117.out).mono ?_); rintro e w143 ⟨rfl, hb⟩; have n0_ := Aside0.mk (blk_below (g := gb233) (o := .cells #[.int .i64 a0_0, .int .u32 a0_1, .int .u32 a0_2, .int .i64 a0_3, .int .u8 a0_4, .int .i64 a0_5, .bool a0_6, .bool a0_7] 24 (0, 0)) (by (with_reducible repeat (first | refine blk_drewN ?_ _ | refine blk_drew ?_ | refine blk_alloc ?_ _)); exact BK233.out) hb); have n1_ := Aside0.mk (blk_below (g := gb244) (o := .cells #[.int .i64 t235, .int .u32 t236, .int .u32 t237, .int .i64 t238, .int .u8 t239, .int .i64 t240, .bool t241, .bool t242] 24 (0, 0)) (by (with_reducible repeat (first | refine blk_drewN ?_ _ | refine blk_drew ?_ | refine blk_alloc ?_ _)); exact BK244.out) hb); have n2_ := Aside0.mk (below_step (by repeat (first | (with_reducible first | exact HB.out | apply below_alloc | apply pw_below_drewN | apply below_drew1 | refine below_set ?_ GE233.out | refine below_set ?_ GE244.out) | exact HB.out)) hb); clear BK233; clear BK244; clear HB; have BK233 := n0_; have BK244 := n1_; have HB := n2_; clear n0_ n1_ n2_; (try clear hb); (try clear hb2); (try clear hk); (try clear hi); obtain ⟨hcz144_0, hcz144_1, hcz144_2, hcz144_3, hcz144_4, hcz144_5, hcz144_6, hcz144_7, hfz144_0, hfz144_1, hfz144_2, hfz144_3, hfz144_4, hfz144_5, hfz144_6, hfz144_7⟩ := blkc8 BK244.out; obtain ⟨hcz145_0, hcz145_1, hcz145_2, hcz145_3, hcz145_4, hcz145_5, hcz145_6, hcz145_7, hfz145_0, hfz145_1, hfz145_2, hfz145_3, hfz145_4, hfz145_5, hfz145_6, hfz145_7⟩ := blkc8 BK233.out))
                              go_ret
                              exact ⟨by first | rfl | (simp [errW_none, errW_some] <;> rfl) | (simp [*, errW_none, errW_some] <;> rfl), by repeat (first | (with_reducible first | exact HB.out | apply below_alloc | apply pw_below_drewN | apply below_drew1 | refine below_set ?_ GE233.out | refine below_set ?_ GE244.out) | exact HB.out)⟩
                        · rw [if_neg c122] at H
                          have c122b0 : (t239 == 2) = false := beq_eq_false_iff_ne.mpr c122
                          have c122b1 : (t239 != 2) = true := bne_iff_ne.mpr c122
                          exact absurd ((Option.some.inj H).trans hT_.out) (by decide)
                      · rw [if_neg c121] at H
                        have c121b0 : (t238 == a0_3) = false := beq_eq_false_iff_ne.mpr c121
                        have c121b1 : (t238 != a0_3) = true := bne_iff_ne.mpr c121
                        exact absurd ((Option.some.inj H).trans hT_.out) (by decide)
                    · rw [if_neg c120] at H
                      have c120b0 : (a2 == 8) = false := beq_eq_false_iff_ne.mpr c120
                      have c120b1 : (a2 != 8) = true := bne_iff_ne.mpr c120
                      by_cases c146 : a2 = 7
                      · rw [if_pos c146] at H
                        have c146b0 : (a2 == 7) = true := beq_iff_eq.mpr c146
                        have c146b1 : (a2 != 7) = false := bne_eq_false_iff_eq.mpr c146
                        clear c146
                        obtain rfl := Option.some.inj H
                        have hnb147 := NB233_244.out
                        have hnc147 := NB244_233.out
                        obtain ⟨hcz148_0, hcz148_1, hcz148_2, hcz148_3, hcz148_4, hcz148_5, hcz148_6, hcz148_7, hfz148_0, hfz148_1, hfz148_2, hfz148_3, hfz148_4, hfz148_5, hfz148_6, hfz148_7⟩ := blkc8 BK233.out
                        go_wp2_with (first | ((with_reducible refine gate_callee (f := 22) rfl ?_); refine goesL_ (some 108) rfl rfl Try.func22 (by kernel_rfl) rfl #[.int .i64 a1, .agg #[.int .i64 a0_0, .int .u32 a0_1, .int .u32 a0_2, .int .i64 a0_3, .int .u8 a0_4, .int .i64 a0_5, .bool a0_6, .bool a0_7], .int .u8 a2] rfl (by (try simp only [List.map_toArray, List.map_cons, List.map_nil]); first | done | rfl | (simp only [List.length_drop, List.length_take]; rfl)) ?_; (with_reducible refine (state_Order.calls kj21 a1 a0_0 a0_1 a0_2 a0_3 a0_4 a0_5 a0_6 a0_7 a2 t252 _ A115.out).mono ?_); rintro e w149 ⟨rfl, hb⟩; refine ⟨_, rfl, ?_⟩; have n0_ := Aside0.mk (blk_below (g := gb233) (o := .cells #[.int .i64 a0_0, .int .u32 a0_1, .int .u32 a0_2, .int .i64 a0_3, .int .u8 a0_4, .int .i64 a0_5, .bool a0_6, .bool a0_7] 24 (0, 0)) (by (with_reducible repeat (first | refine blk_drewN ?_ _ | refine blk_drew ?_ | refine blk_alloc ?_ _)); exact BK233.out) hb); have n1_ := Aside0.mk (blk_below (g := gb244) (o := .cells #[.int .i64 t235, .int .u32 t236, .int .u32 t237, .int .i64 t238, .int .u8 t239, .int .i64 t240, .bool t241, .bool t242] 24 (0, 0)) (by (with_reducible repeat (first | refine blk_drewN ?_ _ | refine blk_drew ?_ | refine blk_alloc ?_ _)); exact BK244.out) hb); have n2_ := Aside0.mk (below_step (by repeat (first | (with_reducible first | exact HB.out | apply below_alloc | apply pw_below_drewN | apply below_drew1 | refine below_set ?_ GE233.out | refine below_set ?_ GE244.out) | exact HB.out)) hb); clear BK233; clear BK244; clear HB; have BK233 := n0_; have BK244 := n1_; have HB := n2_; clear n0_ n1_ n2_; (try clear hb); (try clear hb2); (try clear hk); (try clear hi); obtain ⟨hcz150_0, hcz150_1, hcz150_2, hcz150_3, hcz150_4, hcz150_5, hcz150_6, hcz150_7, hfz150_0, hfz150_1, hfz150_2, hfz150_3, hfz150_4, hfz150_5, hfz150_6, hfz150_7⟩ := blkc8 BK233.out) | (go_at_call 24; (with_reducible refine (state_Join.calls kj21 a1 a0_0 a0_1 a0_2 a0_3 a0_4 a0_5 a0_6 a0_7 a2 t253 _ A117.out).mono ?_); rintro e w151 ⟨rfl, hb⟩; have n0_ := Aside0.mk (blk_below (g := gb233) (o := .cells #[.int .i64 a0_0, .int .u32 a0_1, .int .u32 a0_2, .int .i64 a0_3, .int .u8 a0_4, .int .i64 a0_5, .bool a0_6, .bool a0_7] 24 (0, 0)) (by (with_reducible repeat (first | refine blk_drewN ?_ _ | refine blk_drew ?_ | refine blk_alloc ?_ _)); exact BK233.out) hb); have n1_ := Aside0.mk (blk_below (g := gb244) (o := .cells #[.int .i64 t235, .int .u32 t236, .int .u32 t237, .int .i64 t238, .int .u8 t239, .int .i64 t240, .bool t241, .bool t242] 24 (0, 0)) (by (with_reducible repeat (first | refine blk_drewN ?_ _ | refine blk_drew ?_ | refine blk_alloc ?_ _)); exact BK244.out) hb); have n2_ := Aside0.mk (below_step (by repeat (first | (with_reducible first | exact HB.out | apply below_alloc | apply pw_below_drewN | apply below_drew1 | refine below_set ?_ GE233.out | refine below_set ?_ GE244.out) | exact HB.out)) hb); clear BK233; clear BK244; clear HB; have BK233 := n0_; have BK244 := n1_; have HB := n2_; clear n0_ n1_ n2_; (try clear hb); (try clear hb2); (try clear hk); (try clear hi); obtain ⟨hcz152_0, hcz152_1, hcz152_2, hcz152_3, hcz152_4, hcz152_5, hcz152_6, hcz152_7, hfz152_0, hfz152_1, hfz152_2, hfz152_3, hfz152_4, hfz152_5, hfz152_6, hfz152_7⟩ := blkc8 BK244.out; obtain ⟨hcz153_0, hcz153_1, hcz153_2, hcz153_3, hcz153_4, hcz153_5, hcz153_6, hcz153_7, hfz153_0, hfz153_1, hfz153_2, hfz153_3, hfz153_4, hfz153_5, hfz153_6, hfz153_7⟩ := blkc8 BK233.out))
                        go_ret
                        exact ⟨by first | rfl | (simp [errW_none, errW_some] <;> rfl) | (simp [*, errW_none, errW_some] <;> rfl), by repeat (first | (with_reducible first | exact HB.out | apply below_alloc | apply pw_below_drewN | apply below_drew1 | refine below_set ?_ GE233.out | refine below_set ?_ GE244.out) | exact HB.out)⟩
                      · rw [if_neg c146] at H
                        have c146b0 : (a2 == 7) = false := beq_eq_false_iff_ne.mpr c146
                        have c146b1 : (a2 != 7) = true := bne_iff_ne.mpr c146
                        by_cases c154 : a2 = 6
                        · rw [if_pos c154] at H
                          have c154b0 : (a2 == 6) = true := beq_iff_eq.mpr c154
                          have c154b1 : (a2 != 6) = false := bne_eq_false_iff_eq.mpr c154
                          clear c154
                          obtain rfl := Option.some.inj H
                          have hnb155 := NB233_244.out
                          have hnc155 := NB244_233.out
                          obtain ⟨hcz156_0, hcz156_1, hcz156_2, hcz156_3, hcz156_4, hcz156_5, hcz156_6, hcz156_7, hfz156_0, hfz156_1, hfz156_2, hfz156_3, hfz156_4, hfz156_5, hfz156_6, hfz156_7⟩ := blkc8 BK233.out
                          go_wp2_with (first | ((with_reducible refine gate_callee (f := 22) rfl ?_); refine goesL_ (some 108) rfl rfl Try.func22 (by kernel_rfl) rfl #[.int .i64 a1, .agg #[.int .i64 a0_0, .int .u32 a0_1, .int .u32 a0_2, .int .i64 a0_3, .int .u8 a0_4, .int .i64 a0_5, .bool a0_6, .bool a0_7], .int .u8 a2] rfl (by (try simp only [List.map_toArray, List.map_cons, List.map_nil]); first | done | rfl | (simp only [List.length_drop, List.length_take]; rfl)) ?_; (with_reducible refine (state_Order.calls kj21 a1 a0_0 a0_1 a0_2 a0_3 a0_4 a0_5 a0_6 a0_7 a2 t252 _ A115.out).mono ?_); rintro e w157 ⟨rfl, hb⟩; refine ⟨_, rfl, ?_⟩; have n0_ := Aside0.mk (blk_below (g := gb233) (o := .cells #[.int .i64 a0_0, .int .u32 a0_1, .int .u32 a0_2, .int .i64 a0_3, .int .u8 a0_4, .int .i64 a0_5, .bool a0_6, .bool a0_7] 24 (0, 0)) (by (with_reducible repeat (first | refine blk_drewN ?_ _ | refine blk_drew ?_ | refine blk_alloc ?_ _)); exact BK233.out) hb); have n1_ := Aside0.mk (blk_below (g := gb244) (o := .cells #[.int .i64 t235, .int .u32 t236, .int .u32 t237, .int .i64 t238, .int .u8 t239, .int .i64 t240, .bool t241, .bool t242] 24 (0, 0)) (by (with_reducible repeat (first | refine blk_drewN ?_ _ | refine blk_drew ?_ | refine blk_alloc ?_ _)); exact BK244.out) hb); have n2_ := Aside0.mk (below_step (by repeat (first | (with_reducible first | exact HB.out | apply below_alloc | apply pw_below_drewN | apply below_drew1 | refine below_set ?_ GE233.out | refine below_set ?_ GE244.out) | exact HB.out)) hb); clear BK233; clear BK244; clear HB; have BK233 := n0_; have BK244 := n1_; have HB := n2_; clear n0_ n1_ n2_; (try clear hb); (try clear hb2); (try clear hk); (try clear hi); obtain ⟨hcz158_0, hcz158_1, hcz158_2, hcz158_3, hcz158_4, hcz158_5, hcz158_6, hcz158_7, hfz158_0, hfz158_1, hfz158_2, hfz158_3, hfz158_4, hfz158_5, hfz158_6, hfz158_7⟩ := blkc8 BK233.out) | (go_at_call 24; (with_reducible refine (state_Join.calls kj21 a1 a0_0 a0_1 a0_2 a0_3 a0_4 a0_5 a0_6 a0_7 a2 t253 _ A117.out).mono ?_); rintro e w159 ⟨rfl, hb⟩; have n0_ := Aside0.mk (blk_below (g := gb233) (o := .cells #[.int .i64 a0_0, .int .u32 a0_1, .int .u32 a0_2, .int .i64 a0_3, .int .u8 a0_4, .int .i64 a0_5, .bool a0_6, .bool a0_7] 24 (0, 0)) (by (with_reducible repeat (first | refine blk_drewN ?_ _ | refine blk_drew ?_ | refine blk_alloc ?_ _)); exact BK233.out) hb); have n1_ := Aside0.mk (blk_below (g := gb244) (o := .cells #[.int .i64 t235, .int .u32 t236, .int .u32 t237, .int .i64 t238, .int .u8 t239, .int .i64 t240, .bool t241, .bool t242] 24 (0, 0)) (by (with_reducible repeat (first | refine blk_drewN ?_ _ | refine blk_drew ?_ | refine blk_alloc ?_ _)); exact BK244.out) hb); have n2_ := Aside0.mk (below_step (by repeat (first | (with_reducible first | exact HB.out | apply below_alloc | apply pw_below_drewN | apply below_drew1 | refine below_set ?_ GE233.out | refine below_set ?_ GE244.out) | exact HB.out)) hb); clear BK233; clear BK244; clear HB; have BK233 := n0_; have BK244 := n1_; have HB := n2_; clear n0_ n1_ n2_; (try clear hb); (try clear hb2); (try clear hk); (try clear hi); obtain ⟨hcz160_0, hcz160_1, hcz160_2, hcz160_3, hcz160_4, hcz160_5, hcz160_6, hcz160_7, hfz160_0, hfz160_1, hfz160_2, hfz160_3, hfz160_4, hfz160_5, hfz160_6, hfz160_7⟩ := blkc8 BK244.out; obtain ⟨hcz161_0, hcz161_1, hcz161_2, hcz161_3, hcz161_4, hcz161_5, hcz161_6, hcz161_7, hfz161_0, hfz161_1, hfz161_2, hfz161_3, hfz161_4, hfz161_5, hfz161_6, hfz161_7⟩ := blkc8 BK233.out))
                          go_ret
                          exact ⟨by first | rfl | (simp [errW_none, errW_some] <;> rfl) | (simp [*, errW_none, errW_some] <;> rfl), by repeat (first | (with_reducible first | exact HB.out | apply below_alloc | apply pw_below_drewN | apply below_drew1 | refine below_set ?_ GE233.out | refine below_set ?_ GE244.out) | exact HB.out)⟩
                        · rw [if_neg c154] at H
                          have c154b0 : (a2 == 6) = false := beq_eq_false_iff_ne.mpr c154
                          have c154b1 : (a2 != 6) = true := bne_iff_ne.mpr c154
                          obtain rfl := Option.some.inj H
                          have hnb162 := NB233_244.out
                          have hnc162 := NB244_233.out
                          obtain ⟨hcz163_0, hcz163_1, hcz163_2, hcz163_3, hcz163_4, hcz163_5, hcz163_6, hcz163_7, hfz163_0, hfz163_1, hfz163_2, hfz163_3, hfz163_4, hfz163_5, hfz163_6, hfz163_7⟩ := blkc8 BK233.out
                          go_wp2_with (first | ((with_reducible refine gate_callee (f := 22) rfl ?_); refine goesL_ (some 108) rfl rfl Try.func22 (by kernel_rfl) rfl #[.int .i64 a1, .agg #[.int .i64 a0_0, .int .u32 a0_1, .int .u32 a0_2, .int .i64 a0_3, .int .u8 a0_4, .int .i64 a0_5, .bool a0_6, .bool a0_7], .int .u8 a2] rfl (by (try simp only [List.map_toArray, List.map_cons, List.map_nil]); first | done | rfl | (simp only [List.length_drop, List.length_take]; rfl)) ?_; (with_reducible refine (state_Order.calls kj21 a1 a0_0 a0_1 a0_2 a0_3 a0_4 a0_5 a0_6 a0_7 a2 t252 _ A115.out).mono ?_); rintro e w164 ⟨rfl, hb⟩; refine ⟨_, rfl, ?_⟩; have n0_ := Aside0.mk (blk_below (g := gb233) (o := .cells #[.int .i64 a0_0, .int .u32 a0_1, .int .u32 a0_2, .int .i64 a0_3, .int .u8 a0_4, .int .i64 a0_5, .bool a0_6, .bool a0_7] 24 (0, 0)) (by (with_reducible repeat (first | refine blk_drewN ?_ _ | refine blk_drew ?_ | refine blk_alloc ?_ _)); exact BK233.out) hb); have n1_ := Aside0.mk (blk_below (g := gb244) (o := .cells #[.int .i64 t235, .int .u32 t236, .int .u32 t237, .int .i64 t238, .int .u8 t239, .int .i64 t240, .bool t241, .bool t242] 24 (0, 0)) (by (with_reducible repeat (first | refine blk_drewN ?_ _ | refine blk_drew ?_ | refine blk_alloc ?_ _)); exact BK244.out) hb); have n2_ := Aside0.mk (below_step (by repeat (first | (with_reducible first | exact HB.out | apply below_alloc | apply pw_below_drewN | apply below_drew1 | refine below_set ?_ GE233.out | refine below_set ?_ GE244.out) | exact HB.out)) hb); clear BK233; clear BK244; clear HB; have BK233 := n0_; have BK244 := n1_; have HB := n2_; clear n0_ n1_ n2_; (try clear hb); (try clear hb2); (try clear hk); (try clear hi); obtain ⟨hcz165_0, hcz165_1, hcz165_2, hcz165_3, hcz165_4, hcz165_5, hcz165_6, hcz165_7, hfz165_0, hfz165_1, hfz165_2, hfz165_3, hfz165_4, hfz165_5, hfz165_6, hfz165_7⟩ := blkc8 BK233.out) | (go_at_call 24; (with_reducible refine (state_Join.calls kj21 a1 a0_0 a0_1 a0_2 a0_3 a0_4 a0_5 a0_6 a0_7 a2 t253 _ A117.out).mono ?_); rintro e w166 ⟨rfl, hb⟩; have n0_ := Aside0.mk (blk_below (g := gb233) (o := .cells #[.int .i64 a0_0, .int .u32 a0_1, .int .u32 a0_2, .int .i64 a0_3, .int .u8 a0_4, .int .i64 a0_5, .bool a0_6, .bool a0_7] 24 (0, 0)) (by (with_reducible repeat (first | refine blk_drewN ?_ _ | refine blk_drew ?_ | refine blk_alloc ?_ _)); exact BK233.out) hb); have n1_ := Aside0.mk (blk_below (g := gb244) (o := .cells #[.int .i64 t235, .int .u32 t236, .int .u32 t237, .int .i64 t238, .int .u8 t239, .int .i64 t240, .bool t241, .bool t242] 24 (0, 0)) (by (with_reducible repeat (first | refine blk_drewN ?_ _ | refine blk_drew ?_ | refine blk_alloc ?_ _)); exact BK244.out) hb); have n2_ := Aside0.mk (below_step (by repeat (first | (with_reducible first | exact HB.out | apply below_alloc | apply pw_below_drewN | apply below_drew1 | refine below_set ?_ GE233.out | refine below_set ?_ GE244.out) | exact HB.out)) hb); clear BK233; clear BK244; clear HB; have BK233 := n0_; have BK244 := n1_; have HB := n2_; clear n0_ n1_ n2_; (try clear hb); (try clear hb2); (try clear hk); (try clear hi)))
                          go_ret
                          exact ⟨by first | rfl | (simp [errW_none, errW_some] <;> rfl) | (simp [*, errW_none, errW_some] <;> rfl), by repeat (first | (with_reducible first | exact HB.out | apply below_alloc | apply pw_below_drewN | apply below_drew1 | refine below_set ?_ GE233.out | refine below_set ?_ GE244.out) | exact HB.out)⟩
                  · replace c119 := Bool.eq_false_iff.mpr c119
                    subst c119
                    have H1 : (some false) = some r := by rw [if_neg (show ¬ (false = true) by decide)] at H; exact H
                    clear H
                    have H := H1
                    clear H1
                    exact absurd ((Option.some.inj H).trans hT_.out) (by decide)
              · rw [if_neg c116] at H
                have c116b0 : (t252 == 0) = false := beq_eq_false_iff_ne.mpr c116
                have c116b1 : (t252 != 0) = true := bne_iff_ne.mpr c116
                by_cases c167 : t234 = true
                · subst c167
                  have H1 : (if a2 = 8 then (if t238 = a0_3 then (if t239 = 2 then (if a2 = 7 then (some (t238 != a0_3)) else (if a2 = 6 then (some (t238 != a0_3)) else (some true))) else (some false)) else (some false)) else (if a2 = 7 then (some (t238 != a0_3)) else (if a2 = 6 then (some (t238 != a0_3)) else (some true)))) = some r := by rw [if_pos rfl] at H; exact H
                  clear H
                  have H := H1
                  clear H1
                  by_cases c168 : a2 = 8
                  · rw [if_pos c168] at H
                    have c168b0 : (a2 == 8) = true := beq_iff_eq.mpr c168
                    have c168b1 : (a2 != 8) = false := bne_eq_false_iff_eq.mpr c168
                    clear c168
                    by_cases c169 : t238 = a0_3
                    · rw [if_pos c169] at H
                      have c169b0 : (t238 == a0_3) = true := beq_iff_eq.mpr c169
                      have c169b1 : (t238 != a0_3) = false := bne_eq_false_iff_eq.mpr c169
                      clear c169
                      by_cases c170 : t239 = 2
                      · rw [if_pos c170] at H
                        have c170b0 : (t239 == 2) = true := beq_iff_eq.mpr c170
                        have c170b1 : (t239 != 2) = false := bne_eq_false_iff_eq.mpr c170
                        clear c170
                        by_cases c171 : a2 = 7
                        · rw [if_pos c171] at H
                          have c171b0 : (a2 == 7) = true := beq_iff_eq.mpr c171
                          have c171b1 : (a2 != 7) = false := bne_eq_false_iff_eq.mpr c171
                          clear c171
                          obtain rfl := Option.some.inj H
                          have hnb172 := NB233_244.out
                          have hnc172 := NB244_233.out
                          obtain ⟨hcz173_0, hcz173_1, hcz173_2, hcz173_3, hcz173_4, hcz173_5, hcz173_6, hcz173_7, hfz173_0, hfz173_1, hfz173_2, hfz173_3, hfz173_4, hfz173_5, hfz173_6, hfz173_7⟩ := blkc8 BK233.out
                          go_wp2_with (first | ((with_reducible refine gate_callee (f := 22) rfl ?_); refine goesL_ (some 108) rfl rfl Try.func22 (by kernel_rfl) rfl #[.int .i64 a1, .agg #[.int .i64 a0_0, .int .u32 a0_1, .int .u32 a0_2, .int .i64 a0_3, .int .u8 a0_4, .int .i64 a0_5, .bool a0_6, .bool a0_7], .int .u8 a2] rfl (by (try simp only [List.map_toArray, List.map_cons, List.map_nil]); first | done | rfl | (simp only [List.length_drop, List.length_take]; rfl)) ?_; (with_reducible refine (state_Order.calls kj21 a1 a0_0 a0_1 a0_2 a0_3 a0_4 a0_5 a0_6 a0_7 a2 t252 _ A115.out).mono ?_); rintro e w174 ⟨rfl, hb⟩; refine ⟨_, rfl, ?_⟩; have n0_ := Aside0.mk (blk_below (g := gb233) (o := .cells #[.int .i64 a0_0, .int .u32 a0_1, .int .u32 a0_2, .int .i64 a0_3, .int .u8 a0_4, .int .i64 a0_5, .bool a0_6, .bool a0_7] 24 (0, 0)) (by (with_reducible repeat (first | refine blk_drewN ?_ _ | refine blk_drew ?_ | refine blk_alloc ?_ _)); exact BK233.out) hb); have n1_ := Aside0.mk (blk_below (g := gb244) (o := .cells #[.int .i64 t235, .int .u32 t236, .int .u32 t237, .int .i64 t238, .int .u8 t239, .int .i64 t240, .bool t241, .bool t242] 24 (0, 0)) (by (with_reducible repeat (first | refine blk_drewN ?_ _ | refine blk_drew ?_ | refine blk_alloc ?_ _)); exact BK244.out) hb); have n2_ := Aside0.mk (below_step (by repeat (first | (with_reducible first | exact HB.out | apply below_alloc | apply pw_below_drewN | apply below_drew1 | refine below_set ?_ GE233.out | refine below_set ?_ GE244.out) | exact HB.out)) hb); clear BK233; clear BK244; clear HB; have BK233 := n0_; have BK244 := n1_; have HB := n2_; clear n0_ n1_ n2_; (try clear hb); (try clear hb2); (try clear hk); (try clear hi); obtain ⟨hcz175_0, hcz175_1, hcz175_2, hcz175_3, hcz175_4, hcz175_5, hcz175_6, hcz175_7, hfz175_0, hfz175_1, hfz175_2, hfz175_3, hfz175_4, hfz175_5, hfz175_6, hfz175_7⟩ := blkc8 BK244.out; obtain ⟨hcz176_0, hcz176_1, hcz176_2, hcz176_3, hcz176_4, hcz176_5, hcz176_6, hcz176_7, hfz176_0, hfz176_1, hfz176_2, hfz176_3, hfz176_4, hfz176_5, hfz176_6, hfz176_7⟩ := blkc8 BK233.out))
                          go_ret
                          exact ⟨by first | rfl | (simp [errW_none, errW_some] <;> rfl) | (simp [*, errW_none, errW_some] <;> rfl), by repeat (first | (with_reducible first | exact HB.out | apply below_alloc | apply pw_below_drewN | apply below_drew1 | refine below_set ?_ GE233.out | refine below_set ?_ GE244.out) | exact HB.out)⟩
                        · rw [if_neg c171] at H
                          have c171b0 : (a2 == 7) = false := beq_eq_false_iff_ne.mpr c171
                          have c171b1 : (a2 != 7) = true := bne_iff_ne.mpr c171
                          by_cases c177 : a2 = 6
                          · rw [if_pos c177] at H
                            have c177b0 : (a2 == 6) = true := beq_iff_eq.mpr c177
                            have c177b1 : (a2 != 6) = false := bne_eq_false_iff_eq.mpr c177
                            clear c177
                            obtain rfl := Option.some.inj H
                            have hnb178 := NB233_244.out
                            have hnc178 := NB244_233.out
                            obtain ⟨hcz179_0, hcz179_1, hcz179_2, hcz179_3, hcz179_4, hcz179_5, hcz179_6, hcz179_7, hfz179_0, hfz179_1, hfz179_2, hfz179_3, hfz179_4, hfz179_5, hfz179_6, hfz179_7⟩ := blkc8 BK233.out
                            go_wp2_with (first | ((with_reducible refine gate_callee (f := 22) rfl ?_); refine goesL_ (some 108) rfl rfl Try.func22 (by kernel_rfl) rfl #[.int .i64 a1, .agg #[.int .i64 a0_0, .int .u32 a0_1, .int .u32 a0_2, .int .i64 a0_3, .int .u8 a0_4, .int .i64 a0_5, .bool a0_6, .bool a0_7], .int .u8 a2] rfl (by (try simp only [List.map_toArray, List.map_cons, List.map_nil]); first | done | rfl | (simp only [List.length_drop, List.length_take]; rfl)) ?_; (with_reducible refine (state_Order.calls kj21 a1 a0_0 a0_1 a0_2 a0_3 a0_4 a0_5 a0_6 a0_7 a2 t252 _ A115.out).mono ?_); rintro e w180 ⟨rfl, hb⟩; refine ⟨_, rfl, ?_⟩; have n0_ := Aside0.mk (blk_below (g := gb233) (o := .cells #[.int .i64 a0_0, .int .u32 a0_1, .int .u32 a0_2, .int .i64 a0_3, .int .u8 a0_4, .int .i64 a0_5, .bool a0_6, .bool a0_7] 24 (0, 0)) (by (with_reducible repeat (first | refine blk_drewN ?_ _ | refine blk_drew ?_ | refine blk_alloc ?_ _)); exact BK233.out) hb); have n1_ := Aside0.mk (blk_below (g := gb244) (o := .cells #[.int .i64 t235, .int .u32 t236, .int .u32 t237, .int .i64 t238, .int .u8 t239, .int .i64 t240, .bool t241, .bool t242] 24 (0, 0)) (by (with_reducible repeat (first | refine blk_drewN ?_ _ | refine blk_drew ?_ | refine blk_alloc ?_ _)); exact BK244.out) hb); have n2_ := Aside0.mk (below_step (by repeat (first | (with_reducible first | exact HB.out | apply below_alloc | apply pw_below_drewN | apply below_drew1 | refine below_set ?_ GE233.out | refine below_set ?_ GE244.out) | exact HB.out)) hb); clear BK233; clear BK244; clear HB; have BK233 := n0_; have BK244 := n1_; have HB := n2_; clear n0_ n1_ n2_; (try clear hb); (try clear hb2); (try clear hk); (try clear hi); obtain ⟨hcz181_0, hcz181_1, hcz181_2, hcz181_3, hcz181_4, hcz181_5, hcz181_6, hcz181_7, hfz181_0, hfz181_1, hfz181_2, hfz181_3, hfz181_4, hfz181_5, hfz181_6, hfz181_7⟩ := blkc8 BK244.out; obtain ⟨hcz182_0, hcz182_1, hcz182_2, hcz182_3, hcz182_4, hcz182_5, hcz182_6, hcz182_7, hfz182_0, hfz182_1, hfz182_2, hfz182_3, hfz182_4, hfz182_5, hfz182_6, hfz182_7⟩ := blkc8 BK233.out))
                            go_ret
                            exact ⟨by first | rfl | (simp [errW_none, errW_some] <;> rfl) | (simp [*, errW_none, errW_some] <;> rfl), by repeat (first | (with_reducible first | exact HB.out | apply below_alloc | apply pw_below_drewN | apply below_drew1 | refine below_set ?_ GE233.out | refine below_set ?_ GE244.out) | exact HB.out)⟩
                          · rw [if_neg c177] at H
                            have c177b0 : (a2 == 6) = false := beq_eq_false_iff_ne.mpr c177
                            have c177b1 : (a2 != 6) = true := bne_iff_ne.mpr c177
                            obtain rfl := Option.some.inj H
                            have hnb183 := NB233_244.out
                            have hnc183 := NB244_233.out
                            obtain ⟨hcz184_0, hcz184_1, hcz184_2, hcz184_3, hcz184_4, hcz184_5, hcz184_6, hcz184_7, hfz184_0, hfz184_1, hfz184_2, hfz184_3, hfz184_4, hfz184_5, hfz184_6, hfz184_7⟩ := blkc8 BK233.out
                            go_wp2_with (first | ((with_reducible refine gate_callee (f := 22) rfl ?_); refine goesL_ (some 108) rfl rfl Try.func22 (by kernel_rfl) rfl #[.int .i64 a1, .agg #[.int .i64 a0_0, .int .u32 a0_1, .int .u32 a0_2, .int .i64 a0_3, .int .u8 a0_4, .int .i64 a0_5, .bool a0_6, .bool a0_7], .int .u8 a2] rfl (by (try simp only [List.map_toArray, List.map_cons, List.map_nil]); first | done | rfl | (simp only [List.length_drop, List.length_take]; rfl)) ?_; (with_reducible refine (state_Order.calls kj21 a1 a0_0 a0_1 a0_2 a0_3 a0_4 a0_5 a0_6 a0_7 a2 t252 _ A115.out).mono ?_); rintro e w185 ⟨rfl, hb⟩; refine ⟨_, rfl, ?_⟩; have n0_ := Aside0.mk (blk_below (g := gb233) (o := .cells #[.int .i64 a0_0, .int .u32 a0_1, .int .u32 a0_2, .int .i64 a0_3, .int .u8 a0_4, .int .i64 a0_5, .bool a0_6, .bool a0_7] 24 (0, 0)) (by (with_reducible repeat (first | refine blk_drewN ?_ _ | refine blk_drew ?_ | refine blk_alloc ?_ _)); exact BK233.out) hb); have n1_ := Aside0.mk (blk_below (g := gb244) (o := .cells #[.int .i64 t235, .int .u32 t236, .int .u32 t237, .int .i64 t238, .int .u8 t239, .int .i64 t240, .bool t241, .bool t242] 24 (0, 0)) (by (with_reducible repeat (first | refine blk_drewN ?_ _ | refine blk_drew ?_ | refine blk_alloc ?_ _)); exact BK244.out) hb); have n2_ := Aside0.mk (below_step (by repeat (first | (with_reducible first | exact HB.out | apply below_alloc | apply pw_below_drewN | apply below_drew1 | refine below_set ?_ GE233.out | refine below_set ?_ GE244.out) | exact HB.out)) hb); clear BK233; clear BK244; clear HB; have BK233 := n0_; have BK244 := n1_; have HB := n2_; clear n0_ n1_ n2_; (try clear hb); (try clear hb2); (try clear hk); (try clear hi); obtain ⟨hcz186_0, hcz186_1, hcz186_2, hcz186_3, hcz186_4, hcz186_5, hcz186_6, hcz186_7, hfz186_0, hfz186_1, hfz186_2, hfz186_3, hfz186_4, hfz186_5, hfz186_6, hfz186_7⟩ := blkc8 BK244.out; obtain ⟨hcz187_0, hcz187_1, hcz187_2, hcz187_3, hcz187_4, hcz187_5, hcz187_6, hcz187_7, hfz187_0, hfz187_1, hfz187_2, hfz187_3, hfz187_4, hfz187_5, hfz187_6, hfz187_7⟩ := blkc8 BK233.out))
                            go_ret
                            exact ⟨by first | rfl | (simp [errW_none, errW_some] <;> rfl) | (simp [*, errW_none, errW_some] <;> rfl), by repeat (first | (with_reducible first | exact HB.out | apply below_alloc | apply pw_below_drewN | apply below_drew1 | refine below_set ?_ GE233.out | refine below_set ?_ GE244.out) | exact HB.out)⟩
                      · rw [if_neg c170] at H
                        have c170b0 : (t239 == 2) = false := beq_eq_false_iff_ne.mpr c170
                        have c170b1 : (t239 != 2) = true := bne_iff_ne.mpr c170
                        exact absurd ((Option.some.inj H).trans hT_.out) (by decide)
                    · rw [if_neg c169] at H
                      have c169b0 : (t238 == a0_3) = false := beq_eq_false_iff_ne.mpr c169
                      have c169b1 : (t238 != a0_3) = true := bne_iff_ne.mpr c169
                      exact absurd ((Option.some.inj H).trans hT_.out) (by decide)
                  · rw [if_neg c168] at H
                    have c168b0 : (a2 == 8) = false := beq_eq_false_iff_ne.mpr c168
                    have c168b1 : (a2 != 8) = true := bne_iff_ne.mpr c168
                    by_cases c188 : a2 = 7
                    · rw [if_pos c188] at H
                      have c188b0 : (a2 == 7) = true := beq_iff_eq.mpr c188
                      have c188b1 : (a2 != 7) = false := bne_eq_false_iff_eq.mpr c188
                      clear c188
                      obtain rfl := Option.some.inj H
                      have hnb189 := NB233_244.out
                      have hnc189 := NB244_233.out
                      obtain ⟨hcz190_0, hcz190_1, hcz190_2, hcz190_3, hcz190_4, hcz190_5, hcz190_6, hcz190_7, hfz190_0, hfz190_1, hfz190_2, hfz190_3, hfz190_4, hfz190_5, hfz190_6, hfz190_7⟩ := blkc8 BK233.out
                      go_wp2_with (first | ((with_reducible refine gate_callee (f := 22) rfl ?_); refine goesL_ (some 108) rfl rfl Try.func22 (by kernel_rfl) rfl #[.int .i64 a1, .agg #[.int .i64 a0_0, .int .u32 a0_1, .int .u32 a0_2, .int .i64 a0_3, .int .u8 a0_4, .int .i64 a0_5, .bool a0_6, .bool a0_7], .int .u8 a2] rfl (by (try simp only [List.map_toArray, List.map_cons, List.map_nil]); first | done | rfl | (simp only [List.length_drop, List.length_take]; rfl)) ?_; (with_reducible refine (state_Order.calls kj21 a1 a0_0 a0_1 a0_2 a0_3 a0_4 a0_5 a0_6 a0_7 a2 t252 _ A115.out).mono ?_); rintro e w191 ⟨rfl, hb⟩; refine ⟨_, rfl, ?_⟩; have n0_ := Aside0.mk (blk_below (g := gb233) (o := .cells #[.int .i64 a0_0, .int .u32 a0_1, .int .u32 a0_2, .int .i64 a0_3, .int .u8 a0_4, .int .i64 a0_5, .bool a0_6, .bool a0_7] 24 (0, 0)) (by (with_reducible repeat (first | refine blk_drewN ?_ _ | refine blk_drew ?_ | refine blk_alloc ?_ _)); exact BK233.out) hb); have n1_ := Aside0.mk (blk_below (g := gb244) (o := .cells #[.int .i64 t235, .int .u32 t236, .int .u32 t237, .int .i64 t238, .int .u8 t239, .int .i64 t240, .bool t241, .bool t242] 24 (0, 0)) (by (with_reducible repeat (first | refine blk_drewN ?_ _ | refine blk_drew ?_ | refine blk_alloc ?_ _)); exact BK244.out) hb); have n2_ := Aside0.mk (below_step (by repeat (first | (with_reducible first | exact HB.out | apply below_alloc | apply pw_below_drewN | apply below_drew1 | refine below_set ?_ GE233.out | refine below_set ?_ GE244.out) | exact HB.out)) hb); clear BK233; clear BK244; clear HB; have BK233 := n0_; have BK244 := n1_; have HB := n2_; clear n0_ n1_ n2_; (try clear hb); (try clear hb2); (try clear hk); (try clear hi); obtain ⟨hcz192_0, hcz192_1, hcz192_2, hcz192_3, hcz192_4, hcz192_5, hcz192_6, hcz192_7, hfz192_0, hfz192_1, hfz192_2, hfz192_3, hfz192_4, hfz192_5, hfz192_6, hfz192_7⟩ := blkc8 BK244.out; obtain ⟨hcz193_0, hcz193_1, hcz193_2, hcz193_3, hcz193_4, hcz193_5, hcz193_6, hcz193_7, hfz193_0, hfz193_1, hfz193_2, hfz193_3, hfz193_4, hfz193_5, hfz193_6, hfz193_7⟩ := blkc8 BK233.out))
                      go_ret
                      exact ⟨by first | rfl | (simp [errW_none, errW_some] <;> rfl) | (simp [*, errW_none, errW_some] <;> rfl), by repeat (first | (with_reducible first | exact HB.out | apply below_alloc | apply pw_below_drewN | apply below_drew1 | refine below_set ?_ GE233.out | refine below_set ?_ GE244.out) | exact HB.out)⟩
                    · rw [if_neg c188] at H
                      have c188b0 : (a2 == 7) = false := beq_eq_false_iff_ne.mpr c188
                      have c188b1 : (a2 != 7) = true := bne_iff_ne.mpr c188
                      by_cases c194 : a2 = 6
                      · rw [if_pos c194] at H
                        have c194b0 : (a2 == 6) = true := beq_iff_eq.mpr c194
                        have c194b1 : (a2 != 6) = false := bne_eq_false_iff_eq.mpr c194
                        clear c194
                        obtain rfl := Option.some.inj H
                        have hnb195 := NB233_244.out
                        have hnc195 := NB244_233.out
                        obtain ⟨hcz196_0, hcz196_1, hcz196_2, hcz196_3, hcz196_4, hcz196_5, hcz196_6, hcz196_7, hfz196_0, hfz196_1, hfz196_2, hfz196_3, hfz196_4, hfz196_5, hfz196_6, hfz196_7⟩ := blkc8 BK233.out
                        go_wp2_with (first | ((with_reducible refine gate_callee (f := 22) rfl ?_); refine goesL_ (some 108) rfl rfl Try.func22 (by kernel_rfl) rfl #[.int .i64 a1, .agg #[.int .i64 a0_0, .int .u32 a0_1, .int .u32 a0_2, .int .i64 a0_3, .int .u8 a0_4, .int .i64 a0_5, .bool a0_6, .bool a0_7], .int .u8 a2] rfl (by (try simp only [List.map_toArray, List.map_cons, List.map_nil]); first | done | rfl | (simp only [List.length_drop, List.length_take]; rfl)) ?_; (with_reducible refine (state_Order.calls kj21 a1 a0_0 a0_1 a0_2 a0_3 a0_4 a0_5 a0_6 a0_7 a2 t252 _ A115.out).mono ?_); rintro e w197 ⟨rfl, hb⟩; refine ⟨_, rfl, ?_⟩; have n0_ := Aside0.mk (blk_below (g := gb233) (o := .cells #[.int .i64 a0_0, .int .u32 a0_1, .int .u32 a0_2, .int .i64 a0_3, .int .u8 a0_4, .int .i64 a0_5, .bool a0_6, .bool a0_7] 24 (0, 0)) (by (with_reducible repeat (first | refine blk_drewN ?_ _ | refine blk_drew ?_ | refine blk_alloc ?_ _)); exact BK233.out) hb); have n1_ := Aside0.mk (blk_below (g := gb244) (o := .cells #[.int .i64 t235, .int .u32 t236, .int .u32 t237, .int .i64 t238, .int .u8 t239, .int .i64 t240, .bool t241, .bool t242] 24 (0, 0)) (by (with_reducible repeat (first | refine blk_drewN ?_ _ | refine blk_drew ?_ | refine blk_alloc ?_ _)); exact BK244.out) hb); have n2_ := Aside0.mk (below_step (by repeat (first | (with_reducible first | exact HB.out | apply below_alloc | apply pw_below_drewN | apply below_drew1 | refine below_set ?_ GE233.out | refine below_set ?_ GE244.out) | exact HB.out)) hb); clear BK233; clear BK244; clear HB; have BK233 := n0_; have BK244 := n1_; have HB := n2_; clear n0_ n1_ n2_; (try clear hb); (try clear hb2); (try clear hk); (try clear hi); obtain ⟨hcz198_0, hcz198_1, hcz198_2, hcz198_3, hcz198_4, hcz198_5, hcz198_6, hcz198_7, hfz198_0, hfz198_1, hfz198_2, hfz198_3, hfz198_4, hfz198_5, hfz198_6, hfz198_7⟩ := blkc8 BK244.out; obtain ⟨hcz199_0, hcz199_1, hcz199_2, hcz199_3, hcz199_4, hcz199_5, hcz199_6, hcz199_7, hfz199_0, hfz199_1, hfz199_2, hfz199_3, hfz199_4, hfz199_5, hfz199_6, hfz199_7⟩ := blkc8 BK233.out))
                        go_ret
                        exact ⟨by first | rfl | (simp [errW_none, errW_some] <;> rfl) | (simp [*, errW_none, errW_some] <;> rfl), by repeat (first | (with_reducible first | exact HB.out | apply below_alloc | apply pw_below_drewN | apply below_drew1 | refine below_set ?_ GE233.out | refine below_set ?_ GE244.out) | exact HB.out)⟩
                      · rw [if_neg c194] at H
                        have c194b0 : (a2 == 6) = false := beq_eq_false_iff_ne.mpr c194
                        have c194b1 : (a2 != 6) = true := bne_iff_ne.mpr c194
                        obtain rfl := Option.some.inj H
                        have hnb200 := NB233_244.out
                        have hnc200 := NB244_233.out
                        obtain ⟨hcz201_0, hcz201_1, hcz201_2, hcz201_3, hcz201_4, hcz201_5, hcz201_6, hcz201_7, hfz201_0, hfz201_1, hfz201_2, hfz201_3, hfz201_4, hfz201_5, hfz201_6, hfz201_7⟩ := blkc8 BK233.out
                        go_wp2_with (first | ((with_reducible refine gate_callee (f := 22) rfl ?_); refine goesL_ (some 108) rfl rfl Try.func22 (by kernel_rfl) rfl #[.int .i64 a1, .agg #[.int .i64 a0_0, .int .u32 a0_1, .int .u32 a0_2, .int .i64 a0_3, .int .u8 a0_4, .int .i64 a0_5, .bool a0_6, .bool a0_7], .int .u8 a2] rfl (by (try simp only [List.map_toArray, List.map_cons, List.map_nil]); first | done | rfl | (simp only [List.length_drop, List.length_take]; rfl)) ?_; (with_reducible refine (state_Order.calls kj21 a1 a0_0 a0_1 a0_2 a0_3 a0_4 a0_5 a0_6 a0_7 a2 t252 _ A115.out).mono ?_); rintro e w202 ⟨rfl, hb⟩; refine ⟨_, rfl, ?_⟩; have n0_ := Aside0.mk (blk_below (g := gb233) (o := .cells #[.int .i64 a0_0, .int .u32 a0_1, .int .u32 a0_2, .int .i64 a0_3, .int .u8 a0_4, .int .i64 a0_5, .bool a0_6, .bool a0_7] 24 (0, 0)) (by (with_reducible repeat (first | refine blk_drewN ?_ _ | refine blk_drew ?_ | refine blk_alloc ?_ _)); exact BK233.out) hb); have n1_ := Aside0.mk (blk_below (g := gb244) (o := .cells #[.int .i64 t235, .int .u32 t236, .int .u32 t237, .int .i64 t238, .int .u8 t239, .int .i64 t240, .bool t241, .bool t242] 24 (0, 0)) (by (with_reducible repeat (first | refine blk_drewN ?_ _ | refine blk_drew ?_ | refine blk_alloc ?_ _)); exact BK244.out) hb); have n2_ := Aside0.mk (below_step (by repeat (first | (with_reducible first | exact HB.out | apply below_alloc | apply pw_below_drewN | apply below_drew1 | refine below_set ?_ GE233.out | refine below_set ?_ GE244.out) | exact HB.out)) hb); clear BK233; clear BK244; clear HB; have BK233 := n0_; have BK244 := n1_; have HB := n2_; clear n0_ n1_ n2_; (try clear hb); (try clear hb2); (try clear hk); (try clear hi)))
                        go_ret
                        exact ⟨by first | rfl | (simp [errW_none, errW_some] <;> rfl) | (simp [*, errW_none, errW_some] <;> rfl), by repeat (first | (with_reducible first | exact HB.out | apply below_alloc | apply pw_below_drewN | apply below_drew1 | refine below_set ?_ GE233.out | refine below_set ?_ GE244.out) | exact HB.out)⟩
                · replace c167 := Bool.eq_false_iff.mpr c167
                  subst c167
                  have H1 : (some false) = some r := by rw [if_neg (show ¬ (false = true) by decide)] at H; exact H
                  clear H
                  have H := H1
                  clear H1
                  exact absurd ((Option.some.inj H).trans hT_.out) (by decide)

/-- THE ONE PURE STATEMENT of catamaranlaw19_StateNext: yours. -/
def catamaranlaw19_StateNext.Pure : Prop := ∀ (a0_0 : Int) (a0_1 : Int) (a0_2 : Int) (a0_3 : Int) (a0_4 : Int) (a0_5 : Int) (a0_6 : Bool) (a0_7 : Bool) (a1 : Int) (a2 : Int), (Lit.int .i64 a0_0).wf = true → (Lit.int .u32 a0_1).wf = true → (Lit.int .u32 a0_2).wf = true → (Lit.int .i64 a0_3).wf = true → (Lit.int .u8 a0_4).wf = true → (Lit.int .i64 a0_5).wf = true → (Lit.int .i64 a1).wf = true → (Lit.int .u8 a2).wf = true → ∃ k, catamaranlaw19_StateNext.f k a0_0 a0_1 a0_2 a0_3 a0_4 a0_5 a0_6 a0_7 a1 a2 = some true
theorem catamaranlaw19_StateNext.walk (P : catamaranlaw19_StateNext.Pure) (a0_0 : Int) (a0_1 : Int) (a0_2 : Int) (a0_3 : Int) (a0_4 : Int) (a0_5 : Int) (a0_6 : Bool) (a0_7 : Bool) (a1 : Int) (a2 : Int) (w : World)  (w0_0 : (Lit.int .i64 a0_0).wf = true) (w0_1 : (Lit.int .u32 a0_1).wf = true) (w0_2 : (Lit.int .u32 a0_2).wf = true) (w0_3 : (Lit.int .i64 a0_3).wf = true) (w0_4 : (Lit.int .u8 a0_4).wf = true) (w0_5 : (Lit.int .i64 a0_5).wf = true) (w1 : (Lit.int .i64 a1).wf = true) (w2 : (Lit.int .u8 a2).wf = true) :
    Calls Try.prog 7 #[.agg #[.int .i64 a0_0, .int .u32 a0_1, .int .u32 a0_2, .int .i64 a0_3, .int .u8 a0_4, .int .i64 a0_5, .bool a0_6, .bool a0_7], .int .i64 a1, .int .u8 a2] w fun e w' => e = .returned (.bool true) ∧ Below w.heap.size w w' := by
  obtain ⟨k, h⟩ := P a0_0 a0_1 a0_2 a0_3 a0_4 a0_5 a0_6 a0_7 a1 a2 w0_0 w0_1 w0_2 w0_3 w0_4 w0_5 w1 w2
  refine (catamaranlaw19_StateNext.calls k a0_0 a0_1 a0_2 a0_3 a0_4 a0_5 a0_6 a0_7 a1 a2 true w h ⟨rfl⟩).mono ?_
  rintro e w' ⟨rfl, hd⟩
  exact ⟨rfl, hd⟩

end Go.Proofs.Ytcnlgfoomeklbaa.PSn
