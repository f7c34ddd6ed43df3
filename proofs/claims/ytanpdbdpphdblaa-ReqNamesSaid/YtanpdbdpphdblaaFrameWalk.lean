/- What frame.Check tells (through the interface kind), walked by hand. The numbers are those of the seat Ytanpdbdpphdblaa. -/
import Derived.Test.YtanpdbdpphdblaaPureKit
import Derived.Test.YtanpdbdpphdblaaProg
import Derived.Test.YtanpdbdpphdblaaOursB
import Derived.WalkKit
import Derived.LoopTactic
import Derived.Laws.Rows
import Derived.OwnWalk
import Derived.Deep.RegionHeld3
namespace Go.Proofs.Ytanpdbdpphdblaa.FrameWalk
open Go.RowKit Go.Proofs.YtanpdbdpphdblaaW.PrintWords
theorem of_zero (w : World) : Calls Try.prog 38 #[.int .u32 0] w fun e w' => e = .returned (.iface 89 (.agg #[])) ∧ w' = w := by
  go_enter Try.func38, Try.ntmps38
  go_wp2
  go_ret
  exact ⟨rfl, rfl⟩
theorem of_more (s : Int) (h : s ≠ 0) (w : World) : Calls Try.prog 38 #[.int .u32 s] w fun e w' => e = .returned (.iface 90 (.agg #[])) ∧ w' = w := by
  have hb : (s == 0) = false := by simpa using h
  go_enter Try.func38, Try.ntmps38
  go_wp2
  go_ret
  exact ⟨rfl, rfl⟩
theorem ret_b {a b : Bool} (h : a = b) : Ending.returned (.bool a) = .returned (.bool b) := by rw [h]
theorem greet_any (A : Option Addr) (n c : Nat) (w : World) : Calls Try.prog 74 #[.agg #[], .slice A n c] w fun e w' => e = .returned (.bool (decide (n = 0))) ∧ w' = w.alloc (.cells #[] 89) := by
  go_enter Try.func74, Try.ntmps74
  go_wp2
  go_ret
  refine ⟨ret_b ?_, rfl⟩
  rw [Bool.eq_iff_iff, beq_iff_eq, decide_eq_true_eq]
  omega
theorem mess_any (A : Option Addr) (n c : Nat) (w : World) : Calls Try.prog 75 #[.agg #[], .slice A n c] w fun e w' => e = .returned (.bool (decide (1 ≤ n ∧ n ≤ 64))) ∧ w' = w.alloc (.cells #[] 90) := by
  by_cases h1 : (n : Int) < 1
  · have hd : decide (1 ≤ (n : Int)) = false := decide_eq_false (by omega)
    go_enter Try.func75, Try.ntmps75
    go_wp2
    go_ret
    refine ⟨ret_b ?_, rfl⟩
    rw [decide_eq_false (by omega)]
  · have hd : decide (1 ≤ (n : Int)) = true := decide_eq_true (by omega)
    go_enter Try.func75, Try.ntmps75
    go_wp2
    go_ret
    refine ⟨ret_b ?_, rfl⟩
    rw [Bool.eq_iff_iff]
    simp
    omega
set_option maxHeartbeats 4000000 in
set_option maxRecDepth 100000 in
theorem check_zero (y s k : Int) (A : Option Addr) (n c : Nat) (w : World) :
    Calls Try.prog 15 #[.agg #[.int .u32 0, .int .u32 y, .int .u32 s, .int .u32 k, .slice A n c]] w fun e w' => e = .returned (.int .i64 150) ∧ Below w.heap.size w w' := by
  go_enter Try.func15, Try.ntmps15
  go_wp2
  go_region
  go_wp2
  go_ret
  exact ⟨rfl, by repeat (first | exact Below.refl _ _ | apply below_alloc | apply below_drew)⟩
set_option maxHeartbeats 4000000 in
set_option maxRecDepth 100000 in
theorem check_greet (m y k : Int) (A : Option Addr) (n c : Nat) (w : World) (hm : m ≠ 0) :
    Calls Try.prog 15 #[.agg #[.int .u32 m, .int .u32 y, .int .u32 0, .int .u32 k, .slice A n c]] w fun e w' => e = .returned (.int .i64 (if n = 0 then 0 else 150)) ∧ Below w.heap.size w w' := by
  have hb : (m == 0) = false := by simpa using hm
  have hmt : ∀ W : World, (method 214 89 (.agg #[]) "catamaran/frame.fits").run Try.prog W = .ok (74, .agg #[]) W := fun _ => by kernel_rfl
  have hg := greet_any A n c
  obtain ⟨b, hbn⟩ : ∃ b, b = decide (n = 0) := ⟨_, rfl⟩
  rw [← hbn] at hg
  have hr : (if n = 0 then (0 : Int) else 150) = if b = true then 0 else 150 := by
    by_cases h : n = 0
    · rw [hbn, if_pos h, if_pos (decide_eq_true h)]
    · rw [hbn, if_neg h, if_neg (by simpa using h)]
  rw [hr]
  clear hr hbn
  cases b <;> (
    go_enter Try.func15, Try.ntmps15
    go_wp2
    go_region_held3 (fun W => W.cell? ⟨w.heap.size, 0, none⟩ = some (.int .u32 m) ∧ W.cell? ⟨w.heap.size, 2, none⟩ = some (.int .u32 0) ∧ W.cell? ⟨w.heap.size, 4, none⟩ = some (.slice A n c)) (go_keep) (first | (go_at_call 38; (refine (of_zero _).mono ?_); rintro e w1 ⟨rfl, rfl⟩) | (go_at_call 74; (refine (hg _).mono ?_); rintro e w1 ⟨rfl, rfl⟩))
    go_wp2
    go_ret
    exact ⟨rfl, by repeat (first | exact Below.refl _ _ | apply below_alloc | apply below_drew)⟩)
set_option maxHeartbeats 4000000 in
set_option maxRecDepth 100000 in
theorem check_mess (m y s k : Int) (A : Option Addr) (n c : Nat) (w : World) (hm : m ≠ 0) (hs : s ≠ 0) :
    Calls Try.prog 15 #[.agg #[.int .u32 m, .int .u32 y, .int .u32 s, .int .u32 k, .slice A n c]] w fun e w' => e = .returned (.int .i64 (if 1 ≤ n ∧ n ≤ 64 then 0 else 150)) ∧ Below w.heap.size w w' := by
  have hb : (m == 0) = false := by simpa using hm
  have hmt : ∀ W : World, (method 214 90 (.agg #[]) "catamaran/frame.fits").run Try.prog W = .ok (75, .agg #[]) W := fun _ => by kernel_rfl
  have hg := mess_any A n c
  have ho := of_more s hs
  clear hs
  obtain ⟨b, hbn⟩ : ∃ b, b = decide (1 ≤ n ∧ n ≤ 64) := ⟨_, rfl⟩
  rw [← hbn] at hg
  have hr : (if 1 ≤ n ∧ n ≤ 64 then (0 : Int) else 150) = if b = true then 0 else 150 := by
    by_cases h : 1 ≤ n ∧ n ≤ 64
    · rw [hbn, if_pos h, if_pos (decide_eq_true h)]
    · rw [hbn, if_neg h, if_neg (by rw [decide_eq_true_eq]; exact h)]
  rw [hr]
  clear hr hbn
  cases b <;> (
    go_enter Try.func15, Try.ntmps15
    go_wp2
    go_region_held3 (fun W => W.cell? ⟨w.heap.size, 0, none⟩ = some (.int .u32 m) ∧ W.cell? ⟨w.heap.size, 2, none⟩ = some (.int .u32 s) ∧ W.cell? ⟨w.heap.size, 4, none⟩ = some (.slice A n c)) (go_keep) (first | (go_at_call 38; (refine (ho _).mono ?_); rintro e w1 ⟨rfl, rfl⟩) | (go_at_call 75; (refine (hg _).mono ?_); rintro e w1 ⟨rfl, rfl⟩))
    go_wp2
    go_ret
    exact ⟨rfl, by repeat (first | exact Below.refl _ _ | apply below_alloc | apply below_drew)⟩)
end Go.Proofs.Ytanpdbdpphdblaa.FrameWalk
