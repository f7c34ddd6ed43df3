/- What bits.All and what it calls tell. The numbers are those of the seat Ytammdlgpelljmaa. -/
import Derived.Test.YtammdlgpelljmaaPureKit
import Derived.Test.YtammdlgpelljmaaProg
import Derived.Test.YtammdlgpelljmaaOursB
import Derived.WalkKit
import Derived.LoopTactic
import Derived.Laws.Rows
import Derived.Laws.CopyOwn
import Derived.OwnWalk
import Derived.Deep.RegionHeld3
namespace Go.Proofs.Ytammdlgpelljmaa.BitsWalk
open Go.RowKit Go.Proofs.YtammdlgpelljmaaW.PrintWords Go.Proofs.YtammdlgpelljmaaW.PrintLast
theorem size_any (n : Int) (b : Bool) (hb : b = decide (1 ≤ n ∧ n ≤ 16)) (w : World) : Calls Try.prog 70 #[.int .i64 n] w fun e w' => e = .returned (.bool b) ∧ w' = w := by
  by_cases h1 : n ≥ 1
  · have h2 : decide (n ≥ 1) = true := decide_eq_true h1
    have h3 : b = decide (n ≤ 16) := by
      rw [hb]
      by_cases h : n ≤ 16
      · rw [decide_eq_true h, decide_eq_true ⟨h1, h⟩]
      · rw [decide_eq_false h, decide_eq_false fun k => h k.2]
    rw [h3]
    go_enter Try.func70, Try.ntmps70
    go_wp2
    go_ret
    exact ⟨rfl, rfl⟩
  · have h2 : decide (n ≥ 1) = false := decide_eq_false h1
    have h3 : b = false := by rw [hb]; exact decide_eq_false fun k => h1 k.1
    rw [h3]
    go_enter Try.func70, Try.ntmps70
    go_wp2
    go_ret
    exact ⟨rfl, rfl⟩
theorem mul_1 (w : World) : Calls Try.prog 90 #[.int .u64 1, .int .u64 1] w fun e w' => e = .returned (.tuple #[.int .u64 0, .int .u64 1]) ∧ w' = w := by
  go_enter Try.func90, Try.ntmps90
  go_wp2
  go_ret2
  exact ⟨rfl, rfl⟩
theorem mul_2 (w : World) : Calls Try.prog 90 #[.int .u64 1, .int .u64 2] w fun e w' => e = .returned (.tuple #[.int .u64 0, .int .u64 2]) ∧ w' = w := by
  go_enter Try.func90, Try.ntmps90
  go_wp2
  go_ret2
  exact ⟨rfl, rfl⟩
theorem info5 : (Try.prog.info? 5).map (fun i => (i.zero, i.size, i.bytes)) = some (some (.int .u8 0), 1, 1) := by kernel_rfl
set_option maxHeartbeats 4000000 in
set_option maxRecDepth 100000 in
theorem repeat_1 (ad : Addr) (c : Nat) (w : World) (hx : w.cell? (ad.add 0) = some (.int .u8 255)) (hlt : ad.block < w.heap.size) : Calls Try.prog 71 #[.slice (some ad) 1 c, .int .i64 1] w fun e w' => e = .returned (.slice (some ⟨w.heap.size, 0, none⟩) 1 1) ∧ w'.heap[w.heap.size]? = some (.cells #[.int .u8 255] 5 (0, 0)) ∧ Below w.heap.size w w' := by
  obtain ⟨i0, hi, hz0, hz1, hz2⟩ := info_parts info5
  have hmk := fun W => run_make (P := Try.prog) W 42 5 i0 (.int .u8 0) Try.underlying42 hi hz0 .i64 .i64 1 1 (by omega) (by omega) (by rw [hz2]; omega) (by omega)
  have H1 : ∀ v ∈ [Value.int .u8 255], v.oneCell' = true := by intro v hv; obtain rfl := List.mem_singleton.1 hv; rfl
  have HS : ∀ W : World, Below w.heap.size w W → ∀ j v, [Value.int .u8 255][j]? = some v → W.cell? (ad.add j) = some v := by
    intro W hW j v hj
    match j, hj with
    | 0, hj => simp at hj; subst hj; exact (hW.cell (p := ad.add 0) hlt).trans hx
    | (j + 1), hj => simp at hj
  have HSA := Aside0.mk HS
  have H1A := Aside0.mk H1
  clear HS H1
  have hmc : madeCells #[Value.int .u8 0] 1 = #[Value.int .u8 0] := by
    rw [show madeCells #[Value.int .u8 0] 1 = (List.replicate 1 (Value.int .u8 0)).toArray from by rw [← toList_madeCells_one]]
    rfl
  replace hmk : ∀ W : World, (Instr.makeSlice 42 (.int .i64 1) (.int .i64 1)).run Try.prog W = .ok (.slice (some ⟨W.heap.size, 0, none⟩) 1 1) (W.alloc (.cells #[.int .u8 0] 5)) := fun W => by
    rw [hmk W, hz1, ← hmc]
    rfl
  go_enter Try.func71, Try.ntmps71
  go_wp2_with (first
    | (go_at_call 90; (refine (mul_1 _).mono ?_); rintro e w1 ⟨rfl, h_⟩; obtain rfl := h_.symm)
    | (refine wpList_copy_splice rfl (.tmp 31) (.tmp 32) 42 42 rfl 5 Try.underlying42 (by rw [hi]; simp [hz1]) (some ⟨w.heap.size, 0, none⟩) (some ad) 1 1 1 c rfl rfl w.heap.size 0 [.int .u8 0] 5 ?cg [.int .u8 255] ?cn ?cp ?cf ?c1 w.heap.size w ?cb (Nat.le_refl _) ?_; go_loud ((case cg => exact heap_alloc_new w _); (case cn => simp); (case cp => exact fun _ => ⟨rfl, ad, rfl, HSA.out _ (below_alloc (Below.refl _ _) _)⟩); (case cf => simp); (case c1 => exact H1A.out); (case cb => exact below_alloc (Below.refl _ _) _)); intro w4 hg4 hb4))
  refine wp_loop_rounds 2 ?_
  rw [rounds_succ]
  go_wp2_with (fail)
  go_ret
  exact ⟨rfl, hg4, hb4⟩
set_option maxHeartbeats 4000000 in
set_option maxRecDepth 100000 in
theorem repeat_2 (ad : Addr) (c : Nat) (w : World) (hx : w.cell? (ad.add 0) = some (.int .u8 255)) (hlt : ad.block < w.heap.size) : Calls Try.prog 71 #[.slice (some ad) 1 c, .int .i64 2] w fun e w' => e = .returned (.slice (some ⟨w.heap.size, 0, none⟩) 2 2) ∧ w'.heap[w.heap.size]? = some (.cells #[.int .u8 255, .int .u8 255] 5 (0, 0)) ∧ Below w.heap.size w w' := by
  obtain ⟨i0, hi, hz0, hz1, hz2⟩ := info_parts info5
  have hmk := fun W => run_make (P := Try.prog) W 42 5 i0 (.int .u8 0) Try.underlying42 hi hz0 .i64 .i64 2 2 (by omega) (by omega) (by rw [hz2]; omega) (by omega)
  have H1 : ∀ v ∈ [Value.int .u8 255], v.oneCell' = true := by intro v hv; obtain rfl := List.mem_singleton.1 hv; rfl
  have HS : ∀ W : World, Below w.heap.size w W → ∀ j v, [Value.int .u8 255][j]? = some v → W.cell? (ad.add j) = some v := by
    intro W hW j v hj
    match j, hj with
    | 0, hj => simp at hj; subst hj; exact (hW.cell (p := ad.add 0) hlt).trans hx
    | (j + 1), hj => simp at hj
  have HSA := Aside0.mk HS
  have H1A := Aside0.mk H1
  clear HS H1
  have hmc : madeCells #[Value.int .u8 0] 2 = #[Value.int .u8 0, Value.int .u8 0] := by
    rw [show madeCells #[Value.int .u8 0] 2 = (List.replicate 2 (Value.int .u8 0)).toArray from by rw [← toList_madeCells_one]]
    rfl
  replace hmk : ∀ W : World, (Instr.makeSlice 42 (.int .i64 2) (.int .i64 2)).run Try.prog W = .ok (.slice (some ⟨W.heap.size, 0, none⟩) 2 2) (W.alloc (.cells #[.int .u8 0, .int .u8 0] 5)) := fun W => by
    rw [hmk W, hz1, ← hmc]
    rfl
  go_enter Try.func71, Try.ntmps71
  go_wp2_with (first
    | (go_at_call 90; (refine (mul_2 _).mono ?_); rintro e w1 ⟨rfl, h_⟩; obtain rfl := h_.symm)
    | (refine wpList_copy_splice rfl (.tmp 31) (.tmp 32) 42 42 rfl 5 Try.underlying42 (by rw [hi]; simp [hz1]) (some ⟨w.heap.size, 0, none⟩) (some ad) 2 2 1 c rfl rfl w.heap.size 0 [.int .u8 0, .int .u8 0] 5 ?cg [.int .u8 255] ?cn ?cp ?cf ?c1 w.heap.size w ?cb (Nat.le_refl _) ?_; go_loud ((case cg => exact heap_alloc_new w _); (case cn => simp); (case cp => exact fun _ => ⟨rfl, ad, rfl, HSA.out _ (below_alloc (Below.refl _ _) _)⟩); (case cf => simp); (case c1 => exact H1A.out); (case cb => exact below_alloc (Below.refl _ _) _)); intro w4 hg4 hb4))
  have hcut1 := cut_from (P := Try.prog) 42 5 .i64 Try.underlying42 hi 1 hz1 (some ⟨w.heap.size, 0, none⟩) 2 2 1 (by omega) (by omega)
  have hcut2 := cut_to (P := Try.prog) 42 5 .i64 Try.underlying42 hi (some ⟨w.heap.size, 0, none⟩) 2 2 1 (by omega) (by omega) (by omega)
  replace hcut1 : ∀ W : World, (Instr.slice 42 (.slice (some ⟨w.heap.size, 0, none⟩) 2 2) (some (.int .i64 1)) none none).run Try.prog W = .ok (.slice (some ⟨w.heap.size, 1, none⟩) 1 1) W := hcut1
  replace hcut2 : ∀ W : World, (Instr.slice 42 (.slice (some ⟨w.heap.size, 0, none⟩) 2 2) none (some (.int .i64 1)) none).run Try.prog W = .ok (.slice (some ⟨w.heap.size, 0, none⟩) 1 2) W := hcut2
  refine wp_loop_rounds 3 ?_
  rw [rounds_succ]
  go_wp2_with (fail)
  have hg5 : w4.drew.heap[w.heap.size]? = some (.cells #[.int .u8 255, .int .u8 0] 5 (0, 0)) := hg4
  have hsrc : ∀ j v, [Value.int .u8 255][j]? = some v → w4.drew.cell? ((⟨w.heap.size, 0, none⟩ : Addr).add j) = some v := by
    intro j v hj
    match j, hj with
    | 0, hj => simp at hj; subst hj; exact (blk_cell hg5 0).trans rfl
    | (j + 1), hj => simp at hj
  go_region_held3 (fun _ => True) (trivial) (first | (refine step_copy_splice rfl (.tmp 41) (.tmp 44) 42 42 rfl 5 Try.underlying42 (by rw [hi]; simp [hz1]) (some ⟨w.heap.size, 1, none⟩) (some ⟨w.heap.size, 0, none⟩) 1 1 1 2 rfl rfl w.heap.size 1 [.int .u8 255, .int .u8 0] 5 ?cg [.int .u8 255] ?cn ?cp ?cf ?c1 w.heap.size w ?cb (Nat.le_refl _) ?_; (case cg => exact hg5); (case cn => simp); (case cp => exact fun _ => ⟨rfl, _, rfl, hsrc⟩); (case cf => simp); (case c1 => exact H1A.out); (case cb => exact below_drew hb4); intro w5 hg6 hb5))
  go_wp2_with (fail)
  rw [rounds_succ]
  go_wp2_with (fail)
  go_ret
  exact ⟨rfl, hg6, hb5⟩
/-- The bytes of the set of all of n tracks. -/
def allI (n : Int) : List Int := if n ≤ 8 then [2 ^ n.toNat - 1] else [255, 2 ^ (n - 8).toNat - 1]
set_option maxHeartbeats 4000000 in
set_option maxRecDepth 100000 in
theorem all_1 (n : Int) (w : World) (h1 : 1 ≤ n) (h8 : n ≤ 8) : Calls Try.prog 32 #[.int .i64 n] w fun e w' => ∃ v : Value, e = .returned (.tuple #[v, .int .i64 0]) ∧ Kd.R (Kd.int .u8) 5 w' w.heap.size (fun _ => True) v (allI n) ∧ Below w.heap.size w w' := by
  have HB := Aside0.mk (Below.refl w.heap.size w)
  rcases (by omega : n = 1 ∨ n = 2 ∨ n = 3 ∨ n = 4 ∨ n = 5 ∨ n = 6 ∨ n = 7 ∨ n = 8) with rfl | rfl | rfl | rfl | rfl | rfl | rfl | rfl
  all_goals (
    go_enter Try.func32, Try.ntmps32
    go_wp2_with (first
      | (go_at_call 70; (refine (size_any _ true (by decide) _).mono ?_); rintro e w1 ⟨rfl, h_⟩; obtain rfl := h_.symm)
      | (go_at_call 71; (refine (repeat_1 ⟨w.heap.size, 0, none⟩ 1 _ ((blk_cell (blk_new w _) 0).trans rfl) (blk_lt (blk_new w _))).mono ?_); rintro e w2 ⟨rfl, hk2, hb2⟩; rw [show (w.alloc (.cells #[.int .u8 255] 5)).heap.size = w.heap.size + 1 from by simp] at hk2; have hc2 := (blk_cell hk2 0).trans rfl; have hf2 := blk_frozen hk2 0))
    go_ret2
    refine ⟨_, rfl, row_whole (xs := allI _) (by first | exact hk2 | exact blk_put hk2 0 _ rfl) (by rfl) (by simp) (by decide), ?_⟩
    have hbA := below_step (below_alloc HB.out (.cells #[.int .u8 255] 5)) hb2
    first | exact hbA | (refine below_set hbA (by simp)))
set_option maxHeartbeats 4000000 in
set_option maxRecDepth 100000 in
theorem all_2 (n : Int) (w : World) (h1 : 9 ≤ n) (h8 : n ≤ 16) : Calls Try.prog 32 #[.int .i64 n] w fun e w' => ∃ v : Value, e = .returned (.tuple #[v, .int .i64 0]) ∧ Kd.R (Kd.int .u8) 5 w' w.heap.size (fun _ => True) v (allI n) ∧ Below w.heap.size w w' := by
  have HB := Aside0.mk (Below.refl w.heap.size w)
  rcases (by omega : n = 9 ∨ n = 10 ∨ n = 11 ∨ n = 12 ∨ n = 13 ∨ n = 14 ∨ n = 15 ∨ n = 16) with rfl | rfl | rfl | rfl | rfl | rfl | rfl | rfl
  all_goals (
    go_enter Try.func32, Try.ntmps32
    go_wp2_with (first
      | (go_at_call 70; (refine (size_any _ true (by decide) _).mono ?_); rintro e w1 ⟨rfl, h_⟩; obtain rfl := h_.symm)
      | (go_at_call 71; (refine (repeat_2 ⟨w.heap.size, 0, none⟩ 1 _ ((blk_cell (blk_new w _) 0).trans rfl) (blk_lt (blk_new w _))).mono ?_); rintro e w2 ⟨rfl, hk2, hb2⟩; rw [show (w.alloc (.cells #[.int .u8 255] 5)).heap.size = w.heap.size + 1 from by simp] at hk2; have hc2 := (blk_cell hk2 1).trans rfl; have hf2 := blk_frozen hk2 1))
    go_ret2
    refine ⟨_, rfl, row_whole (xs := allI _) (by first | exact hk2 | exact blk_put hk2 1 _ rfl) (by rfl) (by simp) (by decide), ?_⟩
    have hbA := below_step (below_alloc HB.out (.cells #[.int .u8 255] 5)) hb2
    first | exact hbA | (refine below_set hbA (by simp)))
theorem all_no (n : Int) (w : World) (h : ¬ (1 ≤ n ∧ n ≤ 16)) : Calls Try.prog 32 #[.int .i64 n] w fun e w' => e = .returned (.tuple #[.slice none 0 0, .int .i64 2]) ∧ w' = w := by
  go_enter Try.func32, Try.ntmps32
  go_wp2_with (first
    | (go_at_call 70; (refine (size_any _ false (decide_eq_false h).symm _).mono ?_); rintro e w1 ⟨rfl, h_⟩; obtain rfl := h_.symm))
  go_ret2
  exact ⟨rfl, rfl⟩
end Go.Proofs.Ytammdlgpelljmaa.BitsWalk
