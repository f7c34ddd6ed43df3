/- What req.head tells. The numbers are those of the seat Ytanpdbdpphdblaa. -/
import Derived.Test.YtanpdbdpphdblaaPureKit
import Derived.Test.YtanpdbdpphdblaaProg
import Derived.Test.YtanpdbdpphdblaaOursB
import Derived.WalkKit
import Derived.LoopTactic
import Derived.Laws.Rows
import Derived.OwnWalk
import Derived.Deep.RegionHeld3
namespace Go.Proofs.Ytanpdbdpphdblaa.ReqWalk
open Go.RowKit Go.Proofs.YtanpdbdpphdblaaW.PrintWords
theorem head_any (w : World) : Calls Try.prog 40 #[] w fun e w' => e = .returned (.agg #[.int .u8 199, .int .u8 1]) ∧ w' = w.alloc (.cells #[.int .u8 199, .int .u8 1] 74) := by
  go_enter Try.func40, Try.ntmps40
  go_wp2
  refine bodyPost_ret (v := .agg #[.int .u8 199, .int .u8 1]) (by simp [results, Try.results40, go_sem]) rfl ⟨rfl, ?_⟩
  first | rfl | simp
theorem arr2 (ad : Addr) (c : Nat) (W : World) : (Instr.arrayAt 74 (.slice (some ad) 2 c)).run Try.prog W = .ok (.pointer (some ad)) W := by
  simp [Instr.arrayAt, go_sem]
theorem eq2 (a b c d : Int) (w : World) : (Op.equalIn 10000 74 (.agg #[.int .u8 a, .int .u8 b]) (.agg #[.int .u8 c, .int .u8 d])).run Try.prog w = .ok (a == c && b == d) w := by
  have u3 := Try.underlying5
  have a3 := Try.isAgg5
  have z3 := Try.sizeOf5
  rw [show (10000 : Nat) = 9999 + 1 from rfl, Op.equalIn]
  simp only [Sem.run_bind, run_underlying Try.underlying74, Result.andThen_ok]
  simp only [Std.Legacy.Range.forIn_eq_forIn_range', Std.Legacy.Range.size, Nat.sub_zero, Nat.add_sub_cancel, Nat.div_one, List.range'_succ, List.range'_zero, List.forIn_cons, List.forIn_nil]
  go_simp
  by_cases h1 : a = c <;> by_cases h2 : b = d <;> simp [h1, h2]
theorem wrong_cells (w : World) (o1 o2 o4 : Obj) : ((((w.alloc o1).alloc o2).alloc (.cells #[.int .i64 280, .int .i64 281] 76)).alloc o4).cell? ⟨w.heap.size + 2, 0, none⟩ = some (.int .i64 280) ∧ ((((w.alloc o1).alloc o2).alloc (.cells #[.int .i64 280, .int .i64 281] 76)).alloc o4).cell? ⟨w.heap.size + 2, 1, none⟩ = some (.int .i64 281) := by
  have h := blk_alloc (blk_new ((w.alloc o1).alloc o2) (.cells #[.int .i64 280, .int .i64 281] 76)) o4
  rw [show ((w.alloc o1).alloc o2).heap.size = w.heap.size + 2 from by simp] at h
  exact ⟨(blk_cell h 0).trans rfl, (blk_cell h 1).trans rfl⟩
theorem far4 {W : World} {g : Nat} {a : Addr} {o : Option Value} (h : W.cell? a = o) (hn : a.block ≠ g) (u0 u1 u2 u3 : Value) : ((((W.setCell ⟨g, 0, none⟩ u0).setCell ⟨g, 1, none⟩ u1).setCell ⟨g, 2, none⟩ u2).setCell ⟨g, 3, none⟩ u3).cell? a = o :=
  (cell_far (p := ⟨g, 3, none⟩) hn u3).trans ((cell_far (p := ⟨g, 2, none⟩) hn u2).trans ((cell_far (p := ⟨g, 1, none⟩) hn u1).trans ((cell_far (p := ⟨g, 0, none⟩) hn u0).trans h)))
end Go.Proofs.Ytanpdbdpphdblaa.ReqWalk
