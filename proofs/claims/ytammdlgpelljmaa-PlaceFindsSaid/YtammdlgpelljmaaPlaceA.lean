/- What the package place's inner functions compute: within, Check, parts. -/
import Derived.Test.YtammdlgpelljmaaPureKit
import Derived.Test.YtammdlgpelljmaaProg
import Derived.Test.YtammdlgpelljmaaOursB
import Derived.WalkKit
import Derived.LoopTactic
import Derived.Laws.Rows
import Derived.OwnWalk
import Derived.Deep.RegionHeld3
import Derived.Deep.RegionHeld3
namespace Go.Proofs.Ytammdlgpelljmaa.PlaceWalk
open Go.RowKit Go.Proofs.YtammdlgpelljmaaW.PrintWords
def inB (b : Int × Int × Int) : Bool := decide (b.2.1 ≤ b.1) && decide (b.1 ≤ b.2.2)
def AtB (w : World) (g : Nat) (bs : List (Int × Int × Int)) : Prop := ∀ j (h : j < bs.length), w.cell? ⟨g, j * 3, none⟩ = some (.int .i64 bs[j].1) ∧ w.cell? ⟨g, j * 3 + 1, none⟩ = some (.int .i64 bs[j].2.1) ∧ w.cell? ⟨g, j * 3 + 2, none⟩ = some (.int .i64 bs[j].2.2)
theorem take_all {α : Type} (p : α → Bool) (l : List α) (k : Nat) (h : k < l.length) : (l.take (k + 1)).all p = ((l.take k).all p && p l[k]) := by
  rw [List.take_succ_eq_append_getElem h, List.all_append]; simp
theorem all_false {α : Type} {p : α → Bool} (l : List α) (k : Nat) (h : k < l.length) (hp : p l[k] = false) : l.all p = false := by
  rw [List.all_eq_false]; exact ⟨_, List.getElem_mem h, by simp [hp]⟩
theorem ret_bool {a b : Bool} (h : a = b) : Ending.returned (.bool a) = .returned (.bool b) := by rw [h]
set_option maxHeartbeats 1000000 in
theorem within_any (g : Nat) (bs : List (Int × Int × Int)) (w : World) (hl : bs.length ≤ 100) (hg : g < w.heap.size) (hc : AtB w g bs) :
    Calls Try.prog 64 #[.slice (some ⟨g, 0, none⟩) bs.length bs.length] w fun e w' => e = .returned (.bool (bs.all inB)) ∧ Below w.heap.size w w' := by
  have HC := Aside0.mk hc
  clear hc
  go_enter Try.func64, Try.ntmps64
  go_wp2
  go_loopw [7] (fun i wr => ∃ k : Nat, k ≤ bs.length ∧ i = .int .i64 k ∧ Aside0 ((bs.take k).all inB = true) ∧ Aside0 (Below w.heap.size w wr)) (fun i _ => bs.length - (intOf i).toNat)
  case atStart => exact ⟨0, by omega, rfl, ⟨by simp⟩, ⟨Below.refl _ _⟩⟩
  case round =>
    obtain ⟨k, hk, rfl, hall, hB⟩ := hrel
    by_cases hlt : k < bs.length
    · obtain ⟨h1, h2, h3⟩ := HC.out k hlt
      have hc1 := (hB.out.cell (p := ⟨g, k * 3, none⟩) hg).trans h1
      have hc2 := (hB.out.cell (p := ⟨g, k * 3 + 1, none⟩) hg).trans h2
      have hc3 := (hB.out.cell (p := ⟨g, k * 3 + 2, none⟩) hg).trans h3
      obtain ⟨x, hx⟩ : ∃ x, x = bs[k].1 := ⟨_, rfl⟩
      obtain ⟨y, hy⟩ : ∃ x, x = bs[k].2.1 := ⟨_, rfl⟩
      obtain ⟨z, hz⟩ : ∃ x, x = bs[k].2.2 := ⟨_, rfl⟩
      rw [← hx] at hc1
      rw [← hy] at hc2
      rw [← hz] at hc3
      have HX := Aside0.mk hx
      have HY := Aside0.mk hy
      have HZ := Aside0.mk hz
      have HT := Aside0.mk (take_all inB bs k hlt)
      clear hx hy hz h1 h2 h3
      go_wp2
      · go_ret
        have hb : inB bs[k] = false := by unfold inB; rw [← HX.out, ← HY.out, ← HZ.out, ← Bool.not_eq_true]; simp; omega
        exact ⟨ret_bool (all_false bs k hlt hb).symm, below_alloc hB.out _⟩
      · go_roundw
        case rel => exact ⟨k + 1, by omega, by go_num, ⟨by rw [HT.out, hall.out]; simp [inB, ← HX.out, ← HY.out, ← HZ.out]; omega⟩, ⟨below_alloc hB.out _⟩⟩
        case measure => simp [intOf]; omega
      · go_ret
        have hb : inB bs[k] = false := by unfold inB; rw [← HX.out, ← HY.out, ← HZ.out, ← Bool.not_eq_true]; simp; omega
        exact ⟨ret_bool (all_false bs k hlt hb).symm, below_alloc hB.out _⟩
    · obtain rfl : k = bs.length := by omega
      go_wp2
      go_ret
      have h1 := hall.out
      rw [List.take_length] at h1
      exact ⟨ret_bool h1.symm, hB.out⟩

/-- May a config be? -/
def pOk (a b c d e f : Int) : Bool := decide (1 ≤ a ∧ a ≤ 3 ∧ 1 ≤ b ∧ b ≤ 16 ∧ a + 2 ≤ c ∧ c ≤ 32 ∧ 1 ≤ d ∧ d ≤ a ∧ 1 ≤ e ∧ e ≤ 4 ∧ 4 ≤ f ∧ f ≤ 64)
def pErr (a b c d e f : Int) : Int := if pOk a b c d e f then 0 else 8
def six (a b c d e f : Int) : List (Int × Int × Int) := [(a, 1, 3), (b, 1, 16), (c, 1, 32), (d, 1, a), (e, 1, 4), (f, 4, 64)]
theorem pErr_no {a b c d e f : Int} (h : (six a b c d e f).all inB = false) : pErr a b c d e f = 8 := by
  unfold pErr pOk
  rw [if_neg]
  intro hp
  have := of_decide_eq_true hp
  rw [List.all_eq_false] at h
  obtain ⟨x, hx, hn⟩ := h
  simp only [six, List.mem_cons, List.not_mem_nil, or_false] at hx
  rcases hx with rfl | rfl | rfl | rfl | rfl | rfl <;> simp [inB] at hn <;> omega
theorem six_yes {a b c d e f : Int} (h : (six a b c d e f).all inB = true) : 1 ≤ a ∧ a ≤ 3 ∧ 1 ≤ b ∧ b ≤ 16 ∧ 1 ≤ c ∧ c ≤ 32 ∧ 1 ≤ d ∧ d ≤ a ∧ 1 ≤ e ∧ e ≤ 4 ∧ 4 ≤ f ∧ f ≤ 64 := by
  simp [six, inB] at h
  omega
theorem ret_i64 {a b : Int} (h : a = b) : Ending.returned (.int .i64 a) = .returned (.int .i64 b) := by rw [h]
theorem below_trans {w W w' : World} (h : Below w.heap.size w W) (h' : Below W.heap.size W w') : Below w.heap.size w w' := h.trans (h'.mono h.size)
theorem pErr_lt {a b c d e f : Int} (h : c < a + 2) : pErr a b c d e f = 8 := by
  unfold pErr pOk
  rw [if_neg]
  intro hp
  have := of_decide_eq_true hp
  omega
theorem pErr_ge {a b c d e f : Int} (h : 1 ≤ a ∧ a ≤ 3 ∧ 1 ≤ b ∧ b ≤ 16 ∧ 1 ≤ c ∧ c ≤ 32 ∧ 1 ≤ d ∧ d ≤ a ∧ 1 ≤ e ∧ e ≤ 4 ∧ 4 ≤ f ∧ f ≤ 64) (h2 : a + 2 ≤ c) : pErr a b c d e f = 0 := by
  unfold pErr pOk
  rw [if_pos (decide_eq_true (by omega))]
theorem lt2 (w : World) (A B : Obj) : w.heap.size < ((w.alloc A).alloc B).heap.size := by simp; omega
theorem six_at {w : World} {g t : Nat} {fr : Nat × Nat} {a b c d e f : Int} (h : w.heap[g]? = some (.cells #[.int .i64 a, .int .i64 1, .int .i64 3, .int .i64 b, .int .i64 1, .int .i64 16, .int .i64 c, .int .i64 1, .int .i64 32, .int .i64 d, .int .i64 1, .int .i64 a, .int .i64 e, .int .i64 1, .int .i64 4, .int .i64 f, .int .i64 4, .int .i64 64] t fr)) : AtB w g (six a b c d e f) := by
  intro j hj
  have hj6 : j < 6 := hj
  rcases (by omega : j = 0 ∨ j = 1 ∨ j = 2 ∨ j = 3 ∨ j = 4 ∨ j = 5) with rfl | rfl | rfl | rfl | rfl | rfl <;> exact ⟨(cell_of_row w g _ _ _ _ h).trans rfl, (cell_of_row w g _ _ _ _ h).trans rfl, (cell_of_row w g _ _ _ _ h).trans rfl⟩
set_option maxHeartbeats 1000000 in
theorem check_any (a b c d e f : Int) (w : World) :
    Calls Try.prog 26 #[.agg #[.int .i64 a, .int .i64 b, .int .i64 c, .int .i64 d, .int .i64 e, .int .i64 f]] w fun en w' => en = .returned (.int .i64 (pErr a b c d e f)) ∧ Below w.heap.size w w' := by
  go_enter Try.func26, Try.ntmps26
  cases hq : (six a b c d e f).all inB with
  | false =>
    have HQ := Aside0.mk hq
    clear hq
    go_wp2_with (go_at_call 64; refine (within_any (w.heap.size + 1) (six a b c d e f) _ (by simp [six]) (by simp) (six_at (heap_alloc2_new w _ _))).mono ?_; rintro en w1 ⟨rfl, hb⟩; rw [HQ.out]; have HB := Aside0.mk hb; clear hb)
    go_ret
    exact ⟨ret_i64 (pErr_no HQ.out).symm, below_trans (below_alloc (below_alloc (Below.refl _ _) _) _) HB.out⟩
  | true =>
    have hb := six_yes hq
    have HQ := Aside0.mk hq
    clear hq
    go_wp2_with (go_at_call 64; refine (within_any (w.heap.size + 1) (six a b c d e f) _ (by simp [six]) (by simp) (six_at (heap_alloc2_new w _ _))).mono ?_; rintro en w1 ⟨rfl, hb1⟩; rw [HQ.out]; have hc0 := (hb1.cell (p := ⟨w.heap.size, 0, none⟩) (lt2 _ _ _)).trans ((cell_of_row _ _ 0 _ _ _ (heap_alloc2_old w _ _)).trans rfl); have hc2 := (hb1.cell (p := ⟨w.heap.size, 2, none⟩) (lt2 _ _ _)).trans ((cell_of_row _ _ 2 _ _ _ (heap_alloc2_old w _ _)).trans rfl); have HB := Aside0.mk (below_trans (below_alloc (below_alloc (Below.refl _ _) _) _) hb1); clear hb1)
    · go_ret
      exact ⟨ret_i64 (pErr_lt (by assumption)).symm, HB.out⟩
    · go_ret
      exact ⟨ret_i64 (pErr_ge hb (by assumption)).symm, HB.out⟩

def pgs (b : Int) : Int := wrap64 (Int.tdiv (wrap64 ((wrap64 (b + 8)) - 1)) 8)
theorem pages_any (a b c d e f : Int) (w : World) :
    Calls Try.prog 62 #[.agg #[.int .i64 a, .int .i64 b, .int .i64 c, .int .i64 d, .int .i64 e, .int .i64 f]] w fun en w' => en = .returned (.int .i64 (pgs b)) ∧ Below w.heap.size w w' := by
  go_enter Try.func62, Try.ntmps62
  go_wp2
  go_ret
  exact ⟨ret_i64 rfl, below_alloc (Below.refl _ _) _⟩
theorem pages_same (a b c d e f : Int) (w : World) :
    Calls Try.prog 62 #[.agg #[.int .i64 a, .int .i64 b, .int .i64 c, .int .i64 d, .int .i64 e, .int .i64 f]] w fun en w' => en = .returned (.int .i64 (pgs b)) ∧ w' = w.alloc (.cells #[.int .i64 a, .int .i64 b, .int .i64 c, .int .i64 d, .int .i64 e, .int .i64 f] 23) := by
  go_enter Try.func62, Try.ntmps62
  go_wp2
  go_ret
  exact ⟨ret_i64 rfl, rfl⟩
def partsV (a b c : Int) : Value := .agg #[.int .u8 1, .int .i64 1, .int .i64 1, .int .i64 2, .int .u8 2, .int .i64 2, .int .i64 c, .int .i64 1, .int .u8 3, .int .i64 a, .int .i64 (pgs b), .int .i64 1, .int .u8 4, .int .i64 a, .int .i64 b, .int .i64 4]
set_option maxHeartbeats 4000000 in
theorem parts_any (a b c d e f : Int) (w : World) :
    Calls Try.prog 59 #[.agg #[.int .i64 a, .int .i64 b, .int .i64 c, .int .i64 d, .int .i64 e, .int .i64 f]] w fun en w' => en = .returned (partsV a b c) ∧ Below w.heap.size w w' := by
  go_enter Try.func59, Try.ntmps59
  go_wp2
  go_region_held3 (fun W => W.cell? ⟨w.heap.size, 0, none⟩ = some (.int .i64 a) ∧ W.cell? ⟨w.heap.size, 1, none⟩ = some (.int .i64 b) ∧ W.cell? ⟨w.heap.size, 2, none⟩ = some (.int .i64 c) ∧ W.cell? ⟨w.heap.size, 3, none⟩ = some (.int .i64 d) ∧ W.cell? ⟨w.heap.size, 4, none⟩ = some (.int .i64 e) ∧ W.cell? ⟨w.heap.size, 5, none⟩ = some (.int .i64 f)) (go_keep) (first | (go_at_call 62; refine (pages_same a b c d e f _).mono ?_; rintro en w1 ⟨rfl, rfl⟩))
  go_wp2
  refine bodyPost_ret (v := partsV a b c) (by simp [results, Try.results59, go_sem, partsV]) rfl ⟨rfl, ?_⟩
  repeat (first | exact Below.refl _ _ | apply below_alloc | apply below_drew | refine below_set ?_ (by simp) _)
end Go.Proofs.Ytammdlgpelljmaa.PlaceWalk
