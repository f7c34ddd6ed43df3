import Derived.Test.YtammdlgpelljmaaBitsWalk
import Derived.LoopTactic
import Derived.Lib.SliceRun
import Derived.Outline
namespace Go.Proofs.Ytammdlgpelljmaa.BitsWalk
open Go.RowKit Go.Proofs.YtammdlgpelljmaaW.PrintWords Go.Proofs.YtammdlgpelljmaaW.PrintLast
def outB (n t : Int) : Bool := decide (t < 0) || decide (t ≥ n)
theorem out_any (t n : Int) (g : Nat) (w : World) (h : w.cell? ⟨g, 0, none⟩ = some (.int .i64 n)) : Calls Try.prog 66 #[.int .i64 t, .pointer (some ⟨g, 0, none⟩)] w fun e w' => e = .returned (.bool (outB n t)) ∧ w' = w := by
  by_cases h1 : t < 0
  · have h2 : decide (t < 0) = true := decide_eq_true h1
    have h3 : outB n t = true := by unfold outB; rw [h2]; rfl
    rw [h3]
    go_enter Try.func66, Try.ntmps66
    go_wp2
    go_ret
    exact ⟨rfl, rfl⟩
  · have h2 : decide (t < 0) = false := decide_eq_false h1
    have h3 : outB n t = decide (t ≥ n) := by unfold outB; rw [h2]; rfl
    rw [h3]
    go_enter Try.func66, Try.ntmps66
    go_wp2
    go_ret
    exact ⟨rfl, rfl⟩
set_option maxHeartbeats 4000000 in
set_option maxRecDepth 100000 in
theorem index_any (A : Option Addr) (c : Nat) (l : List Int) (n : Int) (g : Nat) (w : World) (hC : Kd.C (Kd.int .i64) w A l.length l) (hl : l.length < 1000000) (h : w.cell? ⟨g, 0, none⟩ = some (.int .i64 n)) :
    Calls Try.prog 88 #[.slice A l.length c, .func (.func 66) #[] #[.pointer (some ⟨g, 0, none⟩)]] w fun e w' => (∃ r : Int, e = .returned (.int .i64 r) ∧ (decide (r ≥ 0) = l.any (outB n))) ∧ w' = w := by
  have HC := Aside0.mk hC
  clear hC
  go_enter Try.func88, Try.ntmps88
  go_wp2
  go_loopw [8] (fun i wr => ∃ k : Nat, k ≤ l.length ∧ i = .int .i64 k ∧ Aside0 ((l.take k).any (outB n) = false) ∧ wr = w) (fun i _ => l.length - (intOf i).toNat)
  case atStart => exact ⟨0, by omega, rfl, ⟨by simp⟩, rfl⟩
  case round =>
    obtain ⟨k, hk, rfl, hno, rfl⟩ := hrel
    by_cases hlt : k < l.length
    · obtain ⟨ad, e, hx⟩ := Kd.at_int HC.out (k : Int) (by omega) (by omega)
      cases e
      rw [Int.toNat_natCast, Kit.rd_get hlt] at hx
      obtain ⟨x, hxe⟩ : ∃ x, x = l[k] := ⟨_, rfl⟩
      rw [← hxe] at hx
      have hsp : l.take (k + 1) = l.take k ++ [x] := by rw [hxe, List.take_succ_eq_append_getElem hlt]
      have HX := Aside0.mk hsp
      clear hsp hxe
      have hcall := fun W hW => out_any x n g W hW
      obtain ⟨b, hb⟩ : ∃ b, b = outB n x := ⟨_, rfl⟩
      rw [← hb] at hcall
      have HBb := Aside0.mk hb
      clear hb
      cases b
      · go_wp2_with (first | (go_at_call 66; (with_reducible refine (hcall _ h).mono ?_); rintro e w1 ⟨rfl, h_⟩; obtain rfl := h_.symm))
        go_roundw
        case rel => exact ⟨k + 1, by omega, by go_num, ⟨by rw [HX.out, List.any_append, hno.out, List.any_cons, ← HBb.out]; rfl⟩, trivial⟩
        case measure => simp [intOf]; omega
      · go_wp2_with (first | (go_at_call 66; (with_reducible refine (hcall _ h).mono ?_); rintro e w1 ⟨rfl, h_⟩; obtain rfl := h_.symm))
        go_ret
        refine ⟨⟨k, rfl, ?_⟩, rfl⟩
        rw [decide_eq_true (show (k : Int) ≥ 0 by omega), ← List.take_append_drop (k + 1) l, HX.out, List.any_append, List.any_append, List.any_cons, ← HBb.out]
        simp
    · obtain rfl : k = l.length := by omega
      have h9 : ((l.length : Int) < (l.length : Int)) = False := by simp
      go_wp2
      go_ret
      refine ⟨⟨-1, rfl, ?_⟩, rfl⟩
      have hno := hno.out
      rw [List.take_length] at hno
      rw [hno]
      rfl
theorem contains_any (A : Option Addr) (c : Nat) (l : List Int) (n : Int) (g : Nat) (w : World) (hC : Kd.C (Kd.int .i64) w A l.length l) (hl : l.length < 1000000) (h : w.cell? ⟨g, 0, none⟩ = some (.int .i64 n)) :
    Calls Try.prog 65 #[.slice A l.length c, .func (.func 66) #[] #[.pointer (some ⟨g, 0, none⟩)]] w fun e w' => e = .returned (.bool (l.any (outB n))) ∧ w' = w := by
  have hI := index_any A c l n g w hC hl h
  go_enter Try.func65, Try.ntmps65
  go_wp2_with (first | (go_at_call 88; (refine hI.mono ?_); rintro e w1 ⟨⟨r, rfl, hr⟩, h_⟩; obtain rfl := h_.symm))
  go_ret
  exact ⟨by rw [← hr]; rfl, rfl⟩

theorem bit_any (t : Int) (w : World) (h0 : 0 ≤ t) (h16 : t < 16) : Calls Try.prog 67 #[.int .i64 t] w fun e w' => e = .returned (.int .u8 (2 ^ (t % 8).toNat)) ∧ w' = w := by
  rcases (by omega : t = 0 ∨ t = 1 ∨ t = 2 ∨ t = 3 ∨ t = 4 ∨ t = 5 ∨ t = 6 ∨ t = 7 ∨ t = 8 ∨ t = 9 ∨ t = 10 ∨ t = 11 ∨ t = 12 ∨ t = 13 ∨ t = 14 ∨ t = 15) with rfl | rfl | rfl | rfl | rfl | rfl | rfl | rfl | rfl | rfl | rfl | rfl | rfl | rfl | rfl | rfl
  all_goals (
    go_enter Try.func67, Try.ntmps67
    go_wp2
    go_ret
    exact ⟨rfl, rfl⟩)
/-- One track more in a set. -/
def orT (s : List Int) (t : Int) : List Int := s.set (t / 8).toNat (Go.bits .or .u8 (rd s (t / 8)) (2 ^ (t % 8).toNat))
def orI (s : List Int) : List Int → List Int
  | [] => s
  | t :: l => orI (orT s t) l
theorem orI_append (l m : List Int) : ∀ s, orI s (l ++ m) = orI (orI s l) m := by
  induction l with
  | nil => intro s; rfl
  | cons t l ih => intro s; exact ih (orT s t)
theorem orT_length (s : List Int) (t : Int) : (orT s t).length = s.length := by simp [orT]
theorem orI_length (l : List Int) : ∀ s, (orI s l).length = s.length := by
  induction l with
  | nil => intro s; rfl
  | cons t l ih => intro s; exact (ih _).trans (orT_length _ _)
def row8 (l : List Int) : Array Value := (l.map (fun x => Value.int .u8 x)).toArray
set_option maxHeartbeats 4000000 in
set_option maxRecDepth 100000 in
theorem all_blk1 (n : Int) (w : World) (h1 : 1 ≤ n) (h8 : n ≤ 8) : Calls Try.prog 32 #[.int .i64 n] w fun e w' => ∃ B, e = .returned (.tuple #[.slice (some ⟨B, 0, none⟩) (allI n).length (allI n).length, .int .i64 0]) ∧ w'.heap[B]? = some (.cells (row8 (allI n)) 5 (0, 0)) ∧ w.heap.size ≤ B ∧ Below w.heap.size w w' := by
  have HB := Aside0.mk (Below.refl w.heap.size w)
  rcases (by omega : n = 1 ∨ n = 2 ∨ n = 3 ∨ n = 4 ∨ n = 5 ∨ n = 6 ∨ n = 7 ∨ n = 8) with rfl | rfl | rfl | rfl | rfl | rfl | rfl | rfl
  all_goals (
    go_enter Try.func32, Try.ntmps32
    go_wp2_with (first
      | (go_at_call 70; (refine (size_any _ true (by decide) _).mono ?_); rintro e w1 ⟨rfl, h_⟩; obtain rfl := h_.symm)
      | (go_at_call 71; (refine (repeat_1 ⟨w.heap.size, 0, none⟩ 1 _ ((blk_cell (blk_new w _) 0).trans rfl) (blk_lt (blk_new w _))).mono ?_); rintro e w2 ⟨rfl, hk2, hb2⟩; rw [show (w.alloc (.cells #[.int .u8 255] 5)).heap.size = w.heap.size + 1 from by simp] at hk2; have hc2 := (blk_cell hk2 0).trans rfl; have hf2 := blk_frozen hk2 0))
    go_ret2
    have hbA := below_step (below_alloc HB.out (.cells #[.int .u8 255] 5)) hb2
    refine ⟨_, rfl, (by first | exact hk2 | exact blk_put hk2 0 _ rfl), by simp, ?_⟩
    first | exact hbA | (refine below_set hbA (by simp)))
set_option maxHeartbeats 4000000 in
set_option maxRecDepth 100000 in
theorem all_blk2 (n : Int) (w : World) (h1 : 9 ≤ n) (h8 : n ≤ 16) : Calls Try.prog 32 #[.int .i64 n] w fun e w' => ∃ B, e = .returned (.tuple #[.slice (some ⟨B, 0, none⟩) (allI n).length (allI n).length, .int .i64 0]) ∧ w'.heap[B]? = some (.cells (row8 (allI n)) 5 (0, 0)) ∧ w.heap.size ≤ B ∧ Below w.heap.size w w' := by
  have HB := Aside0.mk (Below.refl w.heap.size w)
  rcases (by omega : n = 9 ∨ n = 10 ∨ n = 11 ∨ n = 12 ∨ n = 13 ∨ n = 14 ∨ n = 15 ∨ n = 16) with rfl | rfl | rfl | rfl | rfl | rfl | rfl | rfl
  all_goals (
    go_enter Try.func32, Try.ntmps32
    go_wp2_with (first
      | (go_at_call 70; (refine (size_any _ true (by decide) _).mono ?_); rintro e w1 ⟨rfl, h_⟩; obtain rfl := h_.symm)
      | (go_at_call 71; (refine (repeat_2 ⟨w.heap.size, 0, none⟩ 1 _ ((blk_cell (blk_new w _) 0).trans rfl) (blk_lt (blk_new w _))).mono ?_); rintro e w2 ⟨rfl, hk2, hb2⟩; rw [show (w.alloc (.cells #[.int .u8 255] 5)).heap.size = w.heap.size + 1 from by simp] at hk2; have hc2 := (blk_cell hk2 1).trans rfl; have hf2 := blk_frozen hk2 1))
    go_ret2
    have hbA := below_step (below_alloc HB.out (.cells #[.int .u8 255] 5)) hb2
    refine ⟨_, rfl, (by first | exact hk2 | exact blk_put hk2 1 _ rfl), by simp, ?_⟩
    first | exact hbA | (refine below_set hbA (by simp)))
theorem all_blk (n : Int) (w : World) (h1 : 1 ≤ n) (h16 : n ≤ 16) : Calls Try.prog 32 #[.int .i64 n] w fun e w' => ∃ B, e = .returned (.tuple #[.slice (some ⟨B, 0, none⟩) (allI n).length (allI n).length, .int .i64 0]) ∧ w'.heap[B]? = some (.cells (row8 (allI n)) 5 (0, 0)) ∧ w.heap.size ≤ B ∧ Below w.heap.size w w' := by
  by_cases h : n ≤ 8
  · exact all_blk1 n w h1 h
  · exact all_blk2 n w (by omega) h16
theorem info5z : (Try.prog.info? 5).map (fun i => (i.zero, i.size, i.bytes)) = some (some (.int .u8 0), 1, 1) := by kernel_rfl
theorem zero5 (w : World) : (zeroValue 5).run Try.prog w = .ok (.int .u8 0) w := by kernel_rfl
theorem clear_blk {w W : World} {B m : Nat} {D : Array Value} (h : W.heap[B]? = some (.cells D 5 (0, 0))) (hD : D.size = m) (hm : 0 < m) (hB : w.heap.size ≤ B) (hb : Below w.heap.size w W) :
    ∃ W' : World, (∀ ty, (Builtin.clear_ #[42] ty #[.slice (some ⟨B, 0, none⟩) m m]).run Try.prog W = .ok (.tuple #[]) W') ∧ W'.heap[B]? = some (.cells (row8 (List.replicate m 0)) 5 (0, 0)) ∧ Below w.heap.size w W' := by
  obtain ⟨i0, hi, hz0, hz1, hz2⟩ := info_parts info5z
  obtain ⟨cur, h1, h2, h3⟩ := setCells_row (List.replicate m (Value.int .u8 0)) 0 W D h (by simp; omega)
  have hcur : cur = row8 (List.replicate m 0) := by
    apply Array.ext'
    rw [h3]
    simp [row8, hD]
  obtain ⟨k1, k2, k3, k4⟩ := setCells_same B (List.replicate m (Value.int .u8 0)) 0 W
  refine ⟨W.setCells B 0 (List.replicate m (Value.int .u8 0)), fun ty => Go.Lib.run_clear_slice (P := Try.prog) W 42 5 ty (.int .u8 0) Try.underlying42 (fun w => ?_) rfl rfl B 0 m m hm (fun j hj => ?_) (fun j hj => ?_), by rw [h1, hcur], ?_⟩
  · exact zero5 w
  · rw [Nat.zero_add, blk_cell h j]; simp [hD, hj]
  · rw [Nat.zero_add]; exact blk_frozen h j
  · exact ⟨k1.trans hb.os, k2.trans hb.tape, k3.trans hb.output, by rw [k4]; exact hb.size, fun k hk => (setCells_far _ _ k (by omega)).trans (hb.block k hk)⟩
set_option maxHeartbeats 4000000 in
set_option maxRecDepth 100000 in
theorem of_good (A : Option Addr) (c : Nat) (l : List Int) (n : Int) (w : World) (hC : Kd.C (Kd.int .i64) w A l.length l) (hl : l.length < 1000000) (h1 : 1 ≤ n) (h16 : n ≤ 16) (hin : l.any (outB n) = false) :
    Calls Try.prog 30 #[.int .i64 n, .slice A l.length c] w fun e w' => ∃ v : Value, e = .returned (.tuple #[v, .int .i64 0]) ∧ Kd.R (Kd.int .u8) 5 w' w.heap.size (fun _ => True) v (orI (List.replicate (allI n).length 0) l) ∧ Below w.heap.size w w' := by
  have HC := Aside0.mk hC
  have HL := Aside0.mk hl
  have HIN := Aside0.mk hin
  have H1 := Aside0.mk h1
  have H16 := Aside0.mk h16
  clear hC hin hl h1 h16
  have HB := Aside0.mk (Below.refl w.heap.size w)
  have hALL := fun W => all_blk n W H1.out H16.out
  obtain ⟨m, hm⟩ : ∃ m, m = (allI n).length := ⟨_, rfl⟩
  have hm0 : 1 ≤ m ∧ m ≤ 2 := by
    rw [hm]; unfold allI; split <;> simp
  have hmn : n ≤ 8 * m := by
    have := H1.out; have := H16.out
    rw [hm]; unfold allI; split <;> simp <;> omega
  rw [← hm] at hALL ⊢
  have HM := Aside0.mk hm
  clear hm
  obtain ⟨D0, hD0⟩ : ∃ D0, D0 = row8 (allI n) := ⟨_, rfl⟩
  rw [← hD0] at hALL
  have hD0s : D0.size = m := by rw [hD0, HM.out]; simp [row8]
  have HD0 := Aside0.mk hD0s
  have HMn := Aside0.mk hmn
  have HM0 := Aside0.mk hm0
  clear hD0 hD0s hmn hm0
  go_enter Try.func30, Try.ntmps30
  go_wp2_with (first
    | (go_at_call 32; (with_reducible refine (hALL _).mono ?_); rintro e w1 ⟨B, rfl, hk1, hB1, hb1⟩; (have HBd := Aside0.mk (show w.heap.size ≤ B from Nat.le_trans (by simp) hB1)); have Hb1 := Aside0.mk (below_step (below_alloc HB.out _) hb1); (have hg : w1.cell? ⟨w.heap.size, 0, none⟩ = some (.int .i64 n) := ((hb1.cell (p := ⟨w.heap.size, 0, none⟩) (by simp)).trans ((blk_cell (blk_new w _) 0).trans rfl))); (obtain ⟨w3, hcl, hk3, hb3⟩ := clear_blk hk1 HD0.out (by have := HM0.out; omega) HBd.out Hb1.out); have Hk3 := Aside0.mk hk3; have Hb3 := Aside0.mk hb3; clear hB1 hb1 hk1 hb3 hk3)
    | (go_at_call 65; go_loud ((with_reducible refine (contains_any A c l n w.heap.size _ (Kd.C_below HC.out Hb1.out) HL.out hg).mono ?_); rintro e w2 ⟨he, h_⟩; rw [HIN.out] at he; obtain rfl := he; obtain rfl := h_.symm; clear h_)))
  clear hcl hg
  go_loopw [25] (fun i wr => ∃ k : Nat, k ≤ l.length ∧ i = .int .i64 k ∧ wr.heap[B]? = some (.cells (row8 (orI (List.replicate m 0) (l.take k))) 5 (0, 0)) ∧ Aside0 (Below w.heap.size w wr)) (fun i _ => l.length - (intOf i).toNat)
  case atStart => exact ⟨0, by omega, rfl, by simpa [orI] using Hk3.out, Hb3⟩
  case round =>
    obtain ⟨k, hk, rfl, hkw, Hbw⟩ := hrel
    by_cases hlt : k < l.length
    · obtain ⟨ad, e, hx⟩ := Kd.at_int (Kd.C_below HC.out Hbw.out) (k : Int) (by omega) (by omega)
      cases e
      rw [Int.toNat_natCast, Kit.rd_get hlt] at hx
      have hxin : outB n l[k] = false := List.any_eq_false.1 HIN.out l[k] (List.getElem_mem hlt) |> (by simpa using ·)
      obtain ⟨x, hxe⟩ : ∃ x, x = l[k] := ⟨_, rfl⟩
      rw [← hxe] at hx hxin
      have hsp : l.take (k + 1) = l.take k ++ [x] := by rw [hxe, List.take_succ_eq_append_getElem hlt]
      have HX := Aside0.mk hsp
      have hx0 : 0 ≤ x := by simp [outB] at hxin; omega
      have hxn : x < n := by simp [outB] at hxin; omega
      clear hsp hxe hxin
      have hx16 : x < 16 := by have := H16.out; omega
      obtain ⟨s, hs⟩ : ∃ s, s = orI (List.replicate m 0) (l.take k) := ⟨_, rfl⟩
      have hsm : s.length = m := by rw [hs, orI_length, List.length_replicate]
      rw [← hs] at hkw
      have HS := Aside0.mk hs
      have hq : Int.tdiv x 8 = ((x / 8).toNat : Int) := by rw [Int.tdiv_eq_ediv_of_nonneg hx0]; omega
      obtain ⟨q, hqe⟩ : ∃ q, q = (x / 8).toNat := ⟨_, rfl⟩
      have hqm : q < m := by have := HMn.out; omega
      rw [← hqe] at hq
      have Hqe := Aside0.mk hqe
      have hbit := fun W => bit_any x W hx0 hx16
      obtain ⟨y, hy⟩ : ∃ y, y = rd s (x / 8) := ⟨_, rfl⟩
      have hyq : rd s (x / 8) = s[q]'(by omega) := by rw [show x / 8 = (q : Int) by omega]; exact Kit.rd_get _
      have hcy : wr.cell? ⟨B, q, none⟩ = some (.int .u8 y) := by
        rw [blk_cell hkw q, hy, hyq]
        simp [row8, hsm, hqm]
      have hfy := blk_frozen hkw q
      have Hkw := Aside0.mk hkw
      have HY := Aside0.mk hy
      have hwk : wrap64 ((k : Int) + 1) = ((k + 1 : Nat) : Int) := by have := HL.out; unfold wrap64; omega
      have hrow : Aside0 ((row8 s).setIfInBounds q (.int .u8 (Go.bits .or .u8 y (2 ^ (x % 8).toNat))) = row8 (orI (List.replicate m 0) (l.take (k + 1)))) := ⟨by
        rw [HX.out, orI_append, ← HS.out]
        show _ = row8 (orT s x)
        rw [orT, ← hy, ← hqe]
        simp [row8]⟩
      have hq0 : (0 : Int) ≤ (q : Int) := by omega
      have hqw : IntKind.i64.wrap (q : Int) = (q : Int) := by
        rcases (show q = 0 ∨ q = 1 by have := HM0.out; omega) with h | h <;> rw [h] <;> rfl
      have hqv : IntKind.i64.wrap (x.tdiv 8) = (q : Int) := by rw [hq, hqw]
      have hqM : (q : Int) < (m : Int) := by omega
      clear hs hqe hx0 hxn hx16 hy hyq hkw
      go_wp2
      go_region_with (first | (go_at_call 67; (with_reducible refine (hbit _).mono ?_); rintro e w1 ⟨rfl, h_⟩; obtain rfl := h_.symm; clear h_))
      go_wp2
      all_goals (
        go_roundw
        (case rel => exact ⟨k + 1, by omega, by go_num, blk_put Hkw.out q _ hrow.out, ⟨below_drew (below_set Hbw.out HBd.out)⟩⟩)
        (case measure => rw [hwk]; simp [intOf]; omega))
    · obtain rfl : k = l.length := by omega
      have h9 : ((l.length : Int) < (l.length : Int)) = False := by simp
      rw [List.take_length] at hkw
      have HK := Aside0.mk hkw
      clear hkw
      go_wp2
      go_ret2
      refine ⟨_, rfl, ?_, Hbw.out⟩
      have h := row_whole (base := w.heap.size) HK.out (by simp [row8]; rfl) HBd.out (by rw [orI_length, List.length_replicate]; have := HM0.out; omega)
      rw [orI_length, List.length_replicate] at h
      exact h
set_option maxHeartbeats 4000000 in
set_option maxRecDepth 100000 in
theorem of_out (A : Option Addr) (c : Nat) (l : List Int) (n : Int) (w : World) (hC : Kd.C (Kd.int .i64) w A l.length l) (hl : l.length < 1000000) (h1 : 1 ≤ n) (h16 : n ≤ 16) (hin : l.any (outB n) = true) :
    Calls Try.prog 30 #[.int .i64 n, .slice A l.length c] w fun e w' => e = .returned (.tuple #[.slice none 0 0, .int .i64 2]) ∧ Below w.heap.size w w' := by
  have HC := Aside0.mk hC
  have HL := Aside0.mk hl
  have HIN := Aside0.mk hin
  have H1 := Aside0.mk h1
  have H16 := Aside0.mk h16
  clear hC hin hl h1 h16
  have HB := Aside0.mk (Below.refl w.heap.size w)
  have hALL := fun W => all_blk n W H1.out H16.out
  go_enter Try.func30, Try.ntmps30
  go_wp2_with (first
    | (go_at_call 32; (with_reducible refine (hALL _).mono ?_); rintro e w1 ⟨B, rfl, hk1, hB1, hb1⟩; have Hb1 := Aside0.mk (below_step (below_alloc HB.out _) hb1); (have hg : w1.cell? ⟨w.heap.size, 0, none⟩ = some (.int .i64 n) := ((hb1.cell (p := ⟨w.heap.size, 0, none⟩) (by simp)).trans ((blk_cell (blk_new w _) 0).trans rfl))); clear hB1 hb1 hk1)
    | (go_at_call 65; (with_reducible refine (contains_any A c l n w.heap.size _ (Kd.C_below HC.out Hb1.out) HL.out hg).mono ?_); rintro e w2 ⟨he, h_⟩; rw [HIN.out] at he; obtain rfl := he; obtain rfl := h_.symm; clear h_))
  go_ret2
  exact ⟨rfl, Hb1.out⟩
set_option maxHeartbeats 4000000 in
set_option maxRecDepth 100000 in
theorem of_no (A : Option Addr) (c : Nat) (l : List Int) (n : Int) (w : World) (h : ¬ (1 ≤ n ∧ n ≤ 16)) :
    Calls Try.prog 30 #[.int .i64 n, .slice A l.length c] w fun e w' => e = .returned (.tuple #[.slice none 0 0, .int .i64 2]) ∧ Below w.heap.size w w' := by
  have HN := Aside0.mk h
  clear h
  go_enter Try.func30, Try.ntmps30
  go_wp2_with (first
    | (go_at_call 32; (with_reducible refine (all_no n _ HN.out).mono ?_); rintro e w1 ⟨rfl, h_⟩; obtain rfl := h_.symm; clear h_))
  go_ret2
  exact ⟨rfl, below_alloc (Below.refl _ _) _⟩
end Go.Proofs.Ytammdlgpelljmaa.BitsWalk
