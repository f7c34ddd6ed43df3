/- net: put and drop -/
import Derived.RangeFuncBox
import Derived.Laws.CopyOwn
import Derived.Lib.SliceRun
import Derived.Test.YtnphfekbnbnilaaOursB
import Derived.Test.YtnphfekbnbnilaaWApart
import Derived.Test.YtnphfekbnbnilaaTail
namespace Go.Proofs.Ytnphfekbnbnilaa.NetWalk
open Go Go.RowKit Go.Proofs.YtnphfekbnbnilaaW.PrintWords
attribute [local go_sem] Oper.semAt_some
abbrev dB : Kd (List Int) := Kd.slice 5 (Kd.int .u8)
theorem infoB : (Try.prog.info? 35).map (fun i => (i.zero, i.size, i.bytes)) = some (some (.slice none 0 0), 1, 24) := by kernel_rfl
/-- put -/
theorem put_calls {W Wd w1 : World} {v v0 : Value} {xs : List (List Int)} {x : List Int} {base B : Nat} (hS : dB.S 35 W base (fun k => k ≠ B) v xs) (hBx : Boxed W B 79 v) (hbase : base ≤ W.heap.size)
    (hd : Below W.heap.size W Wd) (hb : Below Wd.heap.size Wd w1) (hR : (Kd.int .u8).R 5 w1 Wd.heap.size (fun _ => True) v0 x) (hn : xs.length ≤ 1000) :
    Calls Try.prog 50 #[.pointer (some ⟨B, 0, none⟩), v0] w1 fun e w' => e = .returned (.tuple #[]) ∧ ∃ v', Boxed w' B 79 v' ∧ dB.S 35 w' base (fun k => k ≠ B) v' (if (xs.length : Int) < 64 then xs ++ [x] else xs) ∧ (∀ n, n ≤ base → n ≤ B → Below n W w') := by
  have hb2 : Below W.heap.size W w1 := below_then hd hd.size hb
  have hBlt := hBx.lt
  have hS1 := Kd.S_below (Kd.S_bound hS) hb2
  have hBw1 : Boxed w1 B 79 v := (hb2.block B hBlt).trans hBx
  obtain ⟨A, c, rfl⟩ := Kd.S_slice hS
  obtain ⟨A0, c0, rfl⟩ := Kd.R_slice hR
  have hc1 := (blk_cell hBw1 0).trans rfl
  have hf1 := blk_frozen hBw1 0
  have h0 : ∀ k, (Value.slice A xs.length c).ownBlock = some k → k ≠ B ∧ k < W.heap.size := fun k hk => by
    obtain ⟨f, h1, _⟩ := hS1
    have := h1 k hk
    exact ⟨this.1, this.2.2.1⟩
  by_cases hl : (xs.length : Int) < 64
  · rw [if_pos hl]
    have hl1 : decide ((xs.length : Int) < 64) = true := decide_eq_true hl
    have hbW : Below base W w1 := hb2.mono hbase
    go_enter Try.func50, Try.ntmps50
    go_wp2_with (first | ((with_reducible refine gate_builtin (b := .append) (xs := #[.tmp 14, .tmp 16]) rfl ?_); at_builtin; refine Kd.S_append dB (w0 := W) base rfl (.tmp 14) (.tmp 16) 77 35 (.slice none 0 0) 24 rfl Try.underlying77 infoB rfl (by decide) (by omega) (.slice A xs.length c) xs x [.slice A0 x.length c0] (fun k => k ≠ B) (fun k => Wd.heap.size ≤ k ∧ k < w1.heap.size) rfl rfl ?aP ?aK ?aF ?aO ?aB ?aS ?aL ?_; (case aP => exact Kd.M_row (Kd.R_lower (Kd.R_mono (Kd.R_bound hR) (fun k hk => ⟨hk.2.1, hk.2.2.1⟩)) (Nat.le_trans hbase hd.size))); (case aK => exact fun k hk => ⟨by have := hd.size; omega, fun e => by have := (h0 k e.symm).2; have := hd.size; omega⟩); (case aF => exact (fun k hk => by have := hb2.size; omega)); (case aO => exact Kd.S_mono hS1 (fun k hk => ⟨hk.1, fun h => by have := hd.size; have := hk.2.2.1; omega⟩)); (case aB => exact hbW); (case aS => exact Nat.le_trans hbase hb2.size); (case aL => omega); intro v1 w2 hoS hob hog hoat; have hBw2 : Boxed w2 B 79 (.slice A xs.length c) := blk_grown hBw1 hog (fun e => (h0 B e.symm).1 rfl); have hc2 := (blk_cell hBw2 0).trans rfl; have hf2 := blk_frozen hBw2 0; obtain ⟨A1, cc1, rfl⟩ := Kd.S_slice hoS; rw [show (xs ++ [x]).length = xs.length + 1 from by simp] at hoS))
    go_end0
    exact ⟨rfl, _, hBw2.set _, Kd.S_far hoS (p := ⟨B, 0, none⟩) (fun k hk => hk) _, fun n h1 h2 => (hob.mono h1).setCell (p := ⟨B, 0, none⟩) h2 _⟩
  · rw [if_neg hl]
    have hl1 : decide ((xs.length : Int) < 64) = false := decide_eq_false hl
    go_enter Try.func50, Try.ntmps50
    go_wp2
    go_end0
    exact ⟨rfl, _, hBw1, Kd.S_mono hS1 (fun k hk => hk.1), fun n h1 h2 => hb2.mono (by omega)⟩

theorem take1 (l : List Value) (j : Nat) : (l.drop j).take 1 = (l[j]?).toList := by
  rw [List.take_one]; simp
/-- One text fewer: what the block must hold. -/
theorem S_erase {w : World} {base n c : Nat} {ok : Nat → Prop} {A : Option Addr} {xs : List (List Int)} {i : Nat} (h : dB.S 35 w base ok (.slice A n c) xs) (hi : i < xs.length) :
    ∃ (g : Nat) (cur : Array Value), A = some ⟨g, 0, none⟩ ∧ base ≤ g ∧ ok g ∧ w.heap[g]? = some (.cells cur 35 (0, 0)) ∧ n = xs.length ∧ n ≤ c ∧ cur.size = c ∧ (∀ v ∈ cur.toList.take n, v.oneCell' = true) ∧
      ∀ (w' : World) (cur' : Array Value), (∀ k, k ≠ g → ok k → w'.heap[k]? = w.heap[k]?) → w'.heap[g]? = some (.cells cur' 35 (0, 0)) → cur'.size = c → cur'.toList.take (n - 1) = (cur.toList.take n).eraseIdx i →
        dB.S 35 w' base ok (.slice A (n - 1) c) (xs.eraseIdx i) := by
  obtain ⟨f, h0, inner, ho, hr⟩ := h
  rw [List.length_zipIdx] at ho
  obtain ⟨hl, ho⟩ := ho
  rcases ho with ⟨hv, hx⟩ | ⟨g, cap, cur, hv, hb, hh, h1, h2, h3, h4⟩
  · omega
  · injection hv with e1 e2 e3
    subst e1 e2 e3
    simp only [show (Kd.tag f dB).sz = 1 from rfl, Nat.mul_one] at *
    have hlr := hr.1
    refine ⟨g, cur, by first | rfl | trivial | simp, hb, h0 g rfl, hh, by first | rfl | trivial, h1, h3, fun v hv => ?_, fun w' cur' hk hh' hs ht => ?_⟩
    · rw [h4] at hv
      obtain ⟨j, hj, rfl⟩ := List.mem_iff_getElem.1 hv
      have hj2 : j < xs.length := by omega
      have := hr.2 j (xs[j], j) (Kd.zip_at (List.getElem?_eq_getElem hj2))
      simp only [Nat.mul_one] at this
      rw [take1, List.getElem?_eq_getElem hj] at this
      exact (Kd.tag f dB).K_one ((Kd.tag f dB).K_of_M this) _ (by simp)
    · rw [h4] at ht
      refine ⟨fun k => if f k < i then f k else f k - 1, fun k hk => h0 k hk, inner.eraseIdx i, ?_, ?_, fun j p hj => ?_⟩
      · rw [List.length_zipIdx, List.length_eraseIdx_of_lt hi]
        refine ⟨by rw [List.length_eraseIdx_of_lt (by omega)]; simp only [Kd.tag, show dB.sz = 1 from rfl]; omega, .inr ⟨g, c, cur', rfl, hb, hh', by omega, h2, by simp only [Kd.tag, show dB.sz = 1 from rfl, Nat.mul_one]; exact hs, by simp only [Kd.tag, show dB.sz = 1 from rfl, Nat.mul_one]; exact ht⟩⟩
      · rw [List.length_zipIdx, List.length_eraseIdx_of_lt hi, List.length_eraseIdx_of_lt (by omega)]
        simp only [Kd.tag, show dB.sz = 1 from rfl]; omega
      · simp only [show (Kd.tag (fun k => if f k < i then f k else f k - 1) dB).sz = 1 from rfl, Nat.mul_one]
        rw [take1, List.getElem?_eraseIdx]
        rw [List.getElem?_zipIdx, List.getElem?_eraseIdx] at hj
        by_cases hji : j < i
        · rw [if_pos hji] at hj ⊢
          cases hx : xs[j]? with
          | none => rw [hx] at hj; cases hj
          | some x =>
            rw [hx] at hj
            obtain rfl : p = (x, j) := by simpa using hj.symm
            have h5 := hr.2 j (x, j) (Kd.zip_at hx)
            simp only [Nat.mul_one] at h5
            rw [take1] at h5
            exact dB.M_mono (fun k hk => ⟨hk.1, by show (if f k < i then f k else f k - 1) = j; rw [hk.2]; exact if_pos hji⟩) (dB.M_move (fun k hk' => hk k (fun e => hk'.1.2 (by rw [e]; rfl)) hk'.1.1) h5)
        · rw [if_neg hji] at hj ⊢
          cases hx : xs[j + 1]? with
          | none => rw [hx] at hj; cases hj
          | some x =>
            rw [hx] at hj
            obtain rfl : p = (x, j) := by simpa using hj.symm
            have h5 := hr.2 (j + 1) (x, j + 1) (Kd.zip_at hx)
            simp only [Nat.mul_one] at h5
            rw [take1] at h5
            exact dB.M_mono (fun k hk => ⟨hk.1, by show (if f k < i then f k else f k - 1) = j; rw [hk.2]; exact if_neg (show ¬ (j + 1 < i) by omega)⟩) (dB.M_move (fun k hk' => hk k (fun e => hk'.1.2 (by rw [e]; rfl)) hk'.1.1) h5)

theorem zero35 (w : World) : (zeroValue 35).run Try.prog w = .ok (.slice none 0 0) w := by
  have h : (Try.prog.info? 35).map (·.zero) = some (some (.slice none 0 0)) := by kernel_rfl
  cases hq : Try.prog.info? 35 with
  | none => simp [hq] at h
  | some i => rw [hq] at h; simp at h; simp [zeroValue, typeInfo, hq, h]
/-- drop -/
theorem drop_calls {w : World} {v : Value} {xs : List (List Int)} {i base B : Nat} {ok : Nat → Prop} (hS : dB.S 35 w base ok v xs) (hok : ∀ k, ok k → k ≠ B) (hBx : Boxed w B 79 v) (hi : i < xs.length) (hn : xs.length ≤ 1000) :
    Calls Try.prog 53 #[.pointer (some ⟨B, 0, none⟩), .int .i64 (i : Int)] w fun e w' => e = .returned (.tuple #[]) ∧ ∃ v', Boxed w' B 79 v' ∧ dB.S 35 w' base ok v' (xs.eraseIdx i) ∧ (∀ n, n ≤ base → n ≤ B → Below n w w') ∧ (∀ k, k ≠ B → some k ≠ v.ownBlock → w'.heap[k]? = w.heap[k]?) := by
  obtain ⟨A, c, rfl⟩ := Kd.S_slice hS
  obtain ⟨g, cur, rfl, hbg, hgB0, hg, _, hnc, hcs, h1, hE⟩ := S_erase hS hi
  have hgB := hok g hgB0
  obtain ⟨n, hnx⟩ : ∃ n, xs.length = n + 1 := ⟨xs.length - 1, by omega⟩
  rw [hnx] at hBx hi hn hnc h1 hE
  clear hS
  simp only [Nat.add_sub_cancel] at hE
  have hc1 := (blk_cell hBx 0).trans rfl
  have hf1 := blk_frozen hBx 0
  obtain ⟨i35, hi35, hz0, hz1, hz2⟩ := info_parts infoB
  have hs1 := cut_from 77 35 .i64 Try.underlying77 hi35 1 hz1 (some ⟨g, 0, none⟩) (n + 1) c (i : Int) (by omega) (by omega)
  have hs2 := cut_from 77 35 .i64 Try.underlying77 hi35 1 hz1 (some ⟨g, 0, none⟩) (n + 1) c ((i : Int) + 1) (by omega) (by omega)
  have hs3 := cut_from 77 35 .i64 Try.underlying77 hi35 1 hz1 (some ⟨g, 0, none⟩) (n + 1) c (n : Int) (by omega) (by omega)
  have hs4 := cut_to 77 35 .i64 Try.underlying77 hi35 (some ⟨g, 0, none⟩) (n + 1) c (n : Int) (by omega) (by omega) (by omega)
  have hwr : IntKind.i64.wrap ((i : Int) + 1) = (i : Int) + 1 := by
    have h1 := Int.emod_eq_of_lt (a := (i : Int) + 1 + 9223372036854775808) (b := 18446744073709551616) (by omega) (by omega)
    simp [IntKind.wrap, IntKind.bits, IntKind.signed]
    try omega
  have hBlt := hBx.lt
  rw [if_neg (by omega)] at hs3
  have hs3' : ∀ W : World, (Instr.slice 77 (.slice (some ⟨g, 0, none⟩) (n + 1) c) (some (.int .i64 (n : Int))) none none).run Try.prog W = .ok (.slice (some ⟨g, n, none⟩) 1 (c - n)) W := fun W => by
    rw [hs3 W]; simp only [Int.toNat_natCast, Nat.mul_one, Option.map_some, show n + 1 - n = 1 from by omega]; rw [add_at, Nat.zero_add]
  clear hs3
  rw [if_neg (by omega)] at hs1
  have hs1' : ∀ W : World, (Instr.slice 77 (.slice (some ⟨g, 0, none⟩) (n + 1) c) (some (.int .i64 (i : Int))) none none).run Try.prog W = .ok (.slice (some ⟨g, i, none⟩) (n + 1 - i) (c - i)) W := fun W => by
    rw [hs1 W]; simp only [Int.toNat_natCast, Nat.mul_one, Option.map_some]; rw [add_at, Nat.zero_add]
  clear hs1
  go_enter Try.func53, Try.ntmps53
  go_wp2
  refine Tail.wp_region_tail (C := fun w' => ∃ n, w' = w.drewN n) 13 (by kernel_rfl) (by kernel_rfl) ⟨1, rfl⟩ ?_
  simp only [List.take_succ_cons, List.take_zero, List.drop_succ_cons, List.drop_zero]
  repeat (quiet_step (first | fail))
  refine wpQuiet_nil ?_
  rintro W1 ⟨nd, rfl⟩
  obtain ⟨ad, had0, had⟩ : ∃ ad : Addr, (if c = i + 1 then (some ⟨g, 0, none⟩ : Option Addr) else some ⟨g, i + 1, none⟩) = some ad ∧ (c ≠ i + 1 → ad = ⟨g, i + 1, none⟩) := by
    by_cases h : c = i + 1
    · exact ⟨⟨g, 0, none⟩, if_pos h, fun e => absurd h e⟩
    · exact ⟨⟨g, i + 1, none⟩, if_neg h, fun _ => rfl⟩
  rw [had0]
  have hgd : (w.drewN nd).heap[g]? = some (.cells cur 35 (0, 0)) := hg
  have hcl : ((cur.toList.take (n + 1)).drop (i + 1)).length = n - i := by simp; omega
  refine wpList_copy_own rfl (.tmp 16) (.tmp 23) 77 77 rfl 35 Try.underlying77 (by rw [hi35]; simp [hz1]) g i (n + 1 - i) (c - i) ad (n - i) (c - (i + 1)) ?hd ?hs cur 35 hgd ((cur.toList.take (n + 1)).drop (i + 1)) ?hn ?hsrc ?hfit ?h1 ?_
  case hd => rfl
  case hs => rfl
  case hn => rw [hcl]; show n - i = min (n - i) (n + 1 - i); omega
  case hsrc =>
    intro j v hj
    have hjl := (List.getElem?_eq_some_iff.1 hj).1
    rw [hcl] at hjl
    rw [had (by omega)]
    rw [List.getElem?_drop, List.getElem?_take, if_pos (by omega)] at hj
    have := blk_cell hgd (i + 1 + j)
    rw [← Array.getElem?_toList, hj] at this
    rw [add_at]
    exact this
  case hfit => rw [hcl]; omega
  case h1 => exact fun v hv => h1 v (List.mem_of_mem_drop hv)
  rw [hcl]
  obtain ⟨L2, hL2⟩ : ∃ L, L = cur.toList.take i ++ ((cur.toList.take (n + 1)).drop (i + 1) ++ cur.toList.drop (i + (n - i))) := ⟨_, rfl⟩
  rw [← hL2]
  have hL2l : L2.length = c := by rw [hL2]; simp; omega
  obtain ⟨W2, hW2⟩ : ∃ W, W = (w.drewN nd).setRow g L2.toArray := ⟨_, rfl⟩
  rw [← hW2]
  have hg2 : W2.heap[g]? = some (.cells L2.toArray 35 (0, 0)) := by rw [hW2]; exact setRow_heap _ g _ _ 35 _ hgd
  have ho2 : ∀ k, k ≠ g → W2.heap[k]? = w.heap[k]? := fun k hk => by
    rw [hW2]; unfold World.setRow; simp only [Array.getElem?_modify]; rw [if_neg (fun e => hk e.symm)]; rfl
  have hbe2 : ∀ m, m ≤ g → Below m w W2 := fun m hm => by
    rw [hW2]; exact below_setRow (pw_below_drewN (Below.refl _ _) nd) hm _
  have hB2 : Boxed W2 B 79 (.slice (some ⟨g, 0, none⟩) (n + 1) c) := (ho2 B (fun e => hgB e.symm)).trans hBx
  have hc2 := (blk_cell hB2 0).trans rfl
  have hf2 := blk_frozen hB2 0
  have hclr : (Builtin.clear_ #[77] 0 #[.slice (some ⟨g, n, none⟩) 1 (c - n)]).run Try.prog W2 = .ok (.tuple #[]) (W2.setCell ⟨g, n, none⟩ (.slice none 0 0)) :=
    Go.Lib.run_clear_slice W2 77 35 0 (.slice none 0 0) Try.underlying77 zero35 rfl rfl g n 1 (c - n) (by omega) (fun j hj => by rw [blk_cell hg2]; simp; omega) (fun j hj => blk_frozen hg2 _)
  have hB3 : Boxed (W2.setCell ⟨g, n, none⟩ (.slice none 0 0)) B 79 (.slice (some ⟨g, 0, none⟩) (n + 1) c) := (Below.heap_setCell _ _ _ _ (fun e => hgB e.symm)).trans hB2
  have hc3 := (blk_cell hB3 0).trans rfl
  have hf3 := blk_frozen hB3 0
  clear hs1' hs2 hW2
  go_wp2
  go_end0
  have hW4 : ∀ k, k ≠ g → k ≠ B → (((W2.setCell ⟨g, n, none⟩ (.slice none 0 0)).setCell ⟨B, 0, none⟩ (.slice (some ⟨g, 0, none⟩) n c))).heap[k]? = w.heap[k]? := fun k h1 h2 => by
    rw [Below.heap_setCell _ _ _ _ h2, Below.heap_setCell _ _ _ _ h1, ho2 k h1]
  have hg4 := blk_far (blk_set hg2 n (.slice none 0 0)) (p := ⟨B, 0, none⟩) hgB (.slice (some ⟨g, 0, none⟩) n c)
  refine ⟨rfl, _, hB3.set _, hE _ _ (fun k h1 h2 => hW4 k h1 (hok k h2)) hg4 (by simp [hL2l]) ?_, fun m h1 h2 => ((hbe2 m (by omega)).setCell (p := ⟨g, n, none⟩) (show m ≤ g by omega) _).setCell (p := ⟨B, 0, none⟩) h2 _, fun k h1 h2 => hW4 k (fun e => h2 (by rw [e]; rfl)) h1⟩
  simp only [Array.toList_setIfInBounds]
  rw [List.take_set_of_le (Nat.le_refl _), hL2, List.eraseIdx_eq_take_drop_succ, List.take_take, Nat.min_eq_left (by omega), ← List.append_assoc, List.take_append_of_le_length (by simp; omega)]
  exact List.take_of_length_le (by simp; omega)
end Go.Proofs.Ytnphfekbnbnilaa.NetWalk
