-- written by wip/myprint.py out of the translation
import Derived.Test.YtoklgobjbelmjaaPRnx0
import Derived.Test.YtoklgobjbelmjaaPRnx1
namespace Go.Proofs.Ytoklgobjbelmjaa.PRn
open Go.RowKit Go.Proofs.YtoklgobjbelmjaaW.PrintWords Go.Proofs.YtoklgobjbelmjaaW.PrintLast Go.Proofs.YtoklgobjbelmjaaW.PrintMore
open Go.Proofs.Ytoklgobjbelmjaa.Kit Go.Proofs.Ytoklgobjbelmjaa.NumMath Go.Proofs.Ytoklgobjbelmjaa.NumWalk
attribute [local go_sem] max2_int min2_int max_two min_two max_three min_three max_four min_four   -- for this text's walks alone
set_option linter.unusedVariables false
set_option linter.unusedSimpArgs false

/-! ### num_Write: function 10 -/
theorem num_Size.told_l (s : List Int) (hl : s.length ≤ 16) (d : Nat) : ∀ (k i : Nat) (m : Int), i + d = s.length → d < k → 0 ≤ m → m ≤ 8 * i → num_Size.l0 k m s (s.length : Int) (i : Int) = some (if ∀ n ∈ s.drop i, 1 ≤ n ∧ n ≤ 8 then (m + sumI (s.drop i), 0) else (0, 2)) := by
  induction d with
  | zero =>
    intro k i m hi hk h0 h8
    obtain ⟨k, rfl⟩ : ∃ m, k = m + 1 := ⟨k - 1, by omega⟩
    rw [num_Size.l0, if_neg (by omega), List.drop_eq_nil_of_le (by omega), if_pos (by simp)]
    simp [sumI]
  | succ d ih =>
    intro k i m hi hk h0 h8
    obtain ⟨k, rfl⟩ : ∃ m, k = m + 1 := ⟨k - 1, by omega⟩
    have hlt : i < s.length := by omega
    rw [num_Size.l0, if_pos (by omega), if_pos (by omega), if_pos (by omega), rd_get hlt, List.drop_eq_getElem_cons hlt]
    by_cases h1 : s[i] < 1
    · rw [if_pos h1, if_neg]
      intro h
      have := h s[i] List.mem_cons_self
      omega
    · by_cases h2 : s[i] > 8
      · rw [if_neg h1, if_pos h2, if_neg]
        intro h
        have := h s[i] List.mem_cons_self
        omega
      · rw [if_neg h1, if_neg h2, w64 (by omega) (by omega), w64 (by omega) (by omega), show ((i : Int) + 1) = ((i + 1 : Nat) : Int) by omega, ih k (i + 1) _ (by omega) (by omega) (by omega) (by omega)]
        by_cases h3 : ∀ n ∈ s.drop (i + 1), 1 ≤ n ∧ n ≤ 8
        · rw [if_pos h3, if_pos]
          · simp only [sumI]
            rw [Int.add_assoc]
          · intro n hn
            rcases List.mem_cons.1 hn with rfl | hn
            · omega
            · exact h3 n hn
        · rw [if_neg h3, if_neg]
          intro h
          exact h3 fun n hn => h n (List.mem_cons_of_mem _ hn)
theorem num_Size.told (s : List Int) {k : Nat} (hk : 17 < k) : num_Size.f k s = some (sizeI s) := by
  unfold num_Size.f sizeI
  by_cases h : (s.length : Int) > 16
  · rw [if_pos h, if_neg]
    intro h2
    have := h2.1
    omega
  · rw [if_neg h]
    have h1 := num_Size.told_l s (by omega) s.length k 0 0 (by omega) (by omega) (by omega) (by omega)
    rw [List.drop_zero] at h1
    have h2 : num_Size.l0 k 0 s (s.length : Int) 0 = _ := h1
    rw [h2, Int.zero_add]
    by_cases h3 : ∀ n ∈ s, 1 ≤ n ∧ n ≤ 8
    · rw [if_pos h3, if_pos ⟨by omega, h3⟩]
    · rw [if_neg h3, if_neg fun h4 => h3 h4.2]
def num_Write.f (l0 l1 : List Int) : Option (List Int × Int) := if U64 l0 then some (writeI l0 l1) else none
set_option maxHeartbeats 8000000 in
set_option maxRecDepth 100000 in
theorem num_Write.calls (A0 : Option Addr) (c0 : Nat) (l0 : List Int) (A1 : Option Addr) (c1 : Nat) (l1 : List Int) (r1 : List Int) (r2 : Int) (w : World) (hr0 : Kd.C (Kd.int .u64) w A0 l0.length l0) (hc0 : l0.length ≤ c0) (hr1 : Kd.C (Kd.int .i64) w A1 l1.length l1) (hc1 : l1.length ≤ c1) (h : num_Write.f l0 l1 = some (r1, r2)) :
    Calls Try.prog 10 #[.slice A0 l0.length c0, .slice A1 l1.length c1] w fun e w' => ∃ v0_ : Value, e = .returned (.tuple #[v0_, .int .i64 r2]) ∧ Kd.R (Kd.int .u8) 5 w' w.heap.size (fun _ => True) v0_ r1 ∧ Below w.heap.size w w' := by
  have HR0 := Aside0.mk hr0
  have HC0 := Aside0.mk hc0
  have HR1 := Aside0.mk hr1
  have HC1 := Aside0.mk hc1
  clear hr0 hc0 hr1 hc1
  unfold num_Write.f at h
  by_cases hU : U64 l0
  · rw [if_pos hU] at h
    have hw := Option.some.inj h
    clear h
    have HU := Aside0.mk hU
    clear hU
    have hsz := num_Size.told l1 (k := 18) (by omega)
    by_cases hS : okS l1
    · rw [show sizeI l1 = (sumI l1, 0) from if_pos hS] at hsz
      have HSZ := Aside0.mk hsz
      clear hsz
      by_cases hL : l0.length = l1.length
      · have HW := Aside0.mk hw
        clear hw
        have hbd := sumI_bd hS.2
        have hl16 := hS.1
        have d1 : ((l0.length : Int) != (l1.length : Int)) = false := by simp; omega
        have d2 : ((l0.length : Int) == (l1.length : Int)) = true := by simp; omega
        have d3 : (l0.length == l1.length) = true := by simp; omega
        have d4 : (l0.length != l1.length) = false := by simp; omega
        obtain ⟨m, hm⟩ : ∃ m : Nat, sumI l1 = m := ⟨(sumI l1).toNat, by omega⟩
        rw [hm] at HSZ hbd
        have HM := Aside0.mk hm
        have HL := Aside0.mk hL
        have HS := Aside0.mk hS
        clear hm hL hS
        have hm8 : m ≤ 128 := by omega
        clear hbd
        go_enter Try.func10, Try.ntmps10
        obtain ⟨i0, hi, hz0, hz1, hz2⟩ := info_parts info5
        have hmk := fun W => run_make (P := Try.prog) W 25 5 i0 (.int .u8 0) Try.underlying25 hi hz0 .i64 .i64 (m : Int) (m : Int) (by omega) (by omega) (by rw [hz2]; omega) (by omega)
        simp only [Int.toNat_natCast, hz1, Nat.mul_one] at hmk
        go_wp2_with (first | (go_at_call 15; (with_reducible refine (num_Size.calls 18 A1 c1 l1 (m : Int) 0 _ HR1.out HC1.out HSZ.out).mono ?_); rintro e w' ⟨rfl, ⟨nd, rfl⟩⟩))
        have hstart : Rowed w.heap.size m (rowI (l0.take 0) (l1.take 0)) ((w.drewN nd).alloc (.cells (madeCells #[.int .u8 0] m) 5)) ∧ Below w.heap.size w ((w.drewN nd).alloc (.cells (madeCells #[.int .u8 0] m) 5)) := by
          refine ⟨⟨madeCells #[.int .u8 0] m, by simpa using heap_alloc_new (w.drewN nd) _, size_madeCells _ _, by simp [rowI], fun i hi => ⟨0, ?_⟩, fun i hi => ?_⟩, below_alloc (pw_below_drewN (Below.refl _ _) _) _⟩
          · rw [← Array.getElem?_toList, toList_madeCells_one, List.getElem?_replicate, if_pos (by rwa [size_madeCells] at hi)]
          · simp [rowI] at hi
        have HST := Aside0.mk hstart
        clear hstart hmk
        go_loopw [9, 29] (fun a i wr => ∃ k p : Nat, k ≤ l0.length ∧ i = .int .i64 k ∧ a = .int .i64 p ∧ p ≤ m ∧ Aside0 (sumI (l1.take k) = p) ∧ Aside0 (fitI (l0.take k) (l1.take k) = true) ∧ Aside0 (Rowed w.heap.size m (rowI (l0.take k) (l1.take k)) wr) ∧ Aside0 (Below w.heap.size w wr)) (fun _ i _ => l0.length - (intOf i).toNat)
        case atStart => exact ⟨0, 0, by omega, rfl, rfl, by omega, ⟨by simp [sumI]⟩, ⟨by simp [fitI]⟩, ⟨HST.out.1⟩, ⟨HST.out.2⟩⟩
        case round =>
          clear HST
          obtain ⟨k, p, hk, rfl, rfl, hpm, hsum, hfit, hrow, hB⟩ := hrel
          by_cases hlt : k < l0.length
          · have hlt1 : k < l1.length := by have := HL.out; omega
            obtain ⟨ad1, e1, hx1⟩ := Kd.at_int (Kd.C_below HR1.out hB.out) (k : Int) (by omega) (by omega)
            obtain ⟨ad0, e0, hx0⟩ := Kd.at_int (Kd.C_below HR0.out hB.out) (k : Int) (by omega) (by omega)
            cases e1
            cases e0
            rw [Int.toNat_natCast, rd_get hlt1] at hx1
            rw [Int.toNat_natCast, rd_get hlt] at hx0
            have hq := HS.out.2 _ (List.getElem_mem hlt1)
            have hx := HU.out _ (List.getElem_mem hlt)
            obtain ⟨q, hqe⟩ : ∃ q : Nat, l1[k] = q := ⟨l1[k].toNat, by omega⟩
            obtain ⟨x, hxe⟩ : ∃ x : Nat, l0[k] = x := ⟨l0[k].toNat, by omega⟩
            rw [hqe] at hx1 hq
            rw [hxe] at hx0 hx
            have hsum1 := Aside0.mk ((sumI_take hlt1).trans (by rw [hsum.out, hqe]))
            have hpq : p + q ≤ m := by
              have h1 := sumI_take_le HS.out.2 (k + 1)
              have h2 := hsum1.out
              have h3 := HM.out
              omega
            have hq1 : 1 ≤ q := by omega
            have hq8 : q ≤ 8 := by omega
            have hx64 : x < 18446744073709551616 := by omega
            have HQE := Aside0.mk hqe
            have HXE := Aside0.mk hxe
            clear hq hx hqe hxe
            have hcut := cut_mid3 (P := Try.prog) 25 5 .i64 Try.underlying25 hi hz1 w.heap.size m m (p : Int) ((p : Int) + (q : Int)) (by omega) (by omega) (by omega)
            rw [Int.toNat_natCast, show (p : Int) + (q : Int) - (p : Int) = (q : Int) by omega, Int.toNat_natCast] at hcut
            have hlen : (rowI (l0.take k) (l1.take k)).length = p := by
              have h1 := rowI_length (l := l0.take k) (s := l1.take k) (by rw [List.length_take, List.length_take, HL.out]) fun n hn => HS.out.2 n (List.mem_of_mem_take hn)
              have h2 := hsum.out
              omega
            have HLEN := Aside0.mk hlen
            clear hlen
            obtain ⟨D, hD, hDs, hDl, hDb, hDr⟩ := hrow.out
            have HDb := Aside0.mk hDb
            have HDr := Aside0.mk hDr
            have HD := Aside0.mk hD
            clear hDb hDr hD
            have HRow : Aside0 (rowI (l0.take (k + 1)) (l1.take (k + 1)) = rowI (l0.take k) (l1.take k) ++ dgs q x) := ⟨by
              rw [take_succ_get l0 k hlt, take_succ_get l1 k hlt1, rowI_append (by rw [List.length_take, List.length_take, HL.out]), HXE.out, HQE.out]
              simp [rowI]⟩
            have HFit : Aside0 (fitI (l0.take (k + 1)) (l1.take (k + 1)) = decide (x / 256 ^ q = 0)) := ⟨by
              rw [take_succ_get l0 k hlt, take_succ_get l1 k hlt1, fitI_append (by rw [List.length_take, List.length_take, HL.out]), hfit.out, HXE.out, HQE.out]
              simp [fitI]⟩
            have HDD : Aside0 (wr.drew.heap[w.heap.size]? = some (.cells D 5 (0, 0))) := ⟨HD.out⟩
            have hwrap : IntKind.i64.wrap ((p : Int) + (q : Int)) = (p : Int) + (q : Int) := IntWalk.i64_in _ (by omega)
            have hsumI : Aside0 (sumI (l1.take (k + 1)) = ((p + q : Nat) : Int)) := ⟨by rw [hsum1.out]; omega⟩
            by_cases hf : x / 256 ^ q = 0
            · have hf2 : decide (x / 256 ^ q = 0) = true := decide_eq_true hf
              have HF2 := Aside0.mk hf2
              clear hf hf2
              go_wp2_with fail
              go_still_tail 19, (by kernel_rfl)
              change wpList _ _ _ _ _ wr.drew
              clear hwrap hcut
              go_wp2_with (first | (go_at_call 16; (with_reducible refine (digits_win w.heap.size p q q x D _ HDD.out (by omega) HDb.out hx64 hq8).mono ?_); rintro e w' ⟨he, hd, ho⟩; rw [HF2.out] at he; subst he; have HDg := Aside0.mk hd; have HBn := Aside0.mk (below_only (below_drew2 hB.out) ho (Nat.le_refl _)); clear hd ho; have hx1b := int_at (Kd.C_below HR1.out HBn.out) hlt1; rw [HQE.out] at hx1b))
              go_roundw
              case rel => exact ⟨k + 1, p + q, by omega, by go_num, by go_num, by omega, hsumI, ⟨HFit.out.trans HF2.out⟩, ⟨by rw [HRow.out]; exact row_step hDs HLEN.out hpq HDb.out HDr.out HDg.out⟩, HBn⟩
              case measure => simp [intOf]; omega
            · have hf2 : decide (x / 256 ^ q = 0) = false := decide_eq_false hf
              have HF2 := Aside0.mk hf2
              clear hf hf2
              go_wp2_with fail
              go_still_tail 19, (by kernel_rfl)
              change wpList _ _ _ _ _ wr.drew
              clear hwrap hcut
              go_wp2_with (first | (go_at_call 16; (with_reducible refine (digits_win w.heap.size p q q x D _ HDD.out (by omega) HDb.out hx64 hq8).mono ?_); rintro e w' ⟨he, hd, ho⟩; rw [HF2.out] at he; subst he; have HBn := Aside0.mk (below_only (below_drew2 hB.out) ho (Nat.le_refl _)); clear hd ho))
              go_ret2
              have hno : fitI l0 l1 = false := by
                have h1 : fitI (l0.take (k + 1) ++ l0.drop (k + 1)) (l1.take (k + 1) ++ l1.drop (k + 1)) = _ := fitI_append (by rw [List.length_take, List.length_take, HL.out])
                rw [List.take_append_drop, List.take_append_drop, HFit.out, HF2.out, Bool.false_and] at h1
                exact h1
              have hw := HW.out
              rw [writeI, if_pos ⟨HS.out, HL.out⟩, if_neg (by rw [hno]; decide)] at hw
              obtain ⟨rfl, rfl⟩ := Prod.mk.injEq .. ▸ hw
              exact ⟨_, rfl, Kd.R_nil _ _ _ _ _, HBn.out⟩
          · obtain rfl : k = l0.length := by omega
            go_wp2
            go_ret2
            have hL := HL.out
            have hrow2 := hrow.out
            have hfit2 := hfit.out
            rw [List.take_length, show l1.take l0.length = l1 by rw [hL, List.take_length]] at hrow2 hfit2
            have hw := HW.out
            rw [writeI, if_pos ⟨HS.out, HL.out⟩, if_pos hfit2] at hw
            obtain ⟨rfl, rfl⟩ := Prod.mk.injEq .. ▸ hw
            have hlen := rowI_length hL HS.out.2
            have hM := HM.out
            exact ⟨_, rfl, row_end hrow2 (by omega) (Nat.le_refl _) hm8, hB.out⟩
      · have HW := Aside0.mk hw
        have d1 : ((l0.length : Int) != (l1.length : Int)) = true := by simp; omega
        have d2 : ((l0.length : Int) == (l1.length : Int)) = false := by simp; omega
        have d3 : (l0.length == l1.length) = false := by simp; omega
        have d4 : (l0.length != l1.length) = true := by simp; omega
        clear hw
        go_enter Try.func10, Try.ntmps10
        go_wp2_with (first | (go_at_call 15; (with_reducible refine (num_Size.calls 18 A1 c1 l1 (sumI l1) 0 _ HR1.out HC1.out HSZ.out).mono ?_); rintro e w' ⟨rfl, ⟨nd, rfl⟩⟩))
        go_ret2
        have hw := HW.out
        rw [writeI, if_neg fun h => hL h.2] at hw
        obtain ⟨rfl, rfl⟩ := Prod.mk.injEq .. ▸ hw
        exact ⟨_, rfl, Kd.R_nil _ _ _ _ _, pw_below_drewN (Below.refl _ _) _⟩
    · rw [show sizeI l1 = (0, 2) from if_neg hS] at hsz
      have HSZ := Aside0.mk hsz
      have HW := Aside0.mk hw
      clear hsz hw
      go_enter Try.func10, Try.ntmps10
      go_wp2_with (first | (go_at_call 15; (with_reducible refine (num_Size.calls 18 A1 c1 l1 0 2 _ HR1.out HC1.out HSZ.out).mono ?_); rintro e w' ⟨rfl, ⟨nd, rfl⟩⟩))
      go_ret2
      have hw := HW.out
      rw [writeI, if_neg fun h => hS h.1] at hw
      obtain ⟨rfl, rfl⟩ := Prod.mk.injEq .. ▸ hw
      exact ⟨_, rfl, Kd.R_nil _ _ _ _ _, pw_below_drewN (Below.refl _ _) _⟩
  · rw [if_neg hU] at h
    exact absurd h (by simp)



/-! ### rec_sizes: function 11 -/
def rec_sizes.f  : Option (List Int) := some (([1, 1, 4, 4, 1, 1, 1, 1] : List Int))
set_option maxHeartbeats 8000000 in
set_option maxRecDepth 100000 in
theorem rec_sizes.calls  (r : List Int) (w : World) (h : rec_sizes.f  = some r) :
    Calls Try.prog 11 #[] w fun e w' => ∃ v0_ : Value, e = .returned (v0_) ∧ Kd.R (Kd.int .i64) 3 w' w.heap.size (fun _ => True) v0_ r ∧ Below w.heap.size w w' := by
  have HB := Aside0.mk (Below.refl w.heap.size w)
  have H : (some (([1, 1, 4, 4, 1, 1, 1, 1] : List Int))) = some r := h
  clear h
  obtain ⟨y111, hy111⟩ : ∃ y_ : List Int, y_ = (([1, 1, 4, 4, 1, 1, 1, 1] : List Int)) := ⟨_, rfl⟩
  replace H : (some y111) = some r := by first | (rw [hy111]; with_reducible exact H) | (have H2_ := (Option.bind_some _ _).symm.trans H; rw [hy111]; with_reducible exact H2_) | (have H2_ := (Option.bind_some _ _).symm.trans H; with_reducible exact H2_) | with_reducible exact H | (rw [hy111]; exact H) | exact H
  have Ny111 := Aside0.mk hy111
  clear hy111
  obtain rfl := Option.some.inj H
  go_enter Try.func11, Try.ntmps11
  go_wp2_with (first | ((with_reducible refine gate_dst (N := 1) rfl ?_); refine Kd.R_lit (Kd.int .i64) _ 3 ?hg (N := 1) ?hd (xs := ([1, 1, 4, 4, 1, 1, 1, 1] : List Int)) (inner := [.int .i64 1, .int .i64 1, .int .i64 4, .int .i64 4, .int .i64 1, .int .i64 1, .int .i64 1, .int .i64 1]) (ok := fun _ => True) (okp := fun _ => True) ?hr ?hp (fun _ hk => hk) trivial (Below.refl _ _) (Nat.le_refl _) (by simp) ?_; (case hd => rfl); (case hg => rfl); (case hr => first | (go_simp; done) | (go_simp; rfl)); (case hp => exact (Reps.one (show Kd.M (Kd.int .i64) _ _ _ 1 [.int .i64 1] from rfl) (Reps.one (show Kd.M (Kd.int .i64) _ _ _ 1 [.int .i64 1] from rfl) (Reps.one (show Kd.M (Kd.int .i64) _ _ _ 4 [.int .i64 4] from rfl) (Reps.one (show Kd.M (Kd.int .i64) _ _ _ 4 [.int .i64 4] from rfl) (Reps.one (show Kd.M (Kd.int .i64) _ _ _ 1 [.int .i64 1] from rfl) (Reps.one (show Kd.M (Kd.int .i64) _ _ _ 1 [.int .i64 1] from rfl) (Reps.one (show Kd.M (Kd.int .i64) _ _ _ 1 [.int .i64 1] from rfl) (Reps.one (show Kd.M (Kd.int .i64) _ _ _ 1 [.int .i64 1] from rfl) (Reps.none _ _)))))))))); intro v112 w1 ho2 hb hg_ hnew_; clear hg_ hnew_; (first | rw [← Ny111.out] at ho2 | (simp only [Int.reduceToNat] at ho2; rw [← Ny111.out] at ho2)); have n0_ := Aside0.mk (Kd.R_lower ho2 (below_size (by repeat (first | (with_reducible first | exact HB.out | apply below_alloc | apply pw_below_drewN | apply below_drew1) | exact HB.out)))); have n1_ := Aside0.mk (below_step (by repeat (first | (with_reducible first | exact HB.out | apply below_alloc | apply pw_below_drewN | apply below_drew1) | exact HB.out)) hb); clear HB; have HO113 := n0_; have HB := n1_; clear n0_ n1_; clear hb ho2))
  go_ret
  exact ⟨_, by first | rfl | (simp [errW_none, errW_some] <;> rfl) | (simp [*, errW_none, errW_some] <;> rfl), by (with_reducible repeat (first | apply Kd.R_alloc | apply Kd.R_drewN | apply Kd.R_drew)); exact HO113.out, by repeat (first | (with_reducible first | exact HB.out | apply below_alloc | apply pw_below_drewN | apply below_drew1) | exact HB.out)⟩

end Go.Proofs.Ytoklgobjbelmjaa.PRn
