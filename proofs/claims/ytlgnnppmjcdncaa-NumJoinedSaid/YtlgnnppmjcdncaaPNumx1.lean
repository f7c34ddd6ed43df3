-- written by wip/myprint.py out of the translation
import Derived.Test.YtlgnnppmjcdncaaPNumx0
namespace Go.Proofs.Ytlgnnppmjcdncaa.PNum
open Go.RowKit Go.Proofs.YtlgnnppmjcdncaaW.PrintWords Go.Proofs.YtlgnnppmjcdncaaW.PrintLast Go.Proofs.YtlgnnppmjcdncaaW.PrintMore
open Go.Proofs.Ytlgnnppmjcdncaa.Kit Go.Proofs.Ytlgnnppmjcdncaa.NumMath Go.Proofs.Ytlgnnppmjcdncaa.NumWalk
attribute [local go_sem] max2_int min2_int max_two min_two max_three min_three max_four min_four   -- for this text's walks alone
set_option linter.unusedVariables false
set_option linter.unusedSimpArgs false

/-! ### num_Size: function 24 -/
def num_Size.l0 : Nat → Int → List Int → Int → Int → Option (Int × Int)
  | 0, _, _, _, _ => none
  | k + 1, x2, x9, x10, x11 => if x11 < x10 then (if 0 ≤ x11 then (if x11 < (x9.length : Int) then (if (rd x9 x11) < 1 then (some (0, 2)) else (if (rd x9 x11) > 8 then (some (0, 2)) else (num_Size.l0 k (wrap64 (x2 + (rd x9 x11))) x9 x10 (wrap64 (x11 + 1))))) else (none)) else (none)) else (some (x2, 0))
def num_Size.f (k : Nat) (l0 : List Int) : Option (Int × Int) := if (l0.length : Int) > 16 then (some (0, 2)) else (num_Size.l0 k 0 l0 (l0.length : Int) 0)
theorem num_Size.mono_l : ∀ k, (∀ y0 y1 y2 y3, LeO (num_Size.l0 k y0 y1 y2 y3) (num_Size.l0 (k + 1) y0 y1 y2 y3))
  | 0 => fun _ _ _ _ r h => by simp [num_Size.l0] at h
  | k + 1 => by
    have ih0 := num_Size.mono_l k
    · intro y0 y1 y2 y3
      unfold num_Size.l0
      repeat' first
      | (with_reducible exact ih0 _ _ _ _)
      | (with_reducible exact LeO.refl _)
      | (with_reducible exact LeO.none _)
      | (with_reducible refine LeO.ite ?_ ?_)
      | (with_reducible refine LeO.bind ?_ (fun _ => ?_))
      | exact ih0 _ _ _ _
      | exact LeO.none _
      | refine LeO.ite ?_ ?_
      | refine LeO.bind ?_ (fun _ => ?_)
theorem num_Size.mono : ∀ a0 k, LeO (num_Size.f k a0) (num_Size.f (k + 1) a0) := by
  intro a0 k
  have ih0 := num_Size.mono_l k
  unfold num_Size.f
  repeat' first
      | (with_reducible exact ih0 _ _ _ _)
      | (with_reducible exact LeO.refl _)
      | (with_reducible exact LeO.none _)
      | (with_reducible refine LeO.ite ?_ ?_)
      | (with_reducible refine LeO.bind ?_ (fun _ => ?_))
      | exact ih0 _ _ _ _
      | exact LeO.none _
      | refine LeO.ite ?_ ?_
      | refine LeO.bind ?_ (fun _ => ?_)
set_option maxHeartbeats 8000000 in
set_option maxRecDepth 100000 in
theorem num_Size.calls (k : Nat) (A0 : Option Addr) (c0 : Nat) (l0 : List Int) (r1 : Int) (r2 : Int) (w : World) (hr0 : Kd.C (Kd.int .i64) w A0 l0.length l0) (hc0 : l0.length ≤ c0) (h : num_Size.f k l0 = some (r1, r2)) :
    Calls Try.prog 24 #[.slice A0 l0.length c0] w fun e w' => e = .returned (.tuple #[.int .i64 r1, .int .i64 r2]) ∧ Drawn0 w w' := by
  have HR0 := Aside0.mk hr0
  have HC0 := Aside0.mk hc0
  clear hr0 hc0
  have H : (if (l0.length : Int) > 16 then (some (0, 2)) else (num_Size.l0 k 0 l0 (l0.length : Int) 0)) = some (r1, r2) := h
  clear h
  by_cases c2 : (l0.length : Int) > 16
  · rw [if_pos c2] at H
    have c2b0 : decide (16 < (l0.length : Int)) = true := decide_eq_true c2
    have c2b1 : decide (16 < l0.length) = true := decide_eq_true (by omega)
    clear c2
    simp only [Option.some.injEq, Prod.mk.injEq] at H
    obtain ⟨rfl, rfl⟩ := H
    go_enter Try.func24, Try.ntmps24
    go_wp2
    go_ret2
    exact ⟨by first | rfl | (simp; done) | (simp [*]; done), by repeat (first | exact Drawn0.refl _ | apply Drawn0.step)⟩
  · rw [if_neg c2] at H
    have c2b0 : decide (16 < (l0.length : Int)) = false := decide_eq_false c2
    have c2b1 : decide (16 < l0.length) = false := decide_eq_false (by omega)
    clear c2
    have H' := Aside0.mk H
    clear H
    go_enter Try.func24, Try.ntmps24
    go_wp2
    go_loopg [2, 11] k (fun kq v2 v11 w' => ∃ (x2_1 : Int) (x11_1 : Int), v2 = .int .i64 x2_1 ∧ v11 = .int .i64 x11_1 ∧ Aside0 (num_Size.l0 kq x2_1 l0 (l0.length : Int) x11_1 = some (r1, r2)) ∧ Aside0 (kq ≤ k) ∧ Drawn0 w w')
    case atStart => exact ⟨(0), (0), (by first | rfl | (simp; done) | (simp [*]; done)), (by first | rfl | (simp; done) | (simp [*]; done)), H', ⟨Nat.le_refl _⟩, by repeat (first | exact Drawn0.refl _ | apply Drawn0.step)⟩
    case round =>
      clear H'
      try clear c2
      try clear c2b0
      try clear c2b1
      try clear p2
      obtain ⟨x2_1, x11_1, rfl, rfl, HA, HK1, ⟨m1, rfl⟩⟩ := hrel
      cases gk with
      | zero => exact absurd HA.out (by simp [num_Size.l0])
      | succ k1 =>
        have H := HA.out
        clear HA
        simp only [num_Size.l0] at H
        by_cases c3 : x11_1 < (l0.length : Int)
        · rw [if_pos c3] at H
          have c3b0 : decide (x11_1 < (l0.length : Int)) = true := decide_eq_true c3
          clear c3
          by_cases c4 : 0 ≤ x11_1
          · rw [if_pos c4] at H
            have c4b0 : decide (0 ≤ x11_1) = true := decide_eq_true c4
            clear c4
            by_cases c5 : x11_1 < (l0.length : Int)
            · rw [if_pos c5] at H
              have c5b0 : decide (x11_1 < (l0.length : Int)) = true := decide_eq_true c5
              clear c5
              by_cases c6 : (rd l0 x11_1) < 1
              · rw [if_pos c6] at H
                have c6b0 : decide ((rd l0 x11_1) < 1) = true := decide_eq_true c6
                clear c6
                simp only [Option.some.injEq, Prod.mk.injEq] at H
                obtain ⟨rfl, rfl⟩ := H
                have p101 : 0 ≤ (x11_1 : Int) := of_decide_eq_true (by first | (with_reducible assumption) | assumption)
                have q101 : x11_1 < (l0.length : Int) := of_decide_eq_true (by first | (with_reducible assumption) | assumption)
                obtain ⟨ad101, e101, hx101_0⟩ := Kd.at_int HR0.out x11_1 p101 q101
                cases e101
                replace p101 := eq_true p101
                replace q101 := eq_true q101
                go_wp2
                go_ret2
                exact ⟨by first | rfl | (simp; done) | (simp [*]; done), by repeat (first | exact Drawn0.refl _ | apply Drawn0.step)⟩
              · rw [if_neg c6] at H
                have c6b0 : decide ((rd l0 x11_1) < 1) = false := decide_eq_false c6
                clear c6
                by_cases c7 : (rd l0 x11_1) > 8
                · rw [if_pos c7] at H
                  have c7b0 : decide (8 < (rd l0 x11_1)) = true := decide_eq_true c7
                  clear c7
                  simp only [Option.some.injEq, Prod.mk.injEq] at H
                  obtain ⟨rfl, rfl⟩ := H
                  have p101 : 0 ≤ (x11_1 : Int) := of_decide_eq_true (by first | (with_reducible assumption) | assumption)
                  have q101 : x11_1 < (l0.length : Int) := of_decide_eq_true (by first | (with_reducible assumption) | assumption)
                  obtain ⟨ad101, e101, hx101_0⟩ := Kd.at_int HR0.out x11_1 p101 q101
                  cases e101
                  replace p101 := eq_true p101
                  replace q101 := eq_true q101
                  go_wp2
                  go_ret2
                  exact ⟨by first | rfl | (simp; done) | (simp [*]; done), by repeat (first | exact Drawn0.refl _ | apply Drawn0.step)⟩
                · rw [if_neg c7] at H
                  have c7b0 : decide (8 < (rd l0 x11_1)) = false := decide_eq_false c7
                  clear c7
                  have H' := Aside0.mk H
                  clear H
                  have p101 : 0 ≤ (x11_1 : Int) := of_decide_eq_true (by first | (with_reducible assumption) | assumption)
                  have q101 : x11_1 < (l0.length : Int) := of_decide_eq_true (by first | (with_reducible assumption) | assumption)
                  obtain ⟨ad101, e101, hx101_0⟩ := Kd.at_int HR0.out x11_1 p101 q101
                  cases e101
                  replace p101 := eq_true p101
                  replace q101 := eq_true q101
                  go_wp2
                  go_roundg k1
                  case measure => have := HK1.out; omega
                  case rel => exact ⟨(wrap64 (x2_1 + (rd l0 x11_1))), (wrap64 (x11_1 + 1)), (by first | rfl | (simp; done) | (simp [*]; done)), (by first | rfl | (simp; done) | (simp [*]; done)), H', ⟨by have := HK1.out; omega⟩, by repeat (first | exact Drawn0.refl _ | apply Drawn0.step)⟩
            · rw [if_neg c5] at H
              exact absurd H (by simp)
          · rw [if_neg c4] at H
            exact absurd H (by simp)
        · rw [if_neg c3] at H
          have c3b0 : decide (x11_1 < (l0.length : Int)) = false := decide_eq_false c3
          clear c3
          simp only [Option.some.injEq, Prod.mk.injEq] at H
          obtain ⟨rfl, rfl⟩ := H
          go_wp2
          go_ret2
          exact ⟨by first | rfl | (simp; done) | (simp [*]; done), by repeat (first | exact Drawn0.refl _ | apply Drawn0.step)⟩

/-! ### num_Write: function 22 -/
theorem num_Size.told_l (s : List Int) (hl : s.length ≤ 16) (d : Nat) : ∀ (k i : Nat) (m : Int), i + d = s.length → d < k → 0 ≤ m → m ≤ 8 * i → num_Size.l0 k m s (s.length : Int) (i : Int) = some (if ∀ n ∈ s.drop i, 1 ≤ n ∧ n ≤ 8 then (m + sumI (s.drop i), 0) else (0, 2)) := by
  induction d with
  | zero =>
    intro k i m hi hk h0 h8
    obtain ⟨k, rfl⟩ : ∃ m, k = m + 1 := ⟨k - 1, by omega⟩
    rw [num_Size.l0, if_neg (by omega), List.drop_eq_nil_of_le (by omega), if_pos (by simp)]
    simp [sumI]
  | succ d ih =>
    intro k i m hi hk h0 h8
    obtain ⟨k, rfl⟩ : ∃ m, k = m + 1 := ⟨k - 1, by omega⟩
    have hlt : i < s.length := by omega
    rw [num_Size.l0, if_pos (by omega), if_pos (by omega), if_pos (by omega), rd_get hlt, List.drop_eq_getElem_cons hlt]
    by_cases h1 : s[i] < 1
    · rw [if_pos h1, if_neg]
      intro h
      have := h s[i] List.mem_cons_self
      omega
    · by_cases h2 : s[i] > 8
      · rw [if_neg h1, if_pos h2, if_neg]
        intro h
        have := h s[i] List.mem_cons_self
        omega
      · rw [if_neg h1, if_neg h2, w64 (by omega) (by omega), w64 (by omega) (by omega), show ((i : Int) + 1) = ((i + 1 : Nat) : Int) by omega, ih k (i + 1) _ (by omega) (by omega) (by omega) (by omega)]
        by_cases h3 : ∀ n ∈ s.drop (i + 1), 1 ≤ n ∧ n ≤ 8
        · rw [if_pos h3, if_pos]
          · simp only [sumI]
            rw [Int.add_assoc]
          · intro n hn
            rcases List.mem_cons.1 hn with rfl | hn
            · omega
            · exact h3 n hn
        · rw [if_neg h3, if_neg]
          intro h
          exact h3 fun n hn => h n (List.mem_cons_of_mem _ hn)
theorem num_Size.told (s : List Int) {k : Nat} (hk : 17 < k) : num_Size.f k s = some (sizeI s) := by
  unfold num_Size.f sizeI
  by_cases h : (s.length : Int) > 16
  · rw [if_pos h, if_neg]
    intro h2
    have := h2.1
    omega
  · rw [if_neg h]
    have h1 := num_Size.told_l s (by omega) s.length k 0 0 (by omega) (by omega) (by omega) (by omega)
    rw [List.drop_zero] at h1
    have h2 : num_Size.l0 k 0 s (s.length : Int) 0 = _ := h1
    rw [h2, Int.zero_add]
    by_cases h3 : ∀ n ∈ s, 1 ≤ n ∧ n ≤ 8
    · rw [if_pos h3, if_pos ⟨by omega, h3⟩]
    · rw [if_neg h3, if_neg fun h4 => h3 h4.2]
def num_Write.f (l0 l1 : List Int) : Option (List Int × Int) := if U64 l0 then some (writeI l0 l1) else none
set_option maxHeartbeats 8000000 in
set_option maxRecDepth 100000 in
theorem num_Write.calls (A0 : Option Addr) (c0 : Nat) (l0 : List Int) (A1 : Option Addr) (c1 : Nat) (l1 : List Int) (r1 : List Int) (r2 : Int) (w : World) (hr0 : Kd.C (Kd.int .u64) w A0 l0.length l0) (hc0 : l0.length ≤ c0) (hr1 : Kd.C (Kd.int .i64) w A1 l1.length l1) (hc1 : l1.length ≤ c1) (h : num_Write.f l0 l1 = some (r1, r2)) :
    Calls Try.prog 22 #[.slice A0 l0.length c0, .slice A1 l1.length c1] w fun e w' => ∃ v0_ : Value, e = .returned (.tuple #[v0_, .int .i64 r2]) ∧ Kd.R (Kd.int .u8) 5 w' w.heap.size (fun _ => True) v0_ r1 ∧ Below w.heap.size w w' := by
  have HR0 := Aside0.mk hr0
  have HC0 := Aside0.mk hc0
  have HR1 := Aside0.mk hr1
  have HC1 := Aside0.mk hc1
  clear hr0 hc0 hr1 hc1
  unfold num_Write.f at h
  by_cases hU : U64 l0
  · rw [if_pos hU] at h
    have hw := Option.some.inj h
    clear h
    have HU := Aside0.mk hU
    clear hU
    have hsz := num_Size.told l1 (k := 18) (by omega)
    by_cases hS : okS l1
    · rw [show sizeI l1 = (sumI l1, 0) from if_pos hS] at hsz
      have HSZ := Aside0.mk hsz
      clear hsz
      by_cases hL : l0.length = l1.length
      · have HW := Aside0.mk hw
        clear hw
        have hbd := sumI_bd hS.2
        have hl16 := hS.1
        have d1 : ((l0.length : Int) != (l1.length : Int)) = false := by simp; omega
        have d2 : ((l0.length : Int) == (l1.length : Int)) = true := by simp; omega
        have d3 : (l0.length == l1.length) = true := by simp; omega
        have d4 : (l0.length != l1.length) = false := by simp; omega
        obtain ⟨m, hm⟩ : ∃ m : Nat, sumI l1 = m := ⟨(sumI l1).toNat, by omega⟩
        rw [hm] at HSZ hbd
        have HM := Aside0.mk hm
        have HL := Aside0.mk hL
        have HS := Aside0.mk hS
        clear hm hL hS
        have hm8 : m ≤ 128 := by omega
        clear hbd
        go_enter Try.func22, Try.ntmps22
        obtain ⟨i0, hi, hz0, hz1, hz2⟩ := info_parts info5
        have hmk := fun W => run_make (P := Try.prog) W 22 5 i0 (.int .u8 0) Try.underlying22 hi hz0 .i64 .i64 (m : Int) (m : Int) (by omega) (by omega) (by rw [hz2]; omega) (by omega)
        simp only [Int.toNat_natCast, hz1, Nat.mul_one] at hmk
        go_wp2_with (first | (go_at_call 24; (with_reducible refine (num_Size.calls 18 A1 c1 l1 (m : Int) 0 _ HR1.out HC1.out HSZ.out).mono ?_); rintro e w' ⟨rfl, ⟨nd, rfl⟩⟩))
        have hstart : Rowed w.heap.size m (rowI (l0.take 0) (l1.take 0)) ((w.drewN nd).alloc (.cells (madeCells #[.int .u8 0] m) 5)) ∧ Below w.heap.size w ((w.drewN nd).alloc (.cells (madeCells #[.int .u8 0] m) 5)) := by
          refine ⟨⟨madeCells #[.int .u8 0] m, by simpa using heap_alloc_new (w.drewN nd) _, size_madeCells _ _, by simp [rowI], fun i hi => ⟨0, ?_⟩, fun i hi => ?_⟩, below_alloc (pw_below_drewN (Below.refl _ _) _) _⟩
          · rw [← Array.getElem?_toList, toList_madeCells_one, List.getElem?_replicate, if_pos (by rwa [size_madeCells] at hi)]
          · simp [rowI] at hi
        have HST := Aside0.mk hstart
        clear hstart hmk
        go_loopw [9, 29] (fun a i wr => ∃ k p : Nat, k ≤ l0.length ∧ i = .int .i64 k ∧ a = .int .i64 p ∧ p ≤ m ∧ Aside0 (sumI (l1.take k) = p) ∧ Aside0 (fitI (l0.take k) (l1.take k) = true) ∧ Aside0 (Rowed w.heap.size m (rowI (l0.take k) (l1.take k)) wr) ∧ Aside0 (Below w.heap.size w wr)) (fun _ i _ => l0.length - (intOf i).toNat)
        case atStart => exact ⟨0, 0, by omega, rfl, rfl, by omega, ⟨by simp [sumI]⟩, ⟨by simp [fitI]⟩, ⟨HST.out.1⟩, ⟨HST.out.2⟩⟩
        case round =>
          clear HST
          obtain ⟨k, p, hk, rfl, rfl, hpm, hsum, hfit, hrow, hB⟩ := hrel
          by_cases hlt : k < l0.length
          · have hlt1 : k < l1.length := by have := HL.out; omega
            obtain ⟨ad1, e1, hx1⟩ := Kd.at_int (Kd.C_below HR1.out hB.out) (k : Int) (by omega) (by omega)
            obtain ⟨ad0, e0, hx0⟩ := Kd.at_int (Kd.C_below HR0.out hB.out) (k : Int) (by omega) (by omega)
            cases e1
            cases e0
            rw [Int.toNat_natCast, rd_get hlt1] at hx1
            rw [Int.toNat_natCast, rd_get hlt] at hx0
            have hq := HS.out.2 _ (List.getElem_mem hlt1)
            have hx := HU.out _ (List.getElem_mem hlt)
            obtain ⟨q, hqe⟩ : ∃ q : Nat, l1[k] = q := ⟨l1[k].toNat, by omega⟩
            obtain ⟨x, hxe⟩ : ∃ x : Nat, l0[k] = x := ⟨l0[k].toNat, by omega⟩
            rw [hqe] at hx1 hq
            rw [hxe] at hx0 hx
            have hsum1 := Aside0.mk ((sumI_take hlt1).trans (by rw [hsum.out, hqe]))
            have hpq : p + q ≤ m := by
              have h1 := sumI_take_le HS.out.2 (k + 1)
              have h2 := hsum1.out
              have h3 := HM.out
              omega
            have hq1 : 1 ≤ q := by omega
            have hq8 : q ≤ 8 := by omega
            have hx64 : x < 18446744073709551616 := by omega
            have HQE := Aside0.mk hqe
            have HXE := Aside0.mk hxe
            clear hq hx hqe hxe
            have hcut := cut_mid3 (P := Try.prog) 22 5 .i64 Try.underlying22 hi hz1 w.heap.size m m (p : Int) ((p : Int) + (q : Int)) (by omega) (by omega) (by omega)
            rw [Int.toNat_natCast, show (p : Int) + (q : Int) - (p : Int) = (q : Int) by omega, Int.toNat_natCast] at hcut
            have hlen : (rowI (l0.take k) (l1.take k)).length = p := by
              have h1 := rowI_length (l := l0.take k) (s := l1.take k) (by rw [List.length_take, List.length_take, HL.out]) fun n hn => HS.out.2 n (List.mem_of_mem_take hn)
              have h2 := hsum.out
              omega
            have HLEN := Aside0.mk hlen
            clear hlen
            obtain ⟨D, hD, hDs, hDl, hDb, hDr⟩ := hrow.out
            have HDb := Aside0.mk hDb
            have HDr := Aside0.mk hDr
            have HD := Aside0.mk hD
            clear hDb hDr hD
            have HRow : Aside0 (rowI (l0.take (k + 1)) (l1.take (k + 1)) = rowI (l0.take k) (l1.take k) ++ dgs q x) := ⟨by
              rw [take_succ_get l0 k hlt, take_succ_get l1 k hlt1, rowI_append (by rw [List.length_take, List.length_take, HL.out]), HXE.out, HQE.out]
              simp [rowI]⟩
            have HFit : Aside0 (fitI (l0.take (k + 1)) (l1.take (k + 1)) = decide (x / 256 ^ q = 0)) := ⟨by
              rw [take_succ_get l0 k hlt, take_succ_get l1 k hlt1, fitI_append (by rw [List.length_take, List.length_take, HL.out]), hfit.out, HXE.out, HQE.out]
              simp [fitI]⟩
            have HDD : Aside0 (wr.drew.heap[w.heap.size]? = some (.cells D 5 (0, 0))) := ⟨HD.out⟩
            have hwrap : IntKind.i64.wrap ((p : Int) + (q : Int)) = (p : Int) + (q : Int) := IntWalk.i64_in _ (by omega)
            have hsumI : Aside0 (sumI (l1.take (k + 1)) = ((p + q : Nat) : Int)) := ⟨by rw [hsum1.out]; omega⟩
            by_cases hf : x / 256 ^ q = 0
            · have hf2 : decide (x / 256 ^ q = 0) = true := decide_eq_true hf
              have HF2 := Aside0.mk hf2
              clear hf hf2
              go_wp2_with fail
              go_still_tail 19, (by kernel_rfl)
              change wpList _ _ _ _ _ wr.drew
              clear hwrap hcut
              go_wp2_with (first | (go_at_call 34; (with_reducible refine (digits_win w.heap.size p q q x D _ HDD.out (by omega) HDb.out hx64 hq8).mono ?_); rintro e w' ⟨he, hd, ho⟩; rw [HF2.out] at he; subst he; have HDg := Aside0.mk hd; have HBn := Aside0.mk (below_only (below_drew2 hB.out) ho (Nat.le_refl _)); clear hd ho; have hx1b := int_at (Kd.C_below HR1.out HBn.out) hlt1; rw [HQE.out] at hx1b))
              go_roundw
              case rel => exact ⟨k + 1, p + q, by omega, by go_num, by go_num, by omega, hsumI, ⟨HFit.out.trans HF2.out⟩, ⟨by rw [HRow.out]; exact row_step hDs HLEN.out hpq HDb.out HDr.out HDg.out⟩, HBn⟩
              case measure => simp [intOf]; omega
            · have hf2 : decide (x / 256 ^ q = 0) = false := decide_eq_false hf
              have HF2 := Aside0.mk hf2
              clear hf hf2
              go_wp2_with fail
              go_still_tail 19, (by kernel_rfl)
              change wpList _ _ _ _ _ wr.drew
              clear hwrap hcut
              go_wp2_with (first | (go_at_call 34; (with_reducible refine (digits_win w.heap.size p q q x D _ HDD.out (by omega) HDb.out hx64 hq8).mono ?_); rintro e w' ⟨he, hd, ho⟩; rw [HF2.out] at he; subst he; have HBn := Aside0.mk (below_only (below_drew2 hB.out) ho (Nat.le_refl _)); clear hd ho))
              go_ret2
              have hno : fitI l0 l1 = false := by
                have h1 : fitI (l0.take (k + 1) ++ l0.drop (k + 1)) (l1.take (k + 1) ++ l1.drop (k + 1)) = _ := fitI_append (by rw [List.length_take, List.length_take, HL.out])
                rw [List.take_append_drop, List.take_append_drop, HFit.out, HF2.out, Bool.false_and] at h1
                exact h1
              have hw := HW.out
              rw [writeI, if_pos ⟨HS.out, HL.out⟩, if_neg (by rw [hno]; decide)] at hw
              obtain ⟨rfl, rfl⟩ := Prod.mk.injEq .. ▸ hw
              exact ⟨_, rfl, Kd.R_nil _ _ _ _ _, HBn.out⟩
          · obtain rfl : k = l0.length := by omega
            go_wp2
            go_ret2
            have hL := HL.out
            have hrow2 := hrow.out
            have hfit2 := hfit.out
            rw [List.take_length, show l1.take l0.length = l1 by rw [hL, List.take_length]] at hrow2 hfit2
            have hw := HW.out
            rw [writeI, if_pos ⟨HS.out, HL.out⟩, if_pos hfit2] at hw
            obtain ⟨rfl, rfl⟩ := Prod.mk.injEq .. ▸ hw
            have hlen := rowI_length hL HS.out.2
            have hM := HM.out
            exact ⟨_, rfl, row_end hrow2 (by omega) (Nat.le_refl _) hm8, hB.out⟩
      · have HW := Aside0.mk hw
        have d1 : ((l0.length : Int) != (l1.length : Int)) = true := by simp; omega
        have d2 : ((l0.length : Int) == (l1.length : Int)) = false := by simp; omega
        have d3 : (l0.length == l1.length) = false := by simp; omega
        have d4 : (l0.length != l1.length) = true := by simp; omega
        clear hw
        go_enter Try.func22, Try.ntmps22
        go_wp2_with (first | (go_at_call 24; (with_reducible refine (num_Size.calls 18 A1 c1 l1 (sumI l1) 0 _ HR1.out HC1.out HSZ.out).mono ?_); rintro e w' ⟨rfl, ⟨nd, rfl⟩⟩))
        go_ret2
        have hw := HW.out
        rw [writeI, if_neg fun h => hL h.2] at hw
        obtain ⟨rfl, rfl⟩ := Prod.mk.injEq .. ▸ hw
        exact ⟨_, rfl, Kd.R_nil _ _ _ _ _, pw_below_drewN (Below.refl _ _) _⟩
    · rw [show sizeI l1 = (0, 2) from if_neg hS] at hsz
      have HSZ := Aside0.mk hsz
      have HW := Aside0.mk hw
      clear hsz hw
      go_enter Try.func22, Try.ntmps22
      go_wp2_with (first | (go_at_call 24; (with_reducible refine (num_Size.calls 18 A1 c1 l1 0 2 _ HR1.out HC1.out HSZ.out).mono ?_); rintro e w' ⟨rfl, ⟨nd, rfl⟩⟩))
      go_ret2
      have hw := HW.out
      rw [writeI, if_neg fun h => hS h.1] at hw
      obtain ⟨rfl, rfl⟩ := Prod.mk.injEq .. ▸ hw
      exact ⟨_, rfl, Kd.R_nil _ _ _ _ _, pw_below_drewN (Below.refl _ _) _⟩
  · rw [if_neg hU] at h
    exact absurd h (by simp)



/-! ### num_Read: function 23 -/
mutual
def num_Read.l0 : Nat → List Int → List Int → List Int → Int → Int → Option (List Int × Int)
  | 0, _, _, _, _, _ => none
  | k + 1, x0, x8, x28, x29, x30 => if x30 < x29 then (if 0 ≤ x30 then (if x30 < (x28.length : Int) then (if 0 ≤ (rd x28 x30) then (if (rd x28 x30) ≤ (x0.length : Int) then ((some (x0.take ((rd x28 x30) : Int).toNat : List Int)).bind fun y108 => (num_Read.l1 k x0 x8 x30 (rd x28 x30) x28 x29 x30 y108 (y108.length : Int) 0)) else (none)) else (none)) else (none)) else (none)) else (some (x8, 0))
def num_Read.l1 : Nat → List Int → List Int → Int → Int → List Int → Int → Int → List Int → Int → Int → Option (List Int × Int)
  | 0, _, _, _, _, _, _, _, _, _, _ => none
  | k + 1, x0, x8, x9, x10, x28, x29, x30, x38, x39, x40 => if x40 < x39 then (if 0 ≤ x40 then (if x40 < (x38.length : Int) then (if 0 ≤ x9 then (if x9 < (x8.length : Int) then (num_Read.l1 k x0 (x8.set (x9 : Int).toNat (Go.bits .or .u64 (IntKind.u64.wrap ((rd x8 x9) * 256)) (IntKind.u64.wrap (rd x38 x40)))) x9 x10 x28 x29 x30 x38 x39 (wrap64 (x40 + 1))) else (none)) else (none)) else (none)) else (none)) else (if 0 ≤ x10 then (if x10 ≤ (x0.length : Int) then (num_Read.l0 k (x0.drop (x10 : Int).toNat) x8 x28 x29 (wrap64 (x30 + 1))) else (none)) else (none))
end
def num_Read.f (k : Nat) (l0 : List Int) (l1 : List Int) : Option (List Int × Int) := (num_Size.f k l1).bind fun bt102 => (if bt102.2 = 0 then (if (l0.length : Int) = bt102.1 then (if 0 ≤ (l1.length : Int) then (if ((l1.length : Int) : Int).toNat ≤ 35184372088832 then (num_Read.l0 k l0 (List.replicate ((l1.length : Int) : Int).toNat 0) l1 (l1.length : Int) 0) else (none)) else (none)) else (some (([] : List Int), 10))) else (some (([] : List Int), bt102.2)))
theorem num_Read.mono_l : ∀ k, (∀ y0 y1 y2 y3 y4, LeO (num_Read.l0 k y0 y1 y2 y3 y4) (num_Read.l0 (k + 1) y0 y1 y2 y3 y4)) ∧ (∀ y0 y1 y2 y3 y4 y5 y6 y7 y8 y9, LeO (num_Read.l1 k y0 y1 y2 y3 y4 y5 y6 y7 y8 y9) (num_Read.l1 (k + 1) y0 y1 y2 y3 y4 y5 y6 y7 y8 y9))
  | 0 => ⟨fun _ _ _ _ _ r h => by simp [num_Read.l0] at h, fun _ _ _ _ _ _ _ _ _ _ r h => by simp [num_Read.l1] at h⟩
  | k + 1 => by
    obtain ⟨ih0, ih1⟩ := num_Read.mono_l k
    refine ⟨?_, ?_⟩
    · intro y0 y1 y2 y3 y4
      unfold num_Read.l0
      repeat' first
      | (with_reducible exact ih0 _ _ _ _ _)
      | (with_reducible exact ih1 _ _ _ _ _ _ _ _ _ _)
      | (with_reducible exact num_Size.mono _ _)
      | (with_reducible exact LeO.refl _)
      | (with_reducible exact LeO.none _)
      | (with_reducible refine LeO.ite ?_ ?_)
      | (with_reducible refine LeO.bind ?_ (fun _ => ?_))
      | exact ih0 _ _ _ _ _
      | exact ih1 _ _ _ _ _ _ _ _ _ _
      | exact num_Size.mono _ _
      | exact LeO.none _
      | refine LeO.ite ?_ ?_
      | refine LeO.bind ?_ (fun _ => ?_)
    · intro y0 y1 y2 y3 y4 y5 y6 y7 y8 y9
      unfold num_Read.l1
      repeat' first
      | (with_reducible exact ih0 _ _ _ _ _)
      | (with_reducible exact ih1 _ _ _ _ _ _ _ _ _ _)
      | (with_reducible exact num_Size.mono _ _)
      | (with_reducible exact LeO.refl _)
      | (with_reducible exact LeO.none _)
      | (with_reducible refine LeO.ite ?_ ?_)
      | (with_reducible refine LeO.bind ?_ (fun _ => ?_))
      | exact ih0 _ _ _ _ _
      | exact ih1 _ _ _ _ _ _ _ _ _ _
      | exact num_Size.mono _ _
      | exact LeO.none _
      | refine LeO.ite ?_ ?_
      | refine LeO.bind ?_ (fun _ => ?_)
theorem num_Read.mono : ∀ a0 a1 k, LeO (num_Read.f k a0 a1) (num_Read.f (k + 1) a0 a1) := by
  intro a0 a1 k
  obtain ⟨ih0, ih1⟩ := num_Read.mono_l k
  unfold num_Read.f
  repeat' first
      | (with_reducible exact ih0 _ _ _ _ _)
      | (with_reducible exact ih1 _ _ _ _ _ _ _ _ _ _)
      | (with_reducible exact num_Size.mono _ _)
      | (with_reducible exact LeO.refl _)
      | (with_reducible exact LeO.none _)
      | (with_reducible refine LeO.ite ?_ ?_)
      | (with_reducible refine LeO.bind ?_ (fun _ => ?_))
      | exact ih0 _ _ _ _ _
      | exact ih1 _ _ _ _ _ _ _ _ _ _
      | exact num_Size.mono _ _
      | exact LeO.none _
      | refine LeO.ite ?_ ?_
      | refine LeO.bind ?_ (fun _ => ?_)
set_option maxHeartbeats 8000000 in
set_option maxRecDepth 100000 in
theorem num_Read.calls (k : Nat) (P0_ : Nat → Prop) (A0 : Option Addr) (c0 : Nat) (l0 : List Int) (A1 : Option Addr) (c1 : Nat) (l1 : List Int) (r1 : List Int) (r2 : Int) (w : World) (hs0 : Kd.V (Kd.int .u8) 5 w w.heap.size (fun k_ => P0_ k_) (.slice A0 l0.length c0) l0) (hr1 : Kd.C (Kd.int .i64) w A1 l1.length l1) (hc1 : l1.length ≤ c1) (h : num_Read.f k l0 l1 = some (r1, r2)) :
    Calls Try.prog 23 #[.slice A0 l0.length c0, .slice A1 l1.length c1] w fun e w' => ∃ v0_ : Value, e = .returned (.tuple #[v0_, .int .i64 r2]) ∧ Kd.R (Kd.int .u64) 38 w' w.heap.size (fun k_ => (w.heap.size ≤ k_)) v0_ r1 ∧ Below w.heap.size w w' := by
  have HO0 := Aside0.mk (show Kd.V (Kd.int .u8) 5 w w.heap.size (fun k_ => (P0_ k_ ∨ w.heap.size ≤ k_)) (.slice A0 l0.length c0) l0 from Kd.V_mono hs0 (fun k_ hk => .inl hk))
  have HR1 := Aside0.mk hr1
  have HC1 := Aside0.mk hc1
  clear hr1 hc1
  have HB := Aside0.mk (Below.refl w.heap.size w)
  have H : ((num_Size.f k l1).bind fun bt102 => (if bt102.2 = 0 then (if (l0.length : Int) = bt102.1 then (if 0 ≤ (l1.length : Int) then (if ((l1.length : Int) : Int).toNat ≤ 35184372088832 then (num_Read.l0 k l0 (List.replicate ((l1.length : Int) : Int).toNat 0) l1 (l1.length : Int) 0) else (none)) else (none)) else (some (([] : List Int), 10))) else (some (([] : List Int), bt102.2)))) = some (r1, r2) := h
  clear h
  replace H := Option.bind_eq_some_iff.mp H
  obtain ⟨⟨t102, t103⟩, A30, H⟩ := H
  replace H : (if t103 = 0 then (if (l0.length : Int) = t102 then (if 0 ≤ (l1.length : Int) then (if ((l1.length : Int) : Int).toNat ≤ 35184372088832 then (num_Read.l0 k l0 (List.replicate ((l1.length : Int) : Int).toNat 0) l1 (l1.length : Int) 0) else (none)) else (none)) else (some (([] : List Int), 10))) else (some (([] : List Int), t103))) = some (r1, r2) := H
  have A3 := Aside0.mk A30
  clear A30
  by_cases c4 : t103 = 0
  · rw [if_pos c4] at H
    have c4b0 : (t103 == 0) = true := beq_iff_eq.mpr c4
    have c4b1 : (t103 != 0) = false := bne_eq_false_iff_eq.mpr c4
    clear c4
    by_cases c5 : (l0.length : Int) = t102
    · rw [if_pos c5] at H
      have c5b0 : ((l0.length : Int) == t102) = true := beq_iff_eq.mpr c5
      have c5b1 : ((l0.length : Int) != t102) = false := bne_eq_false_iff_eq.mpr c5
      clear c5
      by_cases c6 : 0 ≤ (l1.length : Int)
      · rw [if_pos c6] at H
        have c6b0 := eq_true c6
        have c6b1 : decide (0 ≤ (l1.length : Int)) = true := decide_eq_true c6
        clear c6
        by_cases c7 : ((l1.length : Int) : Int).toNat ≤ 35184372088832
        · rw [if_pos c7] at H
          have c7b0 := eq_true c7
          have c7b1 : decide (((l1.length : Int) : Int).toNat ≤ 35184372088832) = true := decide_eq_true c7
          clear c7
          obtain ⟨y104, hy104⟩ : ∃ y_ : List Int, y_ = (List.replicate ((l1.length : Int) : Int).toNat 0) := ⟨_, rfl⟩
          replace H : (num_Read.l0 k l0 y104 l1 (l1.length : Int) 0) = some (r1, r2) := by first | (rw [hy104]; with_reducible exact H) | (have H2_ := (Option.bind_some _ _).symm.trans H; rw [hy104]; with_reducible exact H2_) | (have H2_ := (Option.bind_some _ _).symm.trans H; with_reducible exact H2_) | with_reducible exact H | (rw [hy104]; exact H) | exact H
          have Ny104 := Aside0.mk hy104
          clear hy104
          have H' := Aside0.mk H
          clear H
          go_enter Try.func23, Try.ntmps23
          go_wp2_with (first | ((with_reducible refine gate_callee (f := 24) rfl ?_); refine goesL_ (some 15) rfl rfl Try.func24 (by kernel_rfl) rfl #[.slice A1 l1.length c1] rfl (by (try simp only [List.map_toArray, List.map_cons, List.map_nil]); first | done | rfl | (simp only [List.length_drop, List.length_take]; rfl)) ?_; (with_reducible refine (num_Size.calls k _ _ l1 t102 t103 _ ?side1 ?side2 A3.out).mono ?_); (case side1 => repeat (first | exact HR1.out | (with_reducible refine Kd.C_alloc ?_ _) | (with_reducible refine Kd.C_drewN ?_ _) | (with_reducible refine Kd.C_drew ?_))); (case side2 => exact HC1.out); rintro e w' ⟨rfl, ⟨nd, rfl⟩⟩; refine ⟨_, rfl, ?_⟩) | ((with_reducible refine gate_dst (N := 27) rfl ?_); refine Kd.R_make (Kd.int .u64) _ 38 rfl (N := 27) rfl 39 _ _ rfl (l1.length : Int) rfl rfl Try.underlying39 (.int .u64 0) 8 info38 rfl (by decide) (by omega) 0 (ok := fun _ => True) (okp := fun _ => True) rfl (fun _ hk => hk) trivial (of_decide_eq_true (by first | (with_reducible assumption) | assumption)) (Nat.le_trans (Nat.mul_le_mul_right _ (of_decide_eq_true (by first | (with_reducible assumption) | assumption) : (l1.length : Int).toNat ≤ 35184372088832)) (by omega)) (Below.refl _ _) (Nat.le_refl _) ?_; intro v105 w8 ho9 hb hg_ hnew_; clear hg_ hnew_; (first | rw [← Ny104.out] at ho9 | (simp only [Int.reduceToNat] at ho9; rw [← Ny104.out] at ho9)); have n0_ := Aside0.mk (Kd.V_elder' (by (with_reducible repeat (first | apply Kd.V_alloc | apply Kd.V_drewN | apply Kd.V_drew)); exact HO0.out) (Kd.R_base ho9) hb); have n1_ := Aside0.mk (Kd.R_lower (Kd.R_newM (M := fun k_ => (w.heap.size ≤ k_)) ho9 (below_size (by repeat (first | (with_reducible first | exact HB.out | apply below_alloc | apply pw_below_drewN | apply below_drew1) | exact HB.out))) (fun k_ h_ => h_)) (below_size (by repeat (first | (with_reducible first | exact HB.out | apply below_alloc | apply pw_below_drewN | apply below_drew1) | exact HB.out)))); have n2_ := Aside0.mk (below_step (by repeat (first | (with_reducible first | exact HB.out | apply below_alloc | apply pw_below_drewN | apply below_drew1) | exact HB.out)) hb); clear HO0; clear HB; have HO0 := n0_; have HO106 := n1_; have HB := n2_; clear n0_ n1_ n2_; clear hb ho9))
          go_loopg [0, 30] k (fun kq v0 v30 w' => ∃ (x0_1 : List Int) (x8_1 : List Int) (x30_1 : Int), v30 = .int .i64 x30_1 ∧ Aside0 (num_Read.l0 kq x0_1 x8_1 l1 (l1.length : Int) x30_1 = some (r1, r2)) ∧ Aside0 (kq ≤ k) ∧ Aside0 (Kd.V (Kd.int .u8) 5 w' w.heap.size (fun k_ => (P0_ k_ ∨ w.heap.size ≤ k_) ∧ some k_ ≠ (v105 : Value).ownBlock) v0 x0_1) ∧ Aside0 (Kd.R (Kd.int .u64) 38 w' w.heap.size (fun k_ => (w.heap.size ≤ k_)) v105 x8_1) ∧ Aside0 (Below w.heap.size w w'))
          case atStart => exact ⟨(l0), (y104), (0), (by first | rfl | (simp; done) | (simp [*]; done)), H', ⟨Nat.le_refl _⟩, ⟨by (with_reducible repeat (first | apply Kd.V_alloc | apply Kd.V_drewN | apply Kd.V_drew)); exact HO0.out⟩, ⟨by (with_reducible repeat (first | apply Kd.R_alloc | apply Kd.R_drewN | apply Kd.R_drew)); exact Kd.R_mono HO106.out (fun _ hk => hk.1)⟩, ⟨by repeat (first | (with_reducible first | exact HB.out | apply below_alloc | apply pw_below_drewN | apply below_drew1) | exact HB.out)⟩⟩
          case round =>
            clear H'
            try clear c1
            try clear c2
            try clear p2
            try clear c4
            try clear c4b0
            try clear c4b1
            try clear c5
            try clear c5b0
            try clear c5b1
            try clear c6
            try clear c6b0
            try clear c6b1
            try clear c7
            try clear c7b0
            try clear c7b1
            obtain ⟨x0_1, x8_1, x30_1, rfl, HA, HK1, HO_0, HO_8, HB⟩ := hrel
            cases gk with
            | zero => exact absurd HA.out (by simp [num_Read.l0])
            | succ k1 =>
              have H := HA.out
              clear HA
              simp only [num_Read.l0] at H
              by_cases c10 : x30_1 < (l1.length : Int)
              · rw [if_pos c10] at H
                have c10b0 : decide (x30_1 < (l1.length : Int)) = true := decide_eq_true c10
                clear c10
                by_cases c11 : 0 ≤ x30_1
                · rw [if_pos c11] at H
                  have c11b0 : decide (0 ≤ x30_1) = true := decide_eq_true c11
                  clear c11
                  by_cases c12 : x30_1 < (l1.length : Int)
                  · rw [if_pos c12] at H
                    have c12b0 : decide (x30_1 < (l1.length : Int)) = true := decide_eq_true c12
                    clear c12
                    by_cases c13 : 0 ≤ (rd l1 x30_1)
                    · rw [if_pos c13] at H
                      have c13b0 := eq_true c13
                      have c13b1 : decide (0 ≤ (rd l1 x30_1)) = true := decide_eq_true c13
                      clear c13
                      by_cases c14 : (rd l1 x30_1) ≤ (x0_1.length : Int)
                      · rw [if_pos c14] at H
                        have c14b0 := eq_true c14
                        have c14b1 : decide ((rd l1 x30_1) ≤ (x0_1.length : Int)) = true := decide_eq_true c14
                        clear c14
                        obtain ⟨y108, hy108⟩ : ∃ y_ : List Int, y_ = (x0_1.take ((rd l1 x30_1) : Int).toNat) := ⟨_, rfl⟩
                        replace H : (num_Read.l1 k1 x0_1 x8_1 x30_1 (rd l1 x30_1) l1 (l1.length : Int) x30_1 y108 (y108.length : Int) 0) = some (r1, r2) := by first | (rw [hy108]; with_reducible exact H) | (have H2_ := (Option.bind_some _ _).symm.trans H; rw [hy108]; with_reducible exact H2_) | (have H2_ := (Option.bind_some _ _).symm.trans H; with_reducible exact H2_) | with_reducible exact H | (rw [hy108]; exact H) | exact H
                        have Ny108 := Aside0.mk hy108
                        clear hy108
                        have H' := Aside0.mk H
                        clear H
                        have p107 : 0 ≤ (x30_1 : Int) := of_decide_eq_true (by first | (with_reducible assumption) | assumption)
                        have q107 : x30_1 < (l1.length : Int) := of_decide_eq_true (by first | (with_reducible assumption) | assumption)
                        obtain ⟨ad107, e107, hx107_0⟩ := Kd.at_int HR1.out x30_1 p107 q107
                        cases e107
                        replace hx107_0 := (HB.out.cell (World.block_lt_of_cell? w _ hx107_0)).trans hx107_0
                        replace p107 := eq_true p107
                        replace q107 := eq_true q107
                        obtain ⟨Ao16, co16, eo16⟩ := Kd.V_slice HO_0.out
                        subst eo16
                        have q15 : ((rd l1 x30_1) : Int) ≤ ((x0_1.length : Int) : Int) := of_decide_eq_true (by first | (with_reducible assumption) | assumption)
                        obtain ⟨i015, hi015, _, hsz15, _⟩ := info_parts info5
                        have hroom15 : x0_1.length ≤ co16 := (Kd.V_reads' HO_0.out).2.1
                        have hC15 : Kd.F (Kd.int .u8) _ _ Ao16 x0_1.length x0_1 := (Kd.V_at (base := w.heap.size) HO_0.out).2.2
                        have hcut15 := cut_to3 (P := Try.prog) 22 5 .i64 Try.underlying22 hi015 Ao16 x0_1.length co16 (rd l1 x30_1) (of_decide_eq_true (by first | (with_reducible assumption) | assumption)) q15 hroom15
                        have hroom315 := hroom15
                        have hr15 := Kd.F_take (m := ((rd l1 x30_1) : Int).toNat) hC15 (by omega)
                        have hy15 : y108.length = ((rd l1 x30_1) : Int).toNat := (by rw [Ny108.out, List.length_take]; omega)
                        rw [← Ny108.out] at hr15
                        rw [← hy15] at hcut15
                        have HO112 := Aside0.mk (show Kd.V (Kd.int .u8) 5 _ w.heap.size _ (.slice Ao16 y108.length (y108.length)) y108 from Kd.V_mk (by omega) hr15)
                        have HC112 := Aside0.mk (show y108.length ≤ (y108.length) from by omega)
                        clear hr15 hC15 hroom15 hi015 hsz15 hroom315
                        have KY15 := Aside0.mk hy15
                        clear hy15
                        replace q15 := eq_true q15
                        go_wp2
                        go_loopg [40] k1 (fun kq v40 w' => ∃ (x8_2 : List Int) (x40_2 : Int), v40 = .int .i64 x40_2 ∧ Aside0 (num_Read.l1 kq x0_1 x8_2 x30_1 (rd l1 x30_1) l1 (l1.length : Int) x30_1 y108 (y108.length : Int) x40_2 = some (r1, r2)) ∧ Aside0 (kq ≤ k1) ∧ Aside0 (Kd.V (Kd.int .u8) 5 w' w.heap.size (fun k_ => (P0_ k_ ∨ w.heap.size ≤ k_) ∧ some k_ ≠ (v105 : Value).ownBlock) (.slice Ao16 x0_1.length co16) x0_1) ∧ Aside0 (Kd.R (Kd.int .u64) 38 w' w.heap.size (fun k_ => (w.heap.size ≤ k_)) v105 x8_2) ∧ Aside0 (Kd.V (Kd.int .u8) 5 w' w.heap.size (fun k_ => (P0_ k_ ∨ w.heap.size ≤ k_) ∧ some k_ ≠ (v105 : Value).ownBlock) (.slice Ao16 y108.length (y108.length)) y108) ∧ Aside0 (Below w.heap.size w w'))
                        case atStart => exact ⟨(x8_1), (0), (by first | rfl | (simp; done) | (simp [*]; done)), H', ⟨Nat.le_refl _⟩, ⟨by (with_reducible repeat (first | apply Kd.V_alloc | apply Kd.V_drewN | apply Kd.V_drew)); exact HO_0.out⟩, ⟨by (with_reducible repeat (first | apply Kd.R_alloc | apply Kd.R_drewN | apply Kd.R_drew)); exact HO_8.out⟩, ⟨by (with_reducible repeat (first | apply Kd.V_alloc | apply Kd.V_drewN | apply Kd.V_drew)); exact HO112.out⟩, ⟨by repeat (first | (with_reducible first | exact HB.out | apply below_alloc | apply pw_below_drewN | apply below_drew1) | exact HB.out)⟩⟩
                        case round =>
                          clear H'
                          try clear c1
                          try clear p1
                          try clear q1
                          try clear hx1
                          try clear c2
                          try clear p2
                          try clear c4
                          try clear c4b0
                          try clear c4b1
                          try clear c5
                          try clear c5b0
                          try clear c5b1
                          try clear c6
                          try clear c6b0
                          try clear c6b1
                          try clear c7
                          try clear c7b0
                          try clear c7b1
                          try clear c10
                          try clear c10b0
                          try clear p10
                          try clear q10
                          try clear hx10
                          try clear c11
                          try clear c11b0
                          try clear c12
                          try clear c12b0
                          try clear c13
                          try clear c13b0
                          try clear c13b1
                          try clear c14
                          try clear c14b0
                          try clear c14b1
                          try clear q15
                          try clear hx107_0
                          try clear p107
                          try clear p2
                          try clear q107
                          try clear q15
                          obtain ⟨x8_2, x40_2, rfl, HA, HK2, HO_0, HO_8, HO_38, HB⟩ := hrel
                          cases gk with
                          | zero => exact absurd HA.out (by simp [num_Read.l1])
                          | succ k2 =>
                            have H := HA.out
                            clear HA
                            simp only [num_Read.l1] at H
                            by_cases c17 : x40_2 < (y108.length : Int)
                            · rw [if_pos c17] at H
                              have c17b0 : decide (x40_2 < (y108.length : Int)) = true := decide_eq_true c17
                              clear c17
                              by_cases c18 : 0 ≤ x40_2
                              · rw [if_pos c18] at H
                                have c18b0 : decide (0 ≤ x40_2) = true := decide_eq_true c18
                                clear c18
                                by_cases c19 : x40_2 < (y108.length : Int)
                                · rw [if_pos c19] at H
                                  have c19b0 : decide (x40_2 < (y108.length : Int)) = true := decide_eq_true c19
                                  clear c19
                                  by_cases c20 : 0 ≤ x30_1
                                  · rw [if_pos c20] at H
                                    have c20b0 : decide (0 ≤ x30_1) = true := decide_eq_true c20
                                    clear c20
                                    by_cases c21 : x30_1 < (x8_2.length : Int)
                                    · rw [if_pos c21] at H
                                      have c21b0 : decide (x30_1 < (x8_2.length : Int)) = true := decide_eq_true c21
                                      clear c21
                                      obtain ⟨y115, hy115⟩ : ∃ y_ : List Int, y_ = (x8_2.set (x30_1 : Int).toNat (Go.bits .or .u64 (IntKind.u64.wrap ((rd x8_2 x30_1) * 256)) (IntKind.u64.wrap (rd y108 x40_2)))) := ⟨_, rfl⟩
                                      replace H : (num_Read.l1 k2 x0_1 y115 x30_1 (rd l1 x30_1) l1 (l1.length : Int) x30_1 y108 (y108.length : Int) (wrap64 (x40_2 + 1))) = some (r1, r2) := by first | (rw [hy115]; with_reducible exact H) | (have H2_ := (Option.bind_some _ _).symm.trans H; rw [hy115]; with_reducible exact H2_) | (have H2_ := (Option.bind_some _ _).symm.trans H; with_reducible exact H2_) | with_reducible exact H | (rw [hy115]; exact H) | exact H
                                      have Ny115 := Aside0.mk hy115
                                      clear hy115
                                      have H' := Aside0.mk H
                                      clear H
                                      have p113 : 0 ≤ (x40_2 : Int) := of_decide_eq_true (by first | (with_reducible assumption) | assumption)
                                      have q113 : x40_2 < (y108.length : Int) := of_decide_eq_true (by first | (with_reducible assumption) | assumption)
                                      obtain ⟨ad113, e113, hx113_0⟩ := Kd.at_int (Kd.V_reads' HO_38.out).2.2 x40_2 p113 q113
                                      cases e113
                                      replace p113 := eq_true p113
                                      replace q113 := eq_true q113
                                      obtain ⟨Ao23, co23, eo23⟩ := Kd.R_slice HO_8.out
                                      subst eo23
                                      have p114 : 0 ≤ (x30_1 : Int) := of_decide_eq_true (by first | (with_reducible assumption) | assumption)
                                      have q114 : x30_1 < (x8_2.length : Int) := of_decide_eq_true (by first | (with_reducible assumption) | assumption)
                                      obtain ⟨ad114, e114, hx114_0⟩ := Kd.at_int (Kd.R_reads' HO_8.out).2.2 x30_1 p114 q114
                                      cases e114
                                      replace p114 := eq_true p114
                                      replace q114 := eq_true q114
                                      have p22 : 0 ≤ (x30_1 : Int) := of_decide_eq_true (by first | (with_reducible assumption) | assumption)
                                      have q22 : (x30_1 : Int) < ((x8_2.length : Int) : Int) := of_decide_eq_true (by first | (with_reducible assumption) | assumption)
                                      obtain ⟨go22, co22, eo22, gb22, gl22, cl22, HG22⟩ := Kd.R_form HO_8.out (by omega)
                                      (first | cases eo22 | (injection eo22 with ea_ en_ ec_; (first | subst ea_ | (injection ea_ with ea_; subst ea_)); subst ec_; clear en_))
                                      have GB22 := Aside0.mk gb22
                                      have GG22 := Aside0.mk HG22
                                      clear gb22 gl22 HG22
                                      (first | simp only [add_plain] at hx114_0 | skip)
                                      obtain ⟨hx22_0, hf22_0⟩ := Kd.R_celln 0 HO_8.out (x30_1 : Int) p22 q22
                                      replace p22 := eq_true p22
                                      replace q22 := eq_true q22
                                      have HP24 := Kd.R_putg HO_8.out (x30_1 : Int) (Go.bits .or .u64 (IntKind.u64.wrap ((rd x8_2 x30_1) * 256)) (IntKind.u64.wrap (rd y108 x40_2)))
                                      go_wp2_with (first | ((with_reducible refine gate_store (t := 38) (p := 54) rfl ?_); refine store_event (t := 38) (p := 54) (v := ?vo_w25) (w1 := (wr.setCell ⟨go22, (x30_1 : Int).toNat, none⟩ (.int .u64 (Go.bits .or .u64 (IntKind.u64.wrap ((rd x8_2 x30_1) * 256)) (IntKind.u64.wrap (rd y108 x40_2)))))) ?hg ?ho ?hn ?hr ?_; (case ho => rfl); (case hg => rfl); (case hn => rfl); (case hr => first | (go_simp; done) | (go_simp; rfl)); intro w25 hw; have hg : wr.grownBy w25 (some go22) := (by rw [hw]; exact HP24.2); have hp_ : Kd.R (Kd.int .u64) 38 w25 w.heap.size (fun k_ => (w.heap.size ≤ k_)) (.slice (some ⟨go22, 0, none⟩) x8_2.length co23) y115 := (by rw [hw, Ny115.out]; exact HP24.1); clear HP24; have n0_ := Aside0.mk (Kd.V_afterv (v := (.slice (some ⟨go22, 0, none⟩) x8_2.length co23)) (v1 := (.slice (some ⟨go22, 0, none⟩) x8_2.length co23)) (ok := (fun k_ => (P0_ k_ ∨ w.heap.size ≤ k_))) (by (with_reducible repeat (first | apply Kd.V_alloc | apply Kd.V_drewN | apply Kd.V_drew)); exact HO_0.out) hg (.inl rfl)); have n1_ := Aside0.mk (hp_); have n2_ := Aside0.mk (Kd.V_afterv (v := (.slice (some ⟨go22, 0, none⟩) x8_2.length co23)) (v1 := (.slice (some ⟨go22, 0, none⟩) x8_2.length co23)) (ok := (fun k_ => (P0_ k_ ∨ w.heap.size ≤ k_))) (by (with_reducible repeat (first | apply Kd.V_alloc | apply Kd.V_drewN | apply Kd.V_drew)); exact HO_38.out) hg (.inl rfl)); have n3_ := Aside0.mk ((by rw [hw]; exact below_set (HB.out) GB22.out : Below w.heap.size w w25)); clear HO_0; clear HO_8; clear HO_38; clear HB; have HO_0 := n0_; have HO_8 := n1_; have HO_38 := n2_; have HB := n3_; clear n0_ n1_ n2_ n3_; clear hg hw hp_))
                                      go_roundg k2
                                      case measure => have := HK1.out; have := HK2.out; omega
                                      case rel => exact ⟨(y115), (wrap64 (x40_2 + 1)), (by first | rfl | (simp; done) | (simp [*]; done)), H', ⟨by have := HK1.out; have := HK2.out; omega⟩, ⟨by (with_reducible repeat (first | apply Kd.V_alloc | apply Kd.V_drewN | apply Kd.V_drew)); exact HO_0.out⟩, ⟨by (with_reducible repeat (first | apply Kd.R_alloc | apply Kd.R_drewN | apply Kd.R_drew)); exact HO_8.out⟩, ⟨by (with_reducible repeat (first | apply Kd.V_alloc | apply Kd.V_drewN | apply Kd.V_drew)); exact HO_38.out⟩, ⟨by repeat (first | (with_reducible first | exact HB.out | apply below_alloc | apply pw_below_drewN | apply below_drew1) | exact HB.out)⟩⟩
                                    · rw [if_neg c21] at H
                                      exact absurd H (by simp)
                                  · rw [if_neg c20] at H
                                    exact absurd H (by simp)
                                · rw [if_neg c19] at H
                                  exact absurd H (by simp)
                              · rw [if_neg c18] at H
                                exact absurd H (by simp)
                            · rw [if_neg c17] at H
                              have c17b0 : decide (x40_2 < (y108.length : Int)) = false := decide_eq_false c17
                              clear c17
                              by_cases c26 : 0 ≤ (rd l1 x30_1)
                              · rw [if_pos c26] at H
                                have c26b0 := eq_true c26
                                have c26b1 : decide (0 ≤ (rd l1 x30_1)) = true := decide_eq_true c26
                                clear c26
                                by_cases c27 : (rd l1 x30_1) ≤ (x0_1.length : Int)
                                · rw [if_pos c27] at H
                                  have c27b0 := eq_true c27
                                  have c27b1 : decide ((rd l1 x30_1) ≤ (x0_1.length : Int)) = true := decide_eq_true c27
                                  clear c27
                                  obtain ⟨y116, hy116⟩ : ∃ y_ : List Int, y_ = (x0_1.drop ((rd l1 x30_1) : Int).toNat) := ⟨_, rfl⟩
                                  replace H : (num_Read.l0 k2 y116 x8_2 l1 (l1.length : Int) (wrap64 (x30_1 + 1))) = some (r1, r2) := by first | (rw [hy116]; with_reducible exact H) | (have H2_ := (Option.bind_some _ _).symm.trans H; rw [hy116]; with_reducible exact H2_) | (have H2_ := (Option.bind_some _ _).symm.trans H; with_reducible exact H2_) | with_reducible exact H | (rw [hy116]; exact H) | exact H
                                  have Ny116 := Aside0.mk hy116
                                  clear hy116
                                  have H' := Aside0.mk H
                                  clear H
                                  have q28 : ((rd l1 x30_1) : Int) ≤ ((x0_1.length : Int) : Int) := of_decide_eq_true (by first | (with_reducible assumption) | assumption)
                                  obtain ⟨i028, hi028, _, hsz28, _⟩ := info_parts info5
                                  have hroom28 : x0_1.length ≤ co16 := (Kd.V_reads' HO_0.out).2.1
                                  have hC28 : Kd.F (Kd.int .u8) _ _ Ao16 x0_1.length x0_1 := (Kd.V_at (base := w.heap.size) HO_0.out).2.2
                                  have q028 : (0 : Int) ≤ ((rd l1 x30_1) : Int) := of_decide_eq_true (by first | (with_reducible assumption) | assumption)
                                  have hcut28 := cut_from (P := Try.prog) 22 5 .i64 Try.underlying22 hi028 1 hsz28 Ao16 x0_1.length co16 (rd l1 x30_1) q028 q28
                                  have hr28 := Kd.F_cut (m := ((rd l1 x30_1) : Int).toNat) (c := co16) hC28 (by omega) hroom28
                                  obtain ⟨A28, hA28⟩ : ∃ A1, A1 = (if co16 = ((rd l1 x30_1) : Int).toNat then Ao16 else (Ao16 : Option Addr).map (·.add (((rd l1 x30_1) : Int).toNat * 1))) := ⟨_, rfl⟩
                                  obtain ⟨c28, hc28⟩ : ∃ c1, c1 = co16 - ((rd l1 x30_1) : Int).toNat := ⟨_, rfl⟩
                                  have hy28 : y116.length = x0_1.length - ((rd l1 x30_1) : Int).toNat := (by rw [Ny116.out, List.length_drop] <;> omega)
                                  rw [show (x0_1).drop ((rd l1 x30_1) : Int).toNat = y116 from Ny116.out.symm] at hr28
                                  replace hr28 : Kd.F (Kd.int .u8) _ _ A28 y116.length y116 := (by rw [hA28]; exact hr28)
                                  rw [← hy28, ← hA28, ← hc28] at hcut28
                                  have HO120 := Aside0.mk (show Kd.V (Kd.int .u8) 5 _ w.heap.size _ (.slice A28 y116.length c28) y116 from Kd.V_mk (by rw [hy28, hc28]; exact Nat.sub_le_sub_right hroom28 _) hr28)
                                  have HC120 := Aside0.mk (show y116.length ≤ c28 from by rw [hy28, hc28]; exact Nat.sub_le_sub_right hroom28 _)
                                  clear hr28 hC28 hroom28 hi028 hsz28 hc28
                                  have KY28 := Aside0.mk hy28
                                  have KA28 := Aside0.mk hA28
                                  clear hy28 hA28
                                  replace q28 := eq_true q28
                                  go_wp2
                                  go_roundg k2
                                  case measure => have := HK1.out; have := HK2.out; omega
                                  case rel => exact ⟨(y116), (x8_2), (wrap64 (x30_1 + 1)), (by first | rfl | (simp; done) | (simp [*]; done)), H', ⟨by have := HK1.out; have := HK2.out; omega⟩, ⟨by (with_reducible repeat (first | apply Kd.V_alloc | apply Kd.V_drewN | apply Kd.V_drew)); exact HO120.out⟩, ⟨by (with_reducible repeat (first | apply Kd.R_alloc | apply Kd.R_drewN | apply Kd.R_drew)); exact HO_8.out⟩, ⟨by repeat (first | (with_reducible first | exact HB.out | apply below_alloc | apply pw_below_drewN | apply below_drew1) | exact HB.out)⟩⟩
                                · rw [if_neg c27] at H
                                  exact absurd H (by simp)
                              · rw [if_neg c26] at H
                                exact absurd H (by simp)
                      · rw [if_neg c14] at H
                        exact absurd H (by simp)
                    · rw [if_neg c13] at H
                      exact absurd H (by simp)
                  · rw [if_neg c12] at H
                    exact absurd H (by simp)
                · rw [if_neg c11] at H
                  exact absurd H (by simp)
              · rw [if_neg c10] at H
                have c10b0 : decide (x30_1 < (l1.length : Int)) = false := decide_eq_false c10
                clear c10
                simp only [Option.some.injEq, Prod.mk.injEq] at H
                obtain ⟨rfl, rfl⟩ := H
                go_wp2
                go_ret2
                exact ⟨_, by first | rfl | (simp [errW_none, errW_some] <;> rfl) | (simp [*, errW_none, errW_some] <;> rfl), by (with_reducible repeat (first | apply Kd.R_alloc | apply Kd.R_drewN | apply Kd.R_drew)); exact HO_8.out, by repeat (first | (with_reducible first | exact HB.out | apply below_alloc | apply pw_below_drewN | apply below_drew1) | exact HB.out)⟩
        · rw [if_neg c7] at H
          exact absurd H (by simp)
      · rw [if_neg c6] at H
        exact absurd H (by simp)
    · rw [if_neg c5] at H
      have c5b0 : ((l0.length : Int) == t102) = false := beq_eq_false_iff_ne.mpr c5
      have c5b1 : ((l0.length : Int) != t102) = true := bne_iff_ne.mpr c5
      simp only [Option.some.injEq, Prod.mk.injEq] at H
      obtain ⟨rfl, rfl⟩ := H
      go_enter Try.func23, Try.ntmps23
      go_wp2_with (first | ((with_reducible refine gate_callee (f := 24) rfl ?_); refine goesL_ (some 15) rfl rfl Try.func24 (by kernel_rfl) rfl #[.slice A1 l1.length c1] rfl (by (try simp only [List.map_toArray, List.map_cons, List.map_nil]); first | done | rfl | (simp only [List.length_drop, List.length_take]; rfl)) ?_; (with_reducible refine (num_Size.calls k _ _ l1 t102 t103 _ ?side1 ?side2 A3.out).mono ?_); (case side1 => repeat (first | exact HR1.out | (with_reducible refine Kd.C_alloc ?_ _) | (with_reducible refine Kd.C_drewN ?_ _) | (with_reducible refine Kd.C_drew ?_))); (case side2 => exact HC1.out); rintro e w' ⟨rfl, ⟨nd, rfl⟩⟩; refine ⟨_, rfl, ?_⟩))
      go_ret2
      exact ⟨_, by first | rfl | (simp [errW_none, errW_some] <;> rfl) | (simp [*, errW_none, errW_some] <;> rfl), by first | exact Kd.R_nil _ _ _ _ _ | exact Kd.N_nil _ _ _ _ _ | exact Kd.V_nil _ _ _ _ _ | exact Kd.Q_nil _ _ _ _ _ | exact Kd.S_nil _ _ _ _ _, by repeat (first | (with_reducible first | exact HB.out | apply below_alloc | apply pw_below_drewN | apply below_drew1) | exact HB.out)⟩
  · rw [if_neg c4] at H
    have c4b0 : (t103 == 0) = false := beq_eq_false_iff_ne.mpr c4
    have c4b1 : (t103 != 0) = true := bne_iff_ne.mpr c4
    simp only [Option.some.injEq, Prod.mk.injEq] at H
    obtain ⟨rfl, rfl⟩ := H
    go_enter Try.func23, Try.ntmps23
    go_wp2_with (first | ((with_reducible refine gate_callee (f := 24) rfl ?_); refine goesL_ (some 15) rfl rfl Try.func24 (by kernel_rfl) rfl #[.slice A1 l1.length c1] rfl (by (try simp only [List.map_toArray, List.map_cons, List.map_nil]); first | done | rfl | (simp only [List.length_drop, List.length_take]; rfl)) ?_; (with_reducible refine (num_Size.calls k _ _ l1 t102 t103 _ ?side1 ?side2 A3.out).mono ?_); (case side1 => repeat (first | exact HR1.out | (with_reducible refine Kd.C_alloc ?_ _) | (with_reducible refine Kd.C_drewN ?_ _) | (with_reducible refine Kd.C_drew ?_))); (case side2 => exact HC1.out); rintro e w' ⟨rfl, ⟨nd, rfl⟩⟩; refine ⟨_, rfl, ?_⟩))
    go_ret2
    exact ⟨_, by first | rfl | (simp [errW_none, errW_some] <;> rfl) | (simp [*, errW_none, errW_some] <;> rfl), by first | exact Kd.R_nil _ _ _ _ _ | exact Kd.N_nil _ _ _ _ _ | exact Kd.V_nil _ _ _ _ _ | exact Kd.Q_nil _ _ _ _ _ | exact Kd.S_nil _ _ _ _ _, by repeat (first | (with_reducible first | exact HB.out | apply below_alloc | apply pw_below_drewN | apply below_drew1) | exact HB.out)⟩

end Go.Proofs.Ytlgnnppmjcdncaa.PNum
