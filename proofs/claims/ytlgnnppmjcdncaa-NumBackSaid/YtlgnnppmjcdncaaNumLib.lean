/- What num's printed functions and the reference's tell, as lists of numbers. -/
import Derived.Test.YtlgnnppmjcdncaaNumMath
import Derived.Test.YtlgnnppmjcdncaaPNumx
namespace Go.Proofs.Ytlgnnppmjcdncaa.PNum
open Go.RowKit Go.Proofs.YtlgnnppmjcdncaaW.PrintWords Go.Proofs.YtlgnnppmjcdncaaW.PrintLast Go.Proofs.Ytlgnnppmjcdncaa.NumMath Go.Proofs.Ytlgnnppmjcdncaa.Kit
/-- The number of bytes. -/
def numI (y : List Int) : Int := y.foldl (fun a c => 256 * a + c) 0
def numsI : List Int → List Int → List Int
  | b, n :: s => numI (b.take n.toNat) :: numsI (b.drop n.toNat) s
  | _, [] => []
def readI (b s : List Int) : List Int × Int := if okS s then (if (b.length : Int) = sumI s then (numsI b s, 0) else ([], 10)) else ([], 2)
theorem numI_snoc (y : List Int) (c : Int) : numI (y ++ [c]) = 256 * numI y + c := by simp [numI, List.foldl_append]
theorem numI_bd {y : List Int} (h : By y) : 0 ≤ numI y ∧ numI y < ((256 ^ y.length : Nat) : Int) := by
  revert h
  refine snoc_ind (p := fun y => By y → 0 ≤ numI y ∧ numI y < ((256 ^ y.length : Nat) : Int)) ?_ ?_ y
  · intro _; simp [numI]
  · intro y c ih h
    have h1 := ih h.left
    have h2 := h c (by simp)
    rw [numI_snoc, List.length_append, List.length_singleton, Nat.pow_succ]
    rw [Int.natCast_mul]
    omega
theorem numI_lt8 {y : List Int} (h : By y) (hl : y.length ≤ 8) : 0 ≤ numI y ∧ numI y < 18446744073709551616 := by
  have h1 := numI_bd h
  have h2 : 256 ^ y.length ≤ 256 ^ 8 := Nat.pow_le_pow_right (by decide) hl
  have h3 : (256 : Nat) ^ 8 = 18446744073709551616 := by decide
  rw [h3] at h2
  omega
theorem u64_id {x : Int} (h0 : 0 ≤ x) (h1 : x < 18446744073709551616) : IntKind.u64.wrap x = x := by
  simp [IntKind.wrap, IntKind.bits, IntKind.signed]; omega
theorem or_byte {v c : Int} (hv : 0 ≤ v) (hv2 : v * 256 + c < 18446744073709551616) (hc : 0 ≤ c) (hc2 : c < 256) : Go.bits .or .u64 (IntKind.u64.wrap (v * 256)) (IntKind.u64.wrap c) = 256 * v + c := by
  rw [u64_id (by omega) (by omega), u64_id hc (by omega)]
  obtain ⟨a, rfl⟩ : ∃ a : Nat, v = a := ⟨v.toNat, by omega⟩
  obtain ⟨b, rfl⟩ : ∃ b : Nat, c = b := ⟨c.toNat, by omega⟩
  have h1 := (bits_nat2 .u64 (a * 256) b (by show a * 256 < 2 ^ 64; omega) (by show b < 2 ^ 64; omega)).2.2
  rw [Int.natCast_mul] at h1
  have h2 : a * 256 ||| b = 256 * a + b := by
    have := Nat.two_pow_add_eq_or_of_lt (b := b) (i := 8) (by omega) a
    rw [Nat.mul_comm a 256]
    exact this.symm
  rw [h2] at h1
  refine h1.trans ((wrap_u rfl (by show 256 * a + b < 2 ^ 64; omega)).trans ?_)
  rw [Int.natCast_add, Int.natCast_mul]
  rfl
theorem read_l1 (x0 s y : List Int) (sl n i : Int) (iN : Nat) (hi : i = iN) (hy : By y) (hy8 : y.length ≤ 8) (hn0 : 0 ≤ n) (hn1 : n ≤ x0.length) (hsl : iN < 100) (d : Nat) : ∀ (k j : Nat) (out : List Int), j + d = y.length → iN < out.length → out[iN]? = some (numI (y.take j)) → num_Read.l1 (k + d + 1) x0 out i n s sl i y (y.length : Int) (j : Int) = num_Read.l0 k (x0.drop n.toNat) (out.set iN (numI y)) s sl ((iN + 1 : Nat) : Int) := by
  induction d with
  | zero =>
    intro k j out hj hlt hget
    obtain rfl : j = y.length := by omega
    rw [num_Read.l1, if_neg (by omega), if_pos hn0, if_pos hn1]
    rw [List.take_length] at hget
    rw [set_get hget, w64 (by omega) (by omega), hi, show ((iN : Int) + 1) = ((iN + 1 : Nat) : Int) by omega]
  | succ d ih =>
    intro k j out hj hlt hget
    have hjl : j < y.length := by omega
    have hc := hy _ (List.getElem_mem hjl)
    have hb := numI_lt8 (y := y.take j ++ [y[j]]) ((hy.take j).append (By.cons hc.1 hc.2 By.nil)) (by rw [List.length_append, List.length_take, List.length_singleton]; omega)
    have hv := numI_bd (hy.take j)
    rw [numI_snoc] at hb
    have hrd : rd out (iN : Int) = numI (y.take j) := by
      unfold rd
      rw [Int.toNat_natCast, List.getD_eq_getElem?_getD, hget]; rfl
    rw [show k + (d + 1) + 1 = (k + d + 1) + 1 by omega, num_Read.l1, if_pos (by omega), if_pos (by omega), if_pos (by omega), if_pos (by omega), if_pos (by omega), rd_get hjl, hi, hrd, or_byte hv.1 (by omega) hc.1 hc.2, w64 (by omega) (by omega), show ((j : Int) + 1) = ((j + 1 : Nat) : Int) by omega, Int.toNat_natCast]
    rw [hi] at ih
    rw [ih k (j + 1) (out.set iN (256 * numI (y.take j) + y[j])) (by omega) (by rw [List.length_set]; exact hlt) (by rw [List.getElem?_set_self hlt, take_succ_get y j hjl, numI_snoc])]
    rw [List.set_set]
theorem read_l0 (s : List Int) (hs : okS s) (d : Nat) : ∀ (k i : Nat) (b done : List Int), i + d = s.length → d * 20 < k → By b → done.length = i → (b.length : Int) = sumI (s.drop i) → num_Read.l0 k b (done ++ List.replicate d 0) s (s.length : Int) (i : Int) = some (done ++ numsI b (s.drop i), 0) := by
  induction d with
  | zero =>
    intro k i b done hi hk hb hd hl
    obtain ⟨k, rfl⟩ : ∃ m, k = m + 1 := ⟨k - 1, by omega⟩
    rw [num_Read.l0, if_neg (by omega), List.drop_eq_nil_of_le (by omega)]
    cases b <;> rfl
  | succ d ih =>
    intro k i b done hi hk hb hd hl
    have hlt : i < s.length := by omega
    have hn := hs.2 _ (List.getElem_mem hlt)
    have h16 := hs.1
    rw [List.drop_eq_getElem_cons hlt] at hl ⊢
    simp only [sumI] at hl
    have hbd := sumI_bd (s := s.drop (i + 1)) fun n hn => hs.2 n (List.mem_of_mem_drop hn)
    have hyl : (b.take s[i].toNat).length = s[i].toNat := by rw [List.length_take]; omega
    obtain ⟨k, rfl⟩ : ∃ m, k = m + s[i].toNat + 1 + 1 := ⟨k - s[i].toNat - 2, by omega⟩
    rw [num_Read.l0, if_pos (by omega), if_pos (by omega), if_pos (by omega), rd_get hlt, if_pos (by omega), if_pos (by omega), Option.bind_some]
    have h1 := read_l1 b s (b.take s[i].toNat) (s.length : Int) s[i] (i : Int) i rfl (hb.take _) (by omega) (by omega) (by omega) (by omega) s[i].toNat k 0 (done ++ List.replicate (d + 1) 0) (by omega) (by rw [List.length_append, List.length_replicate]; omega) (by rw [List.getElem?_append_right (by omega), hd, Nat.sub_self]; rfl)
    have h2 : num_Read.l1 (k + s[i].toNat + 1) b (done ++ List.replicate (d + 1) 0) (i : Int) s[i] s (s.length : Int) (i : Int) (b.take s[i].toNat) ((b.take s[i].toNat).length : Int) 0 = _ := h1
    rw [h2]
    have h3 : (done ++ List.replicate (d + 1) 0).set i (numI (b.take s[i].toNat)) = (done ++ [numI (b.take s[i].toNat)]) ++ List.replicate d 0 := by
      rw [List.set_append_right _ _ (by omega), hd, Nat.sub_self, List.replicate_succ, List.set_cons_zero, List.append_assoc]
      rfl
    rw [h3, ih k (i + 1) (b.drop s[i].toNat) _ (by omega) (by omega) (hb.drop _) (by rw [List.length_append, List.length_singleton]; omega) (by rw [List.length_drop]; omega), List.append_assoc]
    rfl
theorem read_ok {b s : List Int} (hb : By b) {k : Nat} (hk : 400 < k) : num_Read.f k b s = some (readI b s) := by
  unfold num_Read.f readI
  rw [num_Size.told s (by omega), Option.bind_some]
  unfold sizeI
  by_cases hs : okS s
  · have h16 := hs.1
    rw [if_pos hs, if_pos hs, if_pos rfl]
    dsimp only
    by_cases hl : (b.length : Int) = sumI s
    · rw [if_pos hl, if_pos hl, if_pos (by omega), if_pos (by omega)]
      have h1 := read_l0 s hs s.length k 0 b [] (by omega) (by omega) hb rfl (by rw [List.drop_zero]; exact hl)
      rw [List.nil_append, List.nil_append, List.drop_zero] at h1
      rw [Int.toNat_natCast]
      exact h1
    · rw [if_neg hl, if_neg hl]
  · rw [if_neg hs, if_neg hs, if_neg (by decide)]
theorem same_l (a b : List Int) (hl : a.length = b.length) (hn : a.length ≤ 1000000) (d : Nat) : ∀ (k i : Nat), i + d = a.length → d < k → catamaranref01_Same.l0 k a b (i : Int) = some (decide (a.drop i = b.drop i)) := by
  induction d with
  | zero =>
    intro k i hi hk
    obtain ⟨k, rfl⟩ : ∃ m, k = m + 1 := ⟨k - 1, by omega⟩
    rw [catamaranref01_Same.l0, if_neg (by omega), List.drop_eq_nil_of_le (by omega), List.drop_eq_nil_of_le (by omega)]
    rfl
  | succ d ih =>
    intro k i hi hk
    obtain ⟨k, rfl⟩ : ∃ m, k = m + 1 := ⟨k - 1, by omega⟩
    have h1 : i < a.length := by omega
    have h2 : i < b.length := by omega
    rw [catamaranref01_Same.l0, if_pos (by omega), if_pos (by omega), if_pos (by omega), rd_get h1, rd_get h2, w64 (by omega) (by omega), show ((i : Int) + 1) = ((i + 1 : Nat) : Int) by omega, ih k (i + 1) (by omega) (by omega), List.drop_eq_getElem_cons h1, List.drop_eq_getElem_cons h2]
    by_cases h3 : a[i] = b[i]
    · rw [if_pos h3]
      congr 1
      exact decide_eq_decide.2 ⟨fun h => by rw [h3, h], fun h => (List.cons.inj h).2⟩
    · rw [if_neg h3]
      congr 1
      exact (decide_eq_false fun h => h3 (List.cons.inj h).1).symm
theorem same_ok {a b : List Int} (hn : a.length ≤ 1000000) {k : Nat} (hk : a.length < k) : catamaranref01_Same.f k a b = some (decide (a = b)) := by
  unfold catamaranref01_Same.f
  by_cases h : (a.length : Int) = (b.length : Int)
  · rw [if_pos h]
    exact same_l a b (by omega) hn a.length k 0 (by omega) hk
  · rw [if_neg h]
    congr 1
    rw [eq_comm, decide_eq_false_iff_not]
    intro h2
    exact h (by rw [h2])
theorem dgs_get {n x i : Nat} (h : i < n) : (dgs n x)[i]? = some ((x / 256 ^ (n - 1 - i) % 256 : Nat) : Int) := by
  unfold dgs
  rw [List.getElem?_map, List.getElem?_range h]
  rfl
theorem dgs_By (n x : Nat) : By (dgs n x) := by
  intro y hy
  obtain ⟨j, _, rfl⟩ := List.mem_map.1 hy
  omega
theorem rowI_By (l s : List Int) : By (rowI l s) := by
  induction l generalizing s with
  | nil => exact By.nil
  | cons x l ih =>
    cases s with
    | nil => exact By.nil
    | cons n s => exact (dgs_By _ _).append (ih s)
theorem dgs_succ (n x : Nat) : dgs (n + 1) x = ((x / 256 ^ n % 256 : Nat) : Int) :: dgs n x := by
  unfold dgs
  rw [List.range_succ_eq_map, List.map_cons, List.map_map]
  congr 1
  refine List.map_congr_left fun j _ => ?_
  show ((x / 256 ^ (n + 1 - 1 - (j + 1)) % 256 : Nat) : Int) = _
  rw [show n + 1 - 1 - (j + 1) = n - 1 - j by omega]
theorem numI_dgs (n x : Nat) : numI (dgs n x) = ((x % 256 ^ n : Nat) : Int) := by
  induction n with
  | zero => simp [dgs, numI, Nat.mod_one]
  | succ n ih =>
    have key : ∀ (y : List Int) (a : Int), y.foldl (fun a c => 256 * a + c) a = a * ((256 ^ y.length : Nat) : Int) + numI y := by
      intro y
      induction y with
      | nil => intro a; simp [numI]
      | cons c y ih2 =>
        intro a
        have e1 : (c :: y).foldl (fun a c => 256 * a + c) a = y.foldl (fun a c => 256 * a + c) (256 * a + c) := rfl
        have e2 : numI (c :: y) = y.foldl (fun a c => 256 * a + c) (256 * 0 + c) := rfl
        rw [e1, e2, ih2, ih2, List.length_cons, Nat.pow_succ, Int.natCast_mul, Int.mul_zero, Int.zero_add, Int.add_mul, Int.add_assoc]
        congr 1
        rw [Int.mul_comm ((256 ^ y.length : Nat) : Int), ← Int.mul_assoc, Int.mul_comm a]
        rfl
    rw [dgs_succ]
    have e : numI (((x / 256 ^ n % 256 : Nat) : Int) :: dgs n x) = (dgs n x).foldl (fun a c => 256 * a + c) (256 * 0 + ((x / 256 ^ n % 256 : Nat) : Int)) := rfl
    rw [e, key, ih, dgs_length]
    have h1 : x % 256 ^ (n + 1) = x / 256 ^ n % 256 * 256 ^ n + x % 256 ^ n := by
      rw [Nat.pow_succ, Nat.mod_mul, Nat.mul_comm (256 ^ n)]
      omega
    rw [h1, Int.natCast_add, Int.natCast_mul, Int.mul_zero, Int.zero_add]
theorem dgs_numI {y : List Int} (h : By y) : dgs y.length (numI y).toNat = y := by
  have h1 : ∀ a b : List Int, a.length = b.length → By a → By b → numI a = numI b → a = b := by
    intro a
    refine snoc_ind (p := fun a => ∀ b : List Int, a.length = b.length → By a → By b → numI a = numI b → a = b) ?_ ?_ a
    · intro b hl _ _ _; exact (List.eq_nil_of_length_eq_zero hl.symm).symm
    · intro a c ih b hl ha hb hn
      rcases List.eq_nil_or_concat b with rfl | ⟨b, d, rfl⟩
      · simp at hl
      · rw [List.concat_eq_append] at hl hb hn ⊢
        rw [numI_snoc, numI_snoc] at hn
        have h2 := ha c (by simp)
        have h3 := hb d (by simp)
        rw [List.length_append, List.length_append] at hl
        rw [ih b (by simpa using hl) ha.left hb.left (by omega), show c = d by omega]
  have h2 := numI_bd h
  refine h1 _ _ (dgs_length _ _) (dgs_By _ _) h ?_
  rw [numI_dgs, Nat.mod_eq_of_lt (by omega)]
  omega
/-- What is written is read. -/
theorem nums_row {l s : List Int} (hl : l.length = s.length) (hs : ∀ n ∈ s, 1 ≤ n ∧ n ≤ 8) (hU : U64 l) (hf : fitI l s = true) : numsI (rowI l s) s = l := by
  induction l generalizing s with
  | nil =>
    obtain rfl : s = [] := List.eq_nil_of_length_eq_zero hl.symm
    rfl
  | cons x l ih =>
    cases s with
    | nil => simp at hl
    | cons n s =>
      simp only [fitI, Bool.and_eq_true, decide_eq_true_eq] at hf
      have hx := hU x (by simp)
      simp only [rowI, numsI]
      have ht : (dgs n.toNat x.toNat ++ rowI l s).take n.toNat = dgs n.toNat x.toNat := by
        conv => lhs; rw [← dgs_length n.toNat x.toNat]
        rw [show n.toNat = (dgs n.toNat x.toNat).length from (dgs_length _ _).symm]
        rw [dgs_length]
        exact List.take_left' (dgs_length _ _)
      have hd : (dgs n.toNat x.toNat ++ rowI l s).drop n.toNat = rowI l s := List.drop_left' (dgs_length _ _)
      rw [ht, hd, numI_dgs, ih (by simpa using hl) (fun m hm => hs m (by simp [hm])) (fun y hy => hU y (by simp [hy])) hf.2]
      rw [Nat.mod_eq_of_lt]
      · congr 1; omega
      · have h1 : 0 < 256 ^ n.toNat := Nat.pow_pos (by decide)
        exact (Nat.div_eq_zero_iff_lt h1).1 hf.1
/-- What is read, written again, is these bytes. -/
theorem row_nums {b s : List Int} (hb : By b) (hs : ∀ n ∈ s, 1 ≤ n ∧ n ≤ 8) (hl : (b.length : Int) = sumI s) : rowI (numsI b s) s = b ∧ fitI (numsI b s) s = true ∧ U64 (numsI b s) ∧ (numsI b s).length = s.length := by
  induction s generalizing b with
  | nil =>
    obtain rfl : b = [] := List.eq_nil_of_length_eq_zero (by simp [sumI] at hl; exact hl ▸ rfl)
    exact ⟨rfl, rfl, (fun _ h => nomatch h), rfl⟩
  | cons n s ih =>
    have hn := hs n (by simp)
    have hbd := sumI_bd (s := s) fun m hm => hs m (by simp [hm])
    simp only [sumI] at hl
    have hlt : (b.take n.toNat).length = n.toNat := by rw [List.length_take]; omega
    obtain ⟨h1, h2, h3, h4⟩ := ih (b := b.drop n.toNat) (hb.drop _) (fun m hm => hs m (by simp [hm])) (by rw [List.length_drop]; omega)
    have h5 := numI_lt8 (hb.take n.toNat) (by omega)
    have h6 := numI_bd (hb.take n.toNat)
    rw [hlt] at h6
    have h7 := dgs_numI (hb.take n.toNat)
    rw [hlt] at h7
    simp only [numsI, rowI, fitI, Bool.and_eq_true, decide_eq_true_eq, List.length_cons]
    refine ⟨by rw [h7, h1, List.take_append_drop], ⟨Nat.div_eq_of_lt (by omega), h2⟩, fun x hx => ?_, by rw [h4]⟩
    rcases List.mem_cons.1 hx with rfl | hx
    · exact h5
    · exact h3 x hx
theorem rtotal_l (s : List Int) (hl : s.length ≤ 16) (d : Nat) : ∀ (k i : Nat) (m : Int), i + d = s.length → d < k → 0 ≤ m → m ≤ 8 * i → catamaranref01_Total.l0 k s m (i : Int) = some (if ∀ n ∈ s.drop i, 1 ≤ n ∧ n ≤ 8 then m + sumI (s.drop i) else -1) := by
  induction d with
  | zero =>
    intro k i m hi hk h0 h8
    obtain ⟨k, rfl⟩ : ∃ m, k = m + 1 := ⟨k - 1, by omega⟩
    rw [catamaranref01_Total.l0, if_neg (by omega), List.drop_eq_nil_of_le (by omega), if_pos (by simp)]
    simp [sumI]
  | succ d ih =>
    intro k i m hi hk h0 h8
    obtain ⟨k, rfl⟩ : ∃ m, k = m + 1 := ⟨k - 1, by omega⟩
    have hlt : i < s.length := by omega
    rw [catamaranref01_Total.l0, if_pos (by omega), if_pos (by omega), rd_get hlt, List.drop_eq_getElem_cons hlt]
    by_cases h1 : s[i] < 1
    · rw [if_pos h1, if_neg]
      intro h
      have := h s[i] List.mem_cons_self
      omega
    · by_cases h2 : s[i] > 8
      · rw [if_neg h1, if_pos h2, if_neg]
        intro h
        have := h s[i] List.mem_cons_self
        omega
      · rw [if_neg h1, if_neg h2, w64 (by omega) (by omega), w64 (by omega) (by omega), show ((i : Int) + 1) = ((i + 1 : Nat) : Int) by omega, ih k (i + 1) _ (by omega) (by omega) (by omega) (by omega)]
        by_cases h3 : ∀ n ∈ s.drop (i + 1), 1 ≤ n ∧ n ≤ 8
        · rw [if_pos h3, if_pos]
          · simp only [sumI]
            rw [Int.add_assoc]
          · intro n hn
            rcases List.mem_cons.1 hn with rfl | hn
            · omega
            · exact h3 n hn
        · rw [if_neg h3, if_neg]
          intro h
          exact h3 fun n hn => h n (List.mem_cons_of_mem _ hn)
theorem rtotal_ok (s : List Int) {k : Nat} (hk : 17 < k) : catamaranref01_Total.f k s = some (if okS s then sumI s else -1) := by
  unfold catamaranref01_Total.f
  by_cases h : (s.length : Int) > 16
  · rw [if_pos h, if_neg]
    intro h2
    have := h2.1
    omega
  · rw [if_neg h]
    have h1 := rtotal_l s (by omega) s.length k 0 0 (by omega) (by omega) (by omega) (by omega)
    rw [List.drop_zero] at h1
    have h2 : catamaranref01_Total.l0 k s 0 0 = _ := h1
    rw [h2, Int.zero_add]
    by_cases h3 : ∀ n ∈ s, 1 ≤ n ∧ n ≤ 8
    · rw [if_pos h3, if_pos ⟨by omega, h3⟩]
    · rw [if_neg h3, if_neg fun h4 => h3 h4.2]
theorem rsize_ok (s : List Int) {k : Nat} (hk : 17 < k) : catamaranref01_Size.f k s = some (sizeI s) := by
  unfold catamaranref01_Size.f sizeI
  rw [rtotal_ok s hk, Option.bind_some]
  by_cases h : okS s
  · have := sumI_bd h.2
    rw [if_pos h, if_neg (by omega), Option.bind_some, if_pos h]
  · rw [if_neg h, if_pos (by decide), if_neg h]
theorem rdigits_l (x n : Nat) (hx : x < 18446744073709551616) (hn : n ≤ 8) (d : Nat) : ∀ (k i : Nat), i + d = n → d < k → catamaranref01_Digits.l0 k ((x / 256 ^ i : Nat) : Int) (n : Int) (dgs i x) (i : Int) = some (dgs n x, decide (x / 256 ^ n = 0)) := by
  induction d with
  | zero =>
    intro k i hi hk
    obtain ⟨k, rfl⟩ : ∃ m, k = m + 1 := ⟨k - 1, by omega⟩
    obtain rfl : i = n := by omega
    rw [catamaranref01_Digits.l0, if_neg (by omega)]
    congr 2
    rw [Bool.eq_iff_iff, beq_iff_eq, decide_eq_true_eq]
    omega
  | succ d ih =>
    intro k i hi hk
    obtain ⟨k, rfl⟩ : ∃ m, k = m + 1 := ⟨k - 1, by omega⟩
    have hle : x / 256 ^ i ≤ x := Nat.div_le_self _ _
    have h := ih k (i + 1) (by omega) (by omega)
    rw [dgs_succ, Nat.pow_succ, ← Nat.div_div_eq_div_mul] at h
    have hi1 : wrap64 ((i : Int) + 1) = ((i + 1 : Nat) : Int) := by rw [w64 (by omega) (by omega)]; omega
    have hlim : ([((x / 256 ^ i : Nat) : Int).tmod 256 % 256] : List Int).length + (dgs i x).length < 140737488355328 := by rw [dgs_length, List.length_singleton]; omega
    rw [catamaranref01_Digits.l0, if_pos (by omega), Option.bind_some, if_pos hlim, hi1]
    revert h hle
    generalize x / 256 ^ i = y
    intro hle h
    rw [Int.tmod_eq_emod_of_nonneg (by omega), Int.tdiv_eq_ediv_of_nonneg (by omega), u64_id (by omega) (by omega)]
    rw [show (y : Int) % 256 % 256 = ((y % 256 : Nat) : Int) by omega, show (y : Int) / 256 = ((y / 256 : Nat) : Int) by omega]
    exact h
theorem rdigits_ok {x n : Int} (h0 : 0 ≤ x) (h1 : x < 18446744073709551616) (hn0 : 0 ≤ n) (hn : n ≤ 8) {k : Nat} (hk : 8 < k) : catamaranref01_Digits.f k x n = some (dgs n.toNat x.toNat, decide (x.toNat / 256 ^ n.toNat = 0)) := by
  have h := rdigits_l x.toNat n.toNat (by omega) (by omega) n.toNat k 0 (by omega) (by omega)
  rw [Nat.pow_zero, Nat.div_one, Int.toNat_of_nonneg h0, Int.toNat_of_nonneg hn0] at h
  exact h
theorem rrow_l (l s : List Int) (hl : l.length = s.length) (hU : U64 l) (hs : okS s) (d : Nat) : ∀ (k i : Nat), i + d = l.length → d + 9 < k → catamaranref01_Row.l0 k l s (rowI (l.take i) (s.take i)) (i : Int) = some (rowI l s) := by
  induction d with
  | zero =>
    intro k i hi hk
    obtain ⟨k, rfl⟩ : ∃ m, k = m + 1 := ⟨k - 1, by omega⟩
    rw [catamaranref01_Row.l0, if_neg (by omega), List.take_of_length_le (by omega), List.take_of_length_le (by omega)]
  | succ d ih =>
    intro k i hi hk
    obtain ⟨k, rfl⟩ : ∃ m, k = m + 1 := ⟨k - 1, by omega⟩
    have h1 : i < l.length := by omega
    have h2 : i < s.length := by omega
    have hx := hU _ (List.getElem_mem h1)
    have hn := hs.2 _ (List.getElem_mem h2)
    have h16 := hs.1
    have hlen := rowI_length (l := l.take i) (s := s.take i) (by rw [List.length_take, List.length_take, hl]) fun n hn => hs.2 n (List.mem_of_mem_take hn)
    have hle := sumI_take_le hs.2 i
    have hbd := sumI_bd hs.2
    rw [catamaranref01_Row.l0, if_pos (by omega), if_pos (by omega), if_pos (by omega), rd_get h1, rd_get h2, rdigits_ok hx.1 hx.2 (by omega) (by omega) (by omega), Option.bind_some]
    dsimp only
    rw [if_pos (by rw [dgs_length]; omega), w64 (by omega) (by omega), show ((i : Int) + 1) = ((i + 1 : Nat) : Int) by omega]
    have h := ih k (i + 1) (by omega) (by omega)
    rw [take_succ_get l i h1, take_succ_get s i h2, rowI_append (by rw [List.length_take, List.length_take, hl])] at h
    have e : rowI [l[i]] [s[i]] = dgs s[i].toNat l[i].toNat := by simp [rowI]
    rw [e] at h
    exact h
theorem rwrite_l (l s : List Int) (hl : l.length = s.length) (hU : U64 l) (hs : okS s) (d : Nat) : ∀ (k i : Nat), i + d = l.length → d + 30 < k → fitI (l.take i) (s.take i) = true → catamaranref01_Write.l0 k l s (i : Int) = some (if fitI l s = true then (rowI l s, 0) else ([], 4)) := by
  induction d with
  | zero =>
    intro k i hi hk hf
    obtain ⟨k, rfl⟩ : ∃ m, k = m + 1 := ⟨k - 1, by omega⟩
    have h16 := hs.1
    rw [List.take_of_length_le (by omega), List.take_of_length_le (by omega)] at hf
    rw [catamaranref01_Write.l0, if_neg (by omega), if_pos hf]
    unfold catamaranref01_Row.f
    have h := rrow_l l s hl hU hs l.length k 0 (by omega) (by omega)
    have h2 : catamaranref01_Row.l0 k l s [] 0 = _ := h
    rw [h2, Option.bind_some]
  | succ d ih =>
    intro k i hi hk hf
    obtain ⟨k, rfl⟩ : ∃ m, k = m + 1 := ⟨k - 1, by omega⟩
    have h1 : i < l.length := by omega
    have h2 : i < s.length := by omega
    have hx := hU _ (List.getElem_mem h1)
    have hn := hs.2 _ (List.getElem_mem h2)
    have h16 := hs.1
    have hfit : fitI (l.take (i + 1)) (s.take (i + 1)) = decide (l[i].toNat / 256 ^ s[i].toNat = 0) := by
      rw [take_succ_get l i h1, take_succ_get s i h2, fitI_append (by rw [List.length_take, List.length_take, hl]), hf]
      simp [fitI]
    rw [catamaranref01_Write.l0, if_pos (by omega), if_pos (by omega), if_pos (by omega), rd_get h1, rd_get h2, rdigits_ok hx.1 hx.2 (by omega) (by omega) (by omega), Option.bind_some]
    dsimp only
    by_cases h3 : l[i].toNat / 256 ^ s[i].toNat = 0
    · rw [if_pos (decide_eq_true h3), w64 (by omega) (by omega), show ((i : Int) + 1) = ((i + 1 : Nat) : Int) by omega]
      exact ih k (i + 1) (by omega) (by omega) (by rw [hfit, decide_eq_true h3])
    · rw [if_neg (by rw [decide_eq_false h3]; decide), if_neg]
      have h4 : fitI (l.take (i + 1) ++ l.drop (i + 1)) (s.take (i + 1) ++ s.drop (i + 1)) = _ := fitI_append (by rw [List.length_take, List.length_take, hl])
      rw [List.take_append_drop, List.take_append_drop, hfit, decide_eq_false h3, Bool.false_and] at h4
      rw [h4]
      decide
theorem rwrite_ok {l s : List Int} (hU : U64 l) (hlen : l.length ≤ 1000) {k : Nat} (hk : 2000 < k) : catamaranref01_Write.f k l s = some (writeI l s) := by
  obtain ⟨k, rfl⟩ : ∃ m, k = m + 1 := ⟨k - 1, by omega⟩
  unfold catamaranref01_Write.f writeI
  rw [rtotal_ok s (by omega), Option.bind_some]
  have ht : catamaranref01_Write.j0 (k + 1) l s true = some ([], 2) := by rw [catamaranref01_Write.j0, if_pos rfl]
  by_cases h : okS s
  · have := sumI_bd h.2
    rw [if_pos h, if_neg (by omega)]
    by_cases h2 : l.length = s.length
    · rw [show ((l.length : Int) != (s.length : Int)) = false by simp; omega, if_pos ⟨h, h2⟩, catamaranref01_Write.j0, if_neg (by decide)]
      exact rwrite_l l s h2 hU h l.length k 0 (by omega) (by omega) (by simp [fitI])
    · rw [show ((l.length : Int) != (s.length : Int)) = true by simp; omega, if_neg fun h3 => h2 h3.2]
      exact ht
  · rw [if_neg h, if_pos (by decide), if_neg fun h3 => h h3.1]
    exact ht
theorem rnumber_l (y : List Int) (hy : By y) (hl : y.length ≤ 8) (d : Nat) : ∀ (k i : Nat), i + d = y.length → d < k → catamaranref01_Number.l0 k y (numI (y.take i)) (i : Int) = some (numI y) := by
  induction d with
  | zero =>
    intro k i hi hk
    obtain ⟨k, rfl⟩ : ∃ m, k = m + 1 := ⟨k - 1, by omega⟩
    rw [catamaranref01_Number.l0, if_neg (by omega), List.take_of_length_le (by omega)]
  | succ d ih =>
    intro k i hi hk
    obtain ⟨k, rfl⟩ : ∃ m, k = m + 1 := ⟨k - 1, by omega⟩
    have h1 : i < y.length := by omega
    have hc := hy _ (List.getElem_mem h1)
    have hb := numI_lt8 (y := y.take i ++ [y[i]]) ((hy.take i).append (By.cons hc.1 hc.2 By.nil)) (by rw [List.length_append, List.length_take, List.length_singleton]; omega)
    have hv := numI_bd (hy.take i)
    rw [numI_snoc] at hb
    have h := ih k (i + 1) (by omega) (by omega)
    rw [take_succ_get y i h1, numI_snoc] at h
    rw [catamaranref01_Number.l0, if_pos (by omega), if_pos (by omega), rd_get h1, u64_id (x := 256 * numI (y.take i)) (by omega) (by omega), u64_id (x := y[i]) (by omega) (by omega), u64_id (by omega) (by omega), w64 (by omega) (by omega), show ((i : Int) + 1) = ((i + 1 : Nat) : Int) by omega]
    exact h
theorem rnumber_ok {y : List Int} (hy : By y) (hl : y.length ≤ 8) {k : Nat} (hk : 8 < k) : catamaranref01_Number.f k y = some (numI y) := by
  have h := rnumber_l y hy hl y.length k 0 (by omega) (by omega)
  exact h
theorem numsI_append {b : List Int} (s t : List Int) (hs : ∀ n ∈ s, 1 ≤ n ∧ n ≤ 8) : numsI b (s ++ t) = numsI b s ++ numsI (b.drop (sumI s).toNat) t := by
  induction s generalizing b with
  | nil => simp [numsI, sumI]
  | cons n s ih =>
    have h1 := hs n (by simp)
    have h2 := sumI_bd (s := s) fun m hm => hs m (by simp [hm])
    simp only [List.cons_append, numsI, sumI]
    rw [ih fun m hm => hs m (by simp [hm]), List.drop_drop, show n.toNat + (sumI s).toNat = (n + sumI s).toNat by omega]
theorem rread_l (b s : List Int) (hb : By b) (hs : okS s) (hl : (b.length : Int) = sumI s) (d : Nat) : ∀ (k i : Nat), i + d = s.length → d + 9 < k → catamaranref01_Read.l0 k b s (numsI b (s.take i)) (sumI (s.take i)) (i : Int) = some (numsI b s, 0) := by
  induction d with
  | zero =>
    intro k i hi hk
    obtain ⟨k, rfl⟩ : ∃ m, k = m + 1 := ⟨k - 1, by omega⟩
    rw [catamaranref01_Read.l0, if_neg (by omega), List.take_of_length_le (by omega)]
  | succ d ih =>
    intro k i hi hk
    obtain ⟨k, rfl⟩ : ∃ m, k = m + 1 := ⟨k - 1, by omega⟩
    have h1 : i < s.length := by omega
    have hn := hs.2 _ (List.getElem_mem h1)
    have h16 := hs.1
    have hle := sumI_take_le hs.2 (i + 1)
    have hle0 := sumI_take_le hs.2 i
    have hbd := sumI_bd hs.2
    have hst := sumI_take h1
    rw [hst] at hle
    have hlenN : (numsI b (s.take i)).length ≤ 16 := by
      have : ∀ (s b : List Int), (numsI b s).length = s.length := by
        intro s
        induction s with
        | nil => intro b; cases b <;> rfl
        | cons n s ih => intro b; simp [numsI, ih]
      rw [this, List.length_take]; omega
    have h := ih k (i + 1) (by omega) (by omega)
    rw [hst] at h
    have hnum : numsI b (s.take (i + 1)) = numsI b (s.take i) ++ [numI ((b.drop (sumI (s.take i)).toNat).take s[i].toNat)] := by
      rw [take_succ_get s i h1, numsI_append _ _ fun n hn => hs.2 n (List.mem_of_mem_take hn)]
      simp [numsI]
    rw [hnum] at h
    rw [catamaranref01_Read.l0, if_pos (by omega), if_pos (by omega), rd_get h1, w64 (by omega) (by omega), if_pos (by omega), if_pos (by omega), if_pos (by omega)]
    have hcut : (b.take (sumI (s.take i) + s[i]).toNat).drop (sumI (s.take i)).toNat = (b.drop (sumI (s.take i)).toNat).take s[i].toNat := by
      rw [List.drop_take]
      congr 1
      omega
    rw [hcut, rnumber_ok ((hb.drop _).take _) (by rw [List.length_take]; omega) (by omega), Option.bind_some, if_pos (by omega), w64 (by omega) (by omega), show ((i : Int) + 1) = ((i + 1 : Nat) : Int) by omega]
    exact h
theorem rread_ok {b s : List Int} (hb : By b) {k : Nat} (hk : 100 < k) : catamaranref01_Read.f k b s = some (readI b s) := by
  unfold catamaranref01_Read.f readI
  rw [rtotal_ok s (by omega), Option.bind_some]
  by_cases h : okS s
  · have := sumI_bd h.2
    have h16 := h.1
    rw [if_pos h, if_neg (by omega), Option.bind_some, if_pos h]
    by_cases hl : (b.length : Int) = sumI s
    · rw [if_pos hl, if_pos hl]
      have h2 := rread_l b s hb h hl s.length k 0 (by omega) (by omega)
      have e : numsI b (s.take 0) = [] := by cases b <;> rfl
      rw [e] at h2
      exact h2
    · rw [if_neg hl, if_neg hl]
  · rw [if_neg h, if_pos (by decide), if_neg h]
theorem samei_l (a b : List Int) (hl : a.length = b.length) (hn : a.length ≤ 1000000) (d : Nat) : ∀ (k i : Nat), i + d = a.length → d < k → catamaranref01_SameInts.l0 k a b (i : Int) = some (decide (a.drop i = b.drop i)) := by
  induction d with
  | zero =>
    intro k i hi hk
    obtain ⟨k, rfl⟩ : ∃ m, k = m + 1 := ⟨k - 1, by omega⟩
    rw [catamaranref01_SameInts.l0, if_neg (by omega), List.drop_eq_nil_of_le (by omega), List.drop_eq_nil_of_le (by omega)]
    rfl
  | succ d ih =>
    intro k i hi hk
    obtain ⟨k, rfl⟩ : ∃ m, k = m + 1 := ⟨k - 1, by omega⟩
    have h1 : i < a.length := by omega
    have h2 : i < b.length := by omega
    rw [catamaranref01_SameInts.l0, if_pos (by omega), if_pos (by omega), if_pos (by omega), rd_get h1, rd_get h2, w64 (by omega) (by omega), show ((i : Int) + 1) = ((i + 1 : Nat) : Int) by omega, ih k (i + 1) (by omega) (by omega), List.drop_eq_getElem_cons h1, List.drop_eq_getElem_cons h2]
    by_cases h3 : a[i] = b[i]
    · rw [if_pos h3]
      congr 1
      exact decide_eq_decide.2 ⟨fun h => by rw [h3, h], fun h => (List.cons.inj h).2⟩
    · rw [if_neg h3]
      congr 1
      exact (decide_eq_false fun h => h3 (List.cons.inj h).1).symm
theorem samei_refl {a : List Int} (hn : a.length ≤ 1000000) {k : Nat} (hk : a.length < k) : catamaranref01_SameInts.f k a a = some true := by
  unfold catamaranref01_SameInts.f
  rw [if_pos rfl]
  have h := samei_l a a rfl hn a.length k 0 (by omega) hk
  rw [decide_eq_true rfl] at h
  exact h
theorem write_ok {l s : List Int} (hU : U64 l) : num_Write.f l s = some (writeI l s) := by
  unfold num_Write.f
  rw [if_pos hU]
end Go.Proofs.Ytlgnnppmjcdncaa.PNum
