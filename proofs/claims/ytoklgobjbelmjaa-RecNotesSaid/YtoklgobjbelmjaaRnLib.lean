/- What printed functions tell, out of our libraries: the blocks that this group needs. -/
import Derived.Test.YtoklgobjbelmjaaNumMath
import Derived.Test.YtoklgobjbelmjaaPureKit
import Derived.Test.YtoklgobjbelmjaaPRnx
namespace Go.Proofs.Ytoklgobjbelmjaa.PRn
open Go.RowKit Go.Proofs.YtoklgobjbelmjaaW.PrintWords Go.Proofs.YtoklgobjbelmjaaW.PrintLast Go.Proofs.Ytoklgobjbelmjaa.NumMath Go.Proofs.Ytoklgobjbelmjaa.Kit
open Go.RowKit Go.Proofs.Ytoklgobjbelmjaa.PRn Go.Proofs.YtoklgobjbelmjaaW.PrintWords Go.Proofs.YtoklgobjbelmjaaW.PrintLast Go.Proofs.Ytoklgobjbelmjaa.Kit
/-- The number of bytes. -/
def numI (y : List Int) : Int := y.foldl (fun a c => 256 * a + c) 0
def numsI : List Int → List Int → List Int
  | b, n :: s => numI (b.take n.toNat) :: numsI (b.drop n.toNat) s
  | _, [] => []
def readI (b s : List Int) : List Int × Int := if okS s then (if (b.length : Int) = sumI s then (numsI b s, 0) else ([], 10)) else ([], 2)
theorem numI_snoc (y : List Int) (c : Int) : numI (y ++ [c]) = 256 * numI y + c := by simp [numI, List.foldl_append]
theorem numI_bd {y : List Int} (h : By y) : 0 ≤ numI y ∧ numI y < ((256 ^ y.length : Nat) : Int) := by
  revert h
  refine snoc_ind (p := fun y => By y → 0 ≤ numI y ∧ numI y < ((256 ^ y.length : Nat) : Int)) ?_ ?_ y
  · intro _; simp [numI]
  · intro y c ih h
    have h1 := ih h.left
    have h2 := h c (by simp)
    rw [numI_snoc, List.length_append, List.length_singleton, Nat.pow_succ]
    rw [Int.natCast_mul]
    omega
theorem numI_lt8 {y : List Int} (h : By y) (hl : y.length ≤ 8) : 0 ≤ numI y ∧ numI y < 18446744073709551616 := by
  have h1 := numI_bd h
  have h2 : 256 ^ y.length ≤ 256 ^ 8 := Nat.pow_le_pow_right (by decide) hl
  have h3 : (256 : Nat) ^ 8 = 18446744073709551616 := by decide
  rw [h3] at h2
  omega
theorem u64_id {x : Int} (h0 : 0 ≤ x) (h1 : x < 18446744073709551616) : IntKind.u64.wrap x = x := by
  simp [IntKind.wrap, IntKind.bits, IntKind.signed]; omega
theorem or_byte {v c : Int} (hv : 0 ≤ v) (hv2 : v * 256 + c < 18446744073709551616) (hc : 0 ≤ c) (hc2 : c < 256) : Go.bits .or .u64 (IntKind.u64.wrap (v * 256)) (IntKind.u64.wrap c) = 256 * v + c := by
  rw [u64_id (by omega) (by omega), u64_id hc (by omega)]
  obtain ⟨a, rfl⟩ : ∃ a : Nat, v = a := ⟨v.toNat, by omega⟩
  obtain ⟨b, rfl⟩ : ∃ b : Nat, c = b := ⟨c.toNat, by omega⟩
  have h1 := (bits_nat2 .u64 (a * 256) b (by show a * 256 < 2 ^ 64; omega) (by show b < 2 ^ 64; omega)).2.2
  rw [Int.natCast_mul] at h1
  have h2 : a * 256 ||| b = 256 * a + b := by
    have := Nat.two_pow_add_eq_or_of_lt (b := b) (i := 8) (by omega) a
    rw [Nat.mul_comm a 256]
    exact this.symm
  rw [h2] at h1
  refine h1.trans ((wrap_u rfl (by show 256 * a + b < 2 ^ 64; omega)).trans ?_)
  rw [Int.natCast_add, Int.natCast_mul]
  rfl
theorem dgs_get {n x i : Nat} (h : i < n) : (dgs n x)[i]? = some ((x / 256 ^ (n - 1 - i) % 256 : Nat) : Int) := by
  unfold dgs
  rw [List.getElem?_map, List.getElem?_range h]
  rfl
theorem dgs_By (n x : Nat) : By (dgs n x) := by
  intro y hy
  obtain ⟨j, _, rfl⟩ := List.mem_map.1 hy
  omega
theorem rowI_By (l s : List Int) : By (rowI l s) := by
  induction l generalizing s with
  | nil => exact By.nil
  | cons x l ih =>
    cases s with
    | nil => exact By.nil
    | cons n s => exact (dgs_By _ _).append (ih s)
theorem dgs_succ (n x : Nat) : dgs (n + 1) x = ((x / 256 ^ n % 256 : Nat) : Int) :: dgs n x := by
  unfold dgs
  rw [List.range_succ_eq_map, List.map_cons, List.map_map]
  congr 1
  refine List.map_congr_left fun j _ => ?_
  show ((x / 256 ^ (n + 1 - 1 - (j + 1)) % 256 : Nat) : Int) = _
  rw [show n + 1 - 1 - (j + 1) = n - 1 - j by omega]
theorem numI_dgs (n x : Nat) : numI (dgs n x) = ((x % 256 ^ n : Nat) : Int) := by
  induction n with
  | zero => simp [dgs, numI, Nat.mod_one]
  | succ n ih =>
    have key : ∀ (y : List Int) (a : Int), y.foldl (fun a c => 256 * a + c) a = a * ((256 ^ y.length : Nat) : Int) + numI y := by
      intro y
      induction y with
      | nil => intro a; simp [numI]
      | cons c y ih2 =>
        intro a
        have e1 : (c :: y).foldl (fun a c => 256 * a + c) a = y.foldl (fun a c => 256 * a + c) (256 * a + c) := rfl
        have e2 : numI (c :: y) = y.foldl (fun a c => 256 * a + c) (256 * 0 + c) := rfl
        rw [e1, e2, ih2, ih2, List.length_cons, Nat.pow_succ, Int.natCast_mul, Int.mul_zero, Int.zero_add, Int.add_mul, Int.add_assoc]
        congr 1
        rw [Int.mul_comm ((256 ^ y.length : Nat) : Int), ← Int.mul_assoc, Int.mul_comm a]
        rfl
    rw [dgs_succ]
    have e : numI (((x / 256 ^ n % 256 : Nat) : Int) :: dgs n x) = (dgs n x).foldl (fun a c => 256 * a + c) (256 * 0 + ((x / 256 ^ n % 256 : Nat) : Int)) := rfl
    rw [e, key, ih, dgs_length]
    have h1 : x % 256 ^ (n + 1) = x / 256 ^ n % 256 * 256 ^ n + x % 256 ^ n := by
      rw [Nat.pow_succ, Nat.mod_mul, Nat.mul_comm (256 ^ n)]
      omega
    rw [h1, Int.natCast_add, Int.natCast_mul, Int.mul_zero, Int.zero_add]
theorem dgs_numI {y : List Int} (h : By y) : dgs y.length (numI y).toNat = y := by
  have h1 : ∀ a b : List Int, a.length = b.length → By a → By b → numI a = numI b → a = b := by
    intro a
    refine snoc_ind (p := fun a => ∀ b : List Int, a.length = b.length → By a → By b → numI a = numI b → a = b) ?_ ?_ a
    · intro b hl _ _ _; exact (List.eq_nil_of_length_eq_zero hl.symm).symm
    · intro a c ih b hl ha hb hn
      rcases List.eq_nil_or_concat b with rfl | ⟨b, d, rfl⟩
      · simp at hl
      · rw [List.concat_eq_append] at hl hb hn ⊢
        rw [numI_snoc, numI_snoc] at hn
        have h2 := ha c (by simp)
        have h3 := hb d (by simp)
        rw [List.length_append, List.length_append] at hl
        rw [ih b (by simpa using hl) ha.left hb.left (by omega), show c = d by omega]
  have h2 := numI_bd h
  refine h1 _ _ (dgs_length _ _) (dgs_By _ _) h ?_
  rw [numI_dgs, Nat.mod_eq_of_lt (by omega)]
  omega
/-- What is written is read. -/
theorem nums_row {l s : List Int} (hl : l.length = s.length) (hs : ∀ n ∈ s, 1 ≤ n ∧ n ≤ 8) (hU : U64 l) (hf : fitI l s = true) : numsI (rowI l s) s = l := by
  induction l generalizing s with
  | nil =>
    obtain rfl : s = [] := List.eq_nil_of_length_eq_zero hl.symm
    rfl
  | cons x l ih =>
    cases s with
    | nil => simp at hl
    | cons n s =>
      simp only [fitI, Bool.and_eq_true, decide_eq_true_eq] at hf
      have hx := hU x (by simp)
      simp only [rowI, numsI]
      have ht : (dgs n.toNat x.toNat ++ rowI l s).take n.toNat = dgs n.toNat x.toNat := by
        conv => lhs; rw [← dgs_length n.toNat x.toNat]
        rw [show n.toNat = (dgs n.toNat x.toNat).length from (dgs_length _ _).symm]
        rw [dgs_length]
        exact List.take_left' (dgs_length _ _)
      have hd : (dgs n.toNat x.toNat ++ rowI l s).drop n.toNat = rowI l s := List.drop_left' (dgs_length _ _)
      rw [ht, hd, numI_dgs, ih (by simpa using hl) (fun m hm => hs m (by simp [hm])) (fun y hy => hU y (by simp [hy])) hf.2]
      rw [Nat.mod_eq_of_lt]
      · congr 1; omega
      · have h1 : 0 < 256 ^ n.toNat := Nat.pow_pos (by decide)
        exact (Nat.div_eq_zero_iff_lt h1).1 hf.1
/-- What is read, written again, is these bytes. -/
theorem row_nums {b s : List Int} (hb : By b) (hs : ∀ n ∈ s, 1 ≤ n ∧ n ≤ 8) (hl : (b.length : Int) = sumI s) : rowI (numsI b s) s = b ∧ fitI (numsI b s) s = true ∧ U64 (numsI b s) ∧ (numsI b s).length = s.length := by
  induction s generalizing b with
  | nil =>
    obtain rfl : b = [] := List.eq_nil_of_length_eq_zero (by simp [sumI] at hl; exact hl ▸ rfl)
    exact ⟨rfl, rfl, (fun _ h => nomatch h), rfl⟩
  | cons n s ih =>
    have hn := hs n (by simp)
    have hbd := sumI_bd (s := s) fun m hm => hs m (by simp [hm])
    simp only [sumI] at hl
    have hlt : (b.take n.toNat).length = n.toNat := by rw [List.length_take]; omega
    obtain ⟨h1, h2, h3, h4⟩ := ih (b := b.drop n.toNat) (hb.drop _) (fun m hm => hs m (by simp [hm])) (by rw [List.length_drop]; omega)
    have h5 := numI_lt8 (hb.take n.toNat) (by omega)
    have h6 := numI_bd (hb.take n.toNat)
    rw [hlt] at h6
    have h7 := dgs_numI (hb.take n.toNat)
    rw [hlt] at h7
    simp only [numsI, rowI, fitI, Bool.and_eq_true, decide_eq_true_eq, List.length_cons]
    refine ⟨by rw [h7, h1, List.take_append_drop], ⟨Nat.div_eq_of_lt (by omega), h2⟩, fun x hx => ?_, by rw [h4]⟩
    rcases List.mem_cons.1 hx with rfl | hx
    · exact h5
    · exact h3 x hx
theorem rdigits_l (x n : Nat) (hx : x < 18446744073709551616) (hn : n ≤ 8) (d : Nat) : ∀ (k i : Nat), i + d = n → d < k → catamaranref01_Digits.l0 k ((x / 256 ^ i : Nat) : Int) (n : Int) (dgs i x) (i : Int) = some (dgs n x, decide (x / 256 ^ n = 0)) := by
  induction d with
  | zero =>
    intro k i hi hk
    obtain ⟨k, rfl⟩ : ∃ m, k = m + 1 := ⟨k - 1, by omega⟩
    obtain rfl : i = n := by omega
    rw [catamaranref01_Digits.l0, if_neg (by omega)]
    congr 2
    rw [Bool.eq_iff_iff, beq_iff_eq, decide_eq_true_eq]
    omega
  | succ d ih =>
    intro k i hi hk
    obtain ⟨k, rfl⟩ : ∃ m, k = m + 1 := ⟨k - 1, by omega⟩
    have hle : x / 256 ^ i ≤ x := Nat.div_le_self _ _
    have h := ih k (i + 1) (by omega) (by omega)
    rw [dgs_succ, Nat.pow_succ, ← Nat.div_div_eq_div_mul] at h
    have hi1 : wrap64 ((i : Int) + 1) = ((i + 1 : Nat) : Int) := by rw [w64 (by omega) (by omega)]; omega
    have hlim : ([((x / 256 ^ i : Nat) : Int).tmod 256 % 256] : List Int).length + (dgs i x).length < 140737488355328 := by rw [dgs_length, List.length_singleton]; omega
    rw [catamaranref01_Digits.l0, if_pos (by omega), Option.bind_some, if_pos hlim, hi1]
    revert h hle
    generalize x / 256 ^ i = y
    intro hle h
    rw [Int.tmod_eq_emod_of_nonneg (by omega), Int.tdiv_eq_ediv_of_nonneg (by omega), u64_id (by omega) (by omega)]
    rw [show (y : Int) % 256 % 256 = ((y % 256 : Nat) : Int) by omega, show (y : Int) / 256 = ((y / 256 : Nat) : Int) by omega]
    exact h
theorem rdigits_ok {x n : Int} (h0 : 0 ≤ x) (h1 : x < 18446744073709551616) (hn0 : 0 ≤ n) (hn : n ≤ 8) {k : Nat} (hk : 8 < k) : catamaranref01_Digits.f k x n = some (dgs n.toNat x.toNat, decide (x.toNat / 256 ^ n.toNat = 0)) := by
  have h := rdigits_l x.toNat n.toNat (by omega) (by omega) n.toNat k 0 (by omega) (by omega)
  rw [Nat.pow_zero, Nat.div_one, Int.toNat_of_nonneg h0, Int.toNat_of_nonneg hn0] at h
  exact h
theorem rrow_l (l s : List Int) (hl : l.length = s.length) (hU : U64 l) (hs : okS s) (d : Nat) : ∀ (k i : Nat), i + d = l.length → d + 9 < k → catamaranref01_Row.l0 k l s (rowI (l.take i) (s.take i)) (i : Int) = some (rowI l s) := by
  induction d with
  | zero =>
    intro k i hi hk
    obtain ⟨k, rfl⟩ : ∃ m, k = m + 1 := ⟨k - 1, by omega⟩
    rw [catamaranref01_Row.l0, if_neg (by omega), List.take_of_length_le (by omega), List.take_of_length_le (by omega)]
  | succ d ih =>
    intro k i hi hk
    obtain ⟨k, rfl⟩ : ∃ m, k = m + 1 := ⟨k - 1, by omega⟩
    have h1 : i < l.length := by omega
    have h2 : i < s.length := by omega
    have hx := hU _ (List.getElem_mem h1)
    have hn := hs.2 _ (List.getElem_mem h2)
    have h16 := hs.1
    have hlen := rowI_length (l := l.take i) (s := s.take i) (by rw [List.length_take, List.length_take, hl]) fun n hn => hs.2 n (List.mem_of_mem_take hn)
    have hle := sumI_take_le hs.2 i
    have hbd := sumI_bd hs.2
    rw [catamaranref01_Row.l0, if_pos (by omega), if_pos (by omega), if_pos (by omega), rd_get h1, rd_get h2, rdigits_ok hx.1 hx.2 (by omega) (by omega) (by omega), Option.bind_some]
    dsimp only
    rw [if_pos (by rw [dgs_length]; omega), w64 (by omega) (by omega), show ((i : Int) + 1) = ((i + 1 : Nat) : Int) by omega]
    have h := ih k (i + 1) (by omega) (by omega)
    rw [take_succ_get l i h1, take_succ_get s i h2, rowI_append (by rw [List.length_take, List.length_take, hl])] at h
    have e : rowI [l[i]] [s[i]] = dgs s[i].toNat l[i].toNat := by simp [rowI]
    rw [e] at h
    exact h
theorem numsI_append {b : List Int} (s t : List Int) (hs : ∀ n ∈ s, 1 ≤ n ∧ n ≤ 8) : numsI b (s ++ t) = numsI b s ++ numsI (b.drop (sumI s).toNat) t := by
  induction s generalizing b with
  | nil => simp [numsI, sumI]
  | cons n s ih =>
    have h1 := hs n (by simp)
    have h2 := sumI_bd (s := s) fun m hm => hs m (by simp [hm])
    simp only [List.cons_append, numsI, sumI]
    rw [ih fun m hm => hs m (by simp [hm]), List.drop_drop, show n.toNat + (sumI s).toNat = (n + sumI s).toNat by omega]
theorem write_ok {l s : List Int} (hU : U64 l) : num_Write.f l s = some (writeI l s) := by
  unfold num_Write.f
  rw [if_pos hU]
theorem site_ok (k : Nat) (x y : Int) : rec_site.f (k + 3) [x, y] = some (decide ((x = 0 ∨ x = 1) ∧ (y = 0 ∨ y = 1))) := by
  simp only [rec_site.f, slices_ContainsFunc_int_int_s0.f, slices_IndexFunc_int_int_s1.f]
  rw [slices_IndexFunc_int_int_s1.l0]
  simp only [List.length_cons, List.length_nil, rec_site_1.f]
  have e0 : rd [x, y] 0 = x := rfl
  have e1 : rd [x, y] 1 = y := rfl
  have w1 : wrap64 (0 + 1) = 1 := w64 (by omega) (by omega)
  have w2 : wrap64 (1 + 1) = 2 := w64 (by omega) (by omega)
  rw [e0, w1]
  by_cases h0 : x = 0
  · subst h0
    rw [slices_IndexFunc_int_int_s1.l0]; simp only [List.length_cons, List.length_nil, rec_site_1.f]
    rw [e1, w2, slices_IndexFunc_int_int_s1.l0]
    by_cases h1 : y = 0
    · subst h1; simp
    · by_cases h2 : y = 1
      · subst h2; simp
      · simp [h1, h2]
  · by_cases h3 : x = 1
    · subst h3
      rw [slices_IndexFunc_int_int_s1.l0]; simp only [List.length_cons, List.length_nil, rec_site_1.f]
      rw [e1, w2, slices_IndexFunc_int_int_s1.l0]
      by_cases h1 : y = 0
      · subst h1; simp
      · by_cases h2 : y = 1
        · subst h2; simp
        · simp [h1, h2]
    · simp [h0, h3]
/-- May a record be? -/
def V (p b e l ph f : Int) (q : Bool) : Bool :=
  decide (0 ≤ p) && decide (p < 3) && decide (0 < b) && decide (0 < e) && (l == 0 || l == 1) && (f == 0 || f == 1) && (ph == 1 || (ph == 2 || ph == 3) && f == l) && (!q || f != l)
theorem check_ok (k : Nat) (p b e l ph f : Int) (q a : Bool) : rec_Check.f (k + 3) p b e l ph f q a = some (if V p b e l ph f q = true then 0 else 110) := by
  have J (x : Bool) : rec_Check.j0 (k + 3) x p b e l ph f q a = some (if x = true ∧ (ph = 1 ∨ (ph = 2 ∨ ph = 3) ∧ f = l) ∧ (q = false ∨ f ≠ l) then 0 else 110) := by
    rw [rec_Check.j0]
    simp only [rec_Check.j1]
    by_cases h1 : ph = 2
    · subst h1; cases x <;> cases q <;> by_cases hf : f = l <;> simp [hf]
    · by_cases h3 : ph = 3
      · subst h3; cases x <;> cases q <;> by_cases hf : f = l <;> simp [hf]
      · by_cases h0 : ph = 1
        · subst h0; cases x <;> cases q <;> by_cases hf : f = l <;> simp [hf]
        · simp [h0, h1, h3]
  rw [rec_Check.f]
  rw [site_ok, Option.bind_some]
  simp only [J]
  by_cases h1 : p ≥ 0
  · by_cases h2 : p < 3
    · by_cases h3 : b > 0
      · by_cases h4 : e > 0
        · simp only [if_pos h1, if_pos h2, if_pos h3, if_pos h4]
          congr 1
          simp [V, h1, h2, h3, h4, and_assoc]
        · simp [V, h1, h2, h3, h4]
      · simp [V, h1, h2, h3]
    · simp [V, h1, h2]
  · simp [V, h1]
/-- May an operation be one that turns a record? -/
def O (op : Int) : Bool := decide (2 ≤ op) && decide (op ≤ 8)
def S (s : Int) : Bool := s == 0 || s == 1
theorem V_tells {p b e l ph f : Int} {q : Bool} (h : V p b e l ph f q = true) : 0 ≤ p ∧ p < 3 ∧ 0 < b ∧ 0 < e ∧ (l = 0 ∨ l = 1) ∧ (f = 0 ∨ f = 1) ∧ (ph = 1 ∨ (ph = 2 ∨ ph = 3) ∧ f = l) ∧ (q = false ∨ f ≠ l) := by
  simp [V, and_assoc] at h
  simpa using h
theorem O_tells {op : Int} (h : O op = true) : op = 2 ∨ op = 3 ∨ op = 4 ∨ op = 5 ∨ op = 6 ∨ op = 7 ∨ op = 8 := by
  simp [O] at h
  omega
theorem S_tells {s : Int} (h : S s = true) : s = 0 ∨ s = 1 := by simpa [S] using h
end Go.Proofs.Ytoklgobjbelmjaa.PRn
