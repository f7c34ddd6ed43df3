/- What printed functions tell, out of our libraries: the blocks that this group needs. -/
import Derived.Test.YtanpdbdpphdblaaCrcMath
import Derived.Test.YtanpdbdpphdblaaPureKit
import Derived.Test.YtanpdbdpphdblaaNumMath
import Derived.Test.YtanpdbdpphdblaaPRqx
namespace Go.Proofs.Ytanpdbdpphdblaa.PRq
open Go.RowKit Go.Proofs.YtanpdbdpphdblaaW.PrintWords Go.Proofs.YtanpdbdpphdblaaW.PrintLast Go.Proofs.Ytanpdbdpphdblaa.CrcMath Go.Proofs.Ytanpdbdpphdblaa.Kit
open Go.RowKit Go.Proofs.YtanpdbdpphdblaaW.PrintWords Go.Proofs.YtanpdbdpphdblaaW.PrintLast Go.Proofs.Ytanpdbdpphdblaa.NumMath Go.Proofs.Ytanpdbdpphdblaa.Kit
theorem take_l (j : Nat) : ∀ (k x : Nat) (i : Int), x < 4294967296 → 0 ≤ i → 8 - i = j → j < k → crc_sum_take.l0 k x i = some ((Mp j x : Nat) : Int) := by
  induction j with
  | zero =>
    intro k x i hx h0 hi hk
    obtain ⟨k, rfl⟩ : ∃ m, k = m + 1 := ⟨k - 1, by omega⟩
    simp only [crc_sum_take.l0]
    rw [if_neg (by omega)]
    rfl
  | succ j ih =>
    intro k x i hx h0 hi hk
    obtain ⟨k, rfl⟩ : ∃ m, k = m + 1 := ⟨k - 1, by omega⟩
    simp only [crc_sum_take.l0]
    rw [if_pos (by omega), and1_u32 hx, w64 (by omega) (by omega)]
    rw [show ((x : Int) / 2) = ((x / 2 : Nat) : Int) from by omega, show (3988292384 : Int) = ((3988292384 : Nat) : Int) from rfl, xor_u32 (by omega) (by decide)]
    have hM := M_lt hx
    by_cases h : x % 2 = 0
    · rw [if_pos (by omega)]
      have e : M x = x / 2 := by unfold M; rw [if_pos h, Nat.xor_zero]
      simp only [Mp]; rw [e]
      exact ih k _ _ (by omega) (by omega) (by omega) (by omega)
    · rw [if_neg (by omega)]
      have e : M x = x / 2 ^^^ 3988292384 := by unfold M; rw [if_neg h]
      simp only [Mp]; rw [← e]
      exact ih k _ _ hM (by omega) (by omega) (by omega)
theorem take_ok {k s : Nat} {c : Int} (hs : s < 4294967296) (h0 : 0 ≤ c) (h1 : c < 256) (hk : 8 < k) : crc_sum_take.f k s c = some ((tk s c.toNat : Nat) : Int) := by
  unfold crc_sum_take.f tk
  rw [show c % 4294967296 = ((c.toNat : Nat) : Int) by omega, xor_u32 hs (by omega)]
  exact take_l 8 k _ 0 (Nat.xor_lt_two_pow (n := 32) hs (by omega)) (by omega) (by omega) hk
theorem more_l (l : List Int) (hl : By l) (hn : l.length ≤ 1000000) (d : Nat) : ∀ (k s i : Nat), s < 4294967296 → i + d = l.length → d + 9 < k → crc_More.l0 k s l (l.length : Int) (i : Int) = some ((fo s (Nb (l.drop i)) ^^^ full : Nat) : Int) := by
  induction d with
  | zero =>
    intro k s i hs hi hk
    obtain ⟨k, rfl⟩ : ∃ m, k = m + 1 := ⟨k - 1, by omega⟩
    simp only [crc_More.l0]
    rw [if_neg (by omega), List.drop_eq_nil_of_le (by omega), show (4294967295 : Int) = ((full : Nat) : Int) from rfl, xor_u32 (by decide) hs, Nat.xor_comm]
    rfl
  | succ d ih =>
    intro k s i hs hi hk
    obtain ⟨k, rfl⟩ : ∃ m, k = m + 1 := ⟨k - 1, by omega⟩
    have hlt : i < l.length := by omega
    have hb := hl _ (List.getElem_mem hlt)
    simp only [crc_More.l0]
    rw [if_pos (by omega), if_pos (by omega), if_pos (by omega), rd_get hlt, take_ok hs hb.1 hb.2 (by omega)]
    simp only [Option.bind_some]
    rw [w64 (by omega) (by omega), show ((i : Int) + 1) = ((i + 1 : Nat) : Int) by omega, ih k _ _ (tk_lt hs (by omega)) (by omega) (by omega), List.drop_eq_getElem_cons hlt]
    rfl
theorem more_ok {l : List Int} (hl : By l) (hn : l.length ≤ 1000000) {k s : Nat} (hs : s < 4294967296) (hk : l.length + 9 < k) : crc_More.f k s l = some ((fo (s ^^^ full) (Nb l) ^^^ full : Nat) : Int) := by
  unfold crc_More.f
  rw [show (4294967295 : Int) = ((full : Nat) : Int) from rfl, xor_u32 (by decide) hs, Nat.xor_comm]
  exact more_l l hl hn l.length k _ 0 (Nat.xor_lt_two_pow (n := 32) hs (by decide)) (by omega) hk
theorem sum_ok {l : List Int} (hl : By l) (hn : l.length ≤ 1000000) {k : Nat} (hk : l.length + 9 < k) : crc_Sum.f k l = some ((sumN (Nb l) : Nat) : Int) := by
  unfold crc_Sum.f
  have h := more_ok hl hn (s := 0) (by decide) hk
  rw [Nat.zero_xor] at h
  rw [show (0 : Int) = ((0 : Nat) : Int) from rfl, h]
  rfl
def sealI (l : List Int) : List Int := l ++ Ib (le4 (sumN (Nb l)))
theorem le4_lt (s : Nat) : ∀ x ∈ le4 s, x < 256 := by
  intro x hx
  simp only [le4, List.mem_cons, List.not_mem_nil, or_false] at hx
  omega
theorem By_seal {l : List Int} (hl : By l) : By (sealI l) := hl.append (By_Ib (le4_lt _))
theorem seal_length (l : List Int) : (sealI l).length = l.length + 4 := by simp [sealI, Ib, le4]
theorem Nb_seal (l : List Int) : Nb (sealI l) = sealN (Nb l) := by unfold sealI sealN; rw [Nb_append, Nb_Ib]
theorem Ib_le4 (s : Nat) : Ib (le4 s) = [(s : Int) % 256, (s : Int) / 256 % 256, (s : Int) / 65536 % 256, (s : Int) / 16777216 % 256] := by
  simp [Ib, le4]
theorem seal_ok {l : List Int} (hl : By l) (hn : l.length ≤ 4096) {k : Nat} (hk : l.length + 9 < k) : crc_Seal.f k l = some (sealI l, 0) := by
  have hs := sumN_lt (Nb_lt hl)
  unfold crc_Seal.f
  rw [if_neg (by omega), sum_ok hl (by omega) hk, Option.bind_some]
  have h1 : (0 : Int) ≤ (l.length : Int) + 4 := by omega
  have h2 : ((l.length : Int) + 4).toNat ≤ 281474976710656 := by omega
  have h3 : ([] : List Int).length + l.length < 140737488355328 := by rw [List.length_nil]; omega
  have h4 : ([] ++ l : List Int).length + [(sumN (Nb l) : Int) % 256, (sumN (Nb l) : Int) / 256 % 256, (sumN (Nb l) : Int) / 65536 % 256, (sumN (Nb l) : Int) / 16777216 % 256].length < 140737488355328 := by
    rw [List.nil_append, List.length_cons, List.length_cons, List.length_cons, List.length_cons, List.length_nil]; omega
  rw [w64 (by omega) (by omega), if_pos h1, if_pos h2, List.replicate_zero, Option.bind_some, if_pos h3, Option.bind_some, Option.bind_some, if_pos h4, List.nil_append]
  unfold sealI
  rw [Ib_le4]
theorem seal_no {l : List Int} (hn : 4096 < l.length) (k : Nat) : crc_Seal.f k l = some ([], 4) := by
  unfold crc_Seal.f
  rw [if_pos (by omega)]
/-- What opening tells. -/
def openI (l : List Int) : List Int × Int :=
  if l.length < 4 then ([], 10) else if 4096 < l.length - 4 then ([], 4) else if sealI (l.take (l.length - 4)) = l then (l.take (l.length - 4), 0) else ([], 20)
theorem open_ok {l : List Int} (hl : By l) (hn : l.length ≤ 1000000) {k : Nat} (hk : l.length + 9 < k) : crc_Open.f k l = some (openI l) := by
  unfold crc_Open.f openI
  rw [w64 (by omega) (by omega)]
  by_cases h1 : l.length < 4
  · rw [if_pos (by omega), if_pos h1]
  · by_cases h2 : 4096 < l.length - 4
    · rw [if_neg (by omega), if_pos (by omega), if_neg h1, if_pos h2]
    · have ht : ((l.length : Int) - 4).toNat = l.length - 4 := by omega
      have hlt : (l.take (l.length - 4)).length = l.length - 4 := by rw [List.length_take]; omega
      rw [if_neg (by omega), if_neg (by omega), if_pos (by omega), if_pos (by omega), if_neg h1, if_neg h2, ht, seal_ok (hl.take _) (by omega) (by omega)]
      simp only [Option.bind_some]
      by_cases h3 : sealI (l.take (l.length - 4)) = l
      · rw [if_pos ((str_inj (By_seal (hl.take _)) hl).2 h3), if_pos h3, if_pos (by simp; omega)]
        rfl
      · rw [if_neg (fun h => h3 ((str_inj (By_seal (hl.take _)) hl).1 h)), if_neg h3]
theorem open_By {l : List Int} (hl : By l) : By (openI l).1 := by
  unfold openI
  split
  · exact By.nil
  · split
    · exact By.nil
    · split
      · exact hl.take _
      · exact By.nil
/-- What was sealed is opened. -/
theorem open_seal {l : List Int} (hn : l.length ≤ 4096) : openI (sealI l) = (l, 0) := by
  have hs := seal_length l
  have ht : (sealI l).take ((sealI l).length - 4) = l := by rw [hs, Nat.add_sub_cancel]; unfold sealI; exact List.take_left
  unfold openI
  rw [if_neg (by omega), if_neg (by omega), ht, if_pos rfl]
/-- Opened just if the register says so. -/
theorem open_iff {l : List Int} (hl : By l) (h4 : 4 ≤ l.length) (hn : l.length ≤ 4100) : (openI l).2 = (if fo full (Nb l) = Mp 32 full then 0 else 20) := by
  unfold openI
  rw [if_neg (by omega), if_neg (by omega)]
  have hsp : l = l.take (l.length - 4) ++ l.drop (l.length - 4) := (List.take_append_drop _ _).symm
  have hd : (l.drop (l.length - 4)).length = 4 := by rw [List.length_drop]; omega
  have hb := hl.drop (l.length - 4)
  obtain ⟨a, b, c, d, he⟩ : ∃ a b c d, l.drop (l.length - 4) = [a, b, c, d] := by
    rcases hq : l.drop (l.length - 4) with _ | ⟨a, _ | ⟨b, _ | ⟨c, _ | ⟨d, _ | ⟨e, r⟩⟩⟩⟩⟩ <;> rw [hq] at hd <;> simp at hd
    exact ⟨a, b, c, d, rfl⟩
  rw [he] at hb
  have ha' := hb a (by simp)
  have hb' := hb b (by simp)
  have hc' := hb c (by simp)
  have hd' := hb d (by simp)
  have h4' := le4_of4 (a := a.toNat) (b := b.toNat) (c := c.toNat) (d := d.toNat) (by omega) (by omega) (by omega) (by omega)
  have hN : Nb l = Nb (l.take (l.length - 4)) ++ le4 (a.toNat + 256 * b.toNat + 65536 * c.toNat + 16777216 * d.toNat) := by
    rw [h4']
    conv => lhs; rw [hsp, Nb_append, he]
    rfl
  have key := sealed_iff (l := Nb (l.take (l.length - 4))) (t := a.toNat + 256 * b.toNat + 65536 * c.toNat + 16777216 * d.toNat) (Nb_lt (hl.take _)) (by omega)
  rw [← hN] at key
  have hq : sealI (l.take (l.length - 4)) = l ↔ fo full (Nb l) = Mp 32 full := by
    rw [← key]
    constructor
    · intro h
      have h2 := congrArg Nb h
      rw [Nb_seal] at h2
      exact h2.symm
    · intro h
      refine Nb_inj (By_seal (hl.take _)) hl ?_
      rw [Nb_seal]
      exact h.symm
  by_cases h : sealI (l.take (l.length - 4)) = l
  · rw [if_pos h, if_pos (hq.1 h)]
  · rw [if_neg h, if_neg (fun h2 => h (hq.2 h2))]
theorem open_more {l : List Int} : (openI l).2 = 0 → sealI (openI l).1 = l ∧ (openI l).1.length ≤ 4096 := by
  unfold openI
  split
  · intro h; cases h
  · split
    · intro h; cases h
    · split
      · rename_i h3
        intro _
        exact ⟨h3, by rw [List.length_take]; omega⟩
      · intro h; cases h
theorem open_none {l : List Int} : (openI l).2 ≠ 0 → (openI l).1 = [] := by
  unfold openI
  split
  · intro _; rfl
  · split
    · intro _; rfl
    · split
      · intro h; exact absurd rfl h
      · intro _; rfl
/-- The number of bytes. -/
def numI (y : List Int) : Int := y.foldl (fun a c => 256 * a + c) 0
def numsI : List Int → List Int → List Int
  | b, n :: s => numI (b.take n.toNat) :: numsI (b.drop n.toNat) s
  | _, [] => []
def readI (b s : List Int) : List Int × Int := if okS s then (if (b.length : Int) = sumI s then (numsI b s, 0) else ([], 10)) else ([], 2)
theorem numI_snoc (y : List Int) (c : Int) : numI (y ++ [c]) = 256 * numI y + c := by simp [numI, List.foldl_append]
theorem numI_bd {y : List Int} (h : By y) : 0 ≤ numI y ∧ numI y < ((256 ^ y.length : Nat) : Int) := by
  revert h
  refine snoc_ind (p := fun y => By y → 0 ≤ numI y ∧ numI y < ((256 ^ y.length : Nat) : Int)) ?_ ?_ y
  · intro _; simp [numI]
  · intro y c ih h
    have h1 := ih h.left
    have h2 := h c (by simp)
    rw [numI_snoc, List.length_append, List.length_singleton, Nat.pow_succ]
    rw [Int.natCast_mul]
    omega
theorem numI_lt8 {y : List Int} (h : By y) (hl : y.length ≤ 8) : 0 ≤ numI y ∧ numI y < 18446744073709551616 := by
  have h1 := numI_bd h
  have h2 : 256 ^ y.length ≤ 256 ^ 8 := Nat.pow_le_pow_right (by decide) hl
  have h3 : (256 : Nat) ^ 8 = 18446744073709551616 := by decide
  rw [h3] at h2
  omega
theorem u64_id {x : Int} (h0 : 0 ≤ x) (h1 : x < 18446744073709551616) : IntKind.u64.wrap x = x := by
  simp [IntKind.wrap, IntKind.bits, IntKind.signed]; omega
theorem or_byte {v c : Int} (hv : 0 ≤ v) (hv2 : v * 256 + c < 18446744073709551616) (hc : 0 ≤ c) (hc2 : c < 256) : Go.bits .or .u64 (IntKind.u64.wrap (v * 256)) (IntKind.u64.wrap c) = 256 * v + c := by
  rw [u64_id (by omega) (by omega), u64_id hc (by omega)]
  obtain ⟨a, rfl⟩ : ∃ a : Nat, v = a := ⟨v.toNat, by omega⟩
  obtain ⟨b, rfl⟩ : ∃ b : Nat, c = b := ⟨c.toNat, by omega⟩
  have h1 := (bits_nat2 .u64 (a * 256) b (by show a * 256 < 2 ^ 64; omega) (by show b < 2 ^ 64; omega)).2.2
  rw [Int.natCast_mul] at h1
  have h2 : a * 256 ||| b = 256 * a + b := by
    have := Nat.two_pow_add_eq_or_of_lt (b := b) (i := 8) (by omega) a
    rw [Nat.mul_comm a 256]
    exact this.symm
  rw [h2] at h1
  refine h1.trans ((wrap_u rfl (by show 256 * a + b < 2 ^ 64; omega)).trans ?_)
  rw [Int.natCast_add, Int.natCast_mul]
  rfl
theorem read_l1 (x0 s y : List Int) (sl n i : Int) (iN : Nat) (hi : i = iN) (hy : By y) (hy8 : y.length ≤ 8) (hn0 : 0 ≤ n) (hn1 : n ≤ x0.length) (hsl : iN < 100) (d : Nat) : ∀ (k j : Nat) (out : List Int), j + d = y.length → iN < out.length → out[iN]? = some (numI (y.take j)) → num_Read.l1 (k + d + 1) x0 out i n s sl i y (y.length : Int) (j : Int) = num_Read.l0 k (x0.drop n.toNat) (out.set iN (numI y)) s sl ((iN + 1 : Nat) : Int) := by
  induction d with
  | zero =>
    intro k j out hj hlt hget
    obtain rfl : j = y.length := by omega
    rw [num_Read.l1, if_neg (by omega), if_pos hn0, if_pos hn1]
    rw [List.take_length] at hget
    rw [set_get hget, w64 (by omega) (by omega), hi, show ((iN : Int) + 1) = ((iN + 1 : Nat) : Int) by omega]
  | succ d ih =>
    intro k j out hj hlt hget
    have hjl : j < y.length := by omega
    have hc := hy _ (List.getElem_mem hjl)
    have hb := numI_lt8 (y := y.take j ++ [y[j]]) ((hy.take j).append (By.cons hc.1 hc.2 By.nil)) (by rw [List.length_append, List.length_take, List.length_singleton]; omega)
    have hv := numI_bd (hy.take j)
    rw [numI_snoc] at hb
    have hrd : rd out (iN : Int) = numI (y.take j) := by
      unfold rd
      rw [Int.toNat_natCast, List.getD_eq_getElem?_getD, hget]; rfl
    rw [show k + (d + 1) + 1 = (k + d + 1) + 1 by omega, num_Read.l1, if_pos (by omega), if_pos (by omega), if_pos (by omega), if_pos (by omega), if_pos (by omega), rd_get hjl, hi, hrd, or_byte hv.1 (by omega) hc.1 hc.2, w64 (by omega) (by omega), show ((j : Int) + 1) = ((j + 1 : Nat) : Int) by omega, Int.toNat_natCast]
    rw [hi] at ih
    rw [ih k (j + 1) (out.set iN (256 * numI (y.take j) + y[j])) (by omega) (by rw [List.length_set]; exact hlt) (by rw [List.getElem?_set_self hlt, take_succ_get y j hjl, numI_snoc])]
    rw [List.set_set]
theorem read_l0 (s : List Int) (hs : okS s) (d : Nat) : ∀ (k i : Nat) (b done : List Int), i + d = s.length → d * 20 < k → By b → done.length = i → (b.length : Int) = sumI (s.drop i) → num_Read.l0 k b (done ++ List.replicate d 0) s (s.length : Int) (i : Int) = some (done ++ numsI b (s.drop i), 0) := by
  induction d with
  | zero =>
    intro k i b done hi hk hb hd hl
    obtain ⟨k, rfl⟩ : ∃ m, k = m + 1 := ⟨k - 1, by omega⟩
    rw [num_Read.l0, if_neg (by omega), List.drop_eq_nil_of_le (by omega)]
    cases b <;> rfl
  | succ d ih =>
    intro k i b done hi hk hb hd hl
    have hlt : i < s.length := by omega
    have hn := hs.2 _ (List.getElem_mem hlt)
    have h16 := hs.1
    rw [List.drop_eq_getElem_cons hlt] at hl ⊢
    simp only [sumI] at hl
    have hbd := sumI_bd (s := s.drop (i + 1)) fun n hn => hs.2 n (List.mem_of_mem_drop hn)
    have hyl : (b.take s[i].toNat).length = s[i].toNat := by rw [List.length_take]; omega
    obtain ⟨k, rfl⟩ : ∃ m, k = m + s[i].toNat + 1 + 1 := ⟨k - s[i].toNat - 2, by omega⟩
    rw [num_Read.l0, if_pos (by omega), if_pos (by omega), if_pos (by omega), rd_get hlt, if_pos (by omega), if_pos (by omega), Option.bind_some]
    have h1 := read_l1 b s (b.take s[i].toNat) (s.length : Int) s[i] (i : Int) i rfl (hb.take _) (by omega) (by omega) (by omega) (by omega) s[i].toNat k 0 (done ++ List.replicate (d + 1) 0) (by omega) (by rw [List.length_append, List.length_replicate]; omega) (by rw [List.getElem?_append_right (by omega), hd, Nat.sub_self]; rfl)
    have h2 : num_Read.l1 (k + s[i].toNat + 1) b (done ++ List.replicate (d + 1) 0) (i : Int) s[i] s (s.length : Int) (i : Int) (b.take s[i].toNat) ((b.take s[i].toNat).length : Int) 0 = _ := h1
    rw [h2]
    have h3 : (done ++ List.replicate (d + 1) 0).set i (numI (b.take s[i].toNat)) = (done ++ [numI (b.take s[i].toNat)]) ++ List.replicate d 0 := by
      rw [List.set_append_right _ _ (by omega), hd, Nat.sub_self, List.replicate_succ, List.set_cons_zero, List.append_assoc]
      rfl
    rw [h3, ih k (i + 1) (b.drop s[i].toNat) _ (by omega) (by omega) (hb.drop _) (by rw [List.length_append, List.length_singleton]; omega) (by rw [List.length_drop]; omega), List.append_assoc]
    rfl
theorem read_ok {b s : List Int} (hb : By b) {k : Nat} (hk : 400 < k) : num_Read.f k b s = some (readI b s) := by
  unfold num_Read.f readI
  rw [num_Size.told s (by omega), Option.bind_some]
  unfold sizeI
  by_cases hs : okS s
  · have h16 := hs.1
    rw [if_pos hs, if_pos hs, if_pos rfl]
    dsimp only
    by_cases hl : (b.length : Int) = sumI s
    · rw [if_pos hl, if_pos hl, if_pos (by omega), if_pos (by omega)]
      have h1 := read_l0 s hs s.length k 0 b [] (by omega) (by omega) hb rfl (by rw [List.drop_zero]; exact hl)
      rw [List.nil_append, List.nil_append, List.drop_zero] at h1
      rw [Int.toNat_natCast]
      exact h1
    · rw [if_neg hl, if_neg hl]
  · rw [if_neg hs, if_neg hs, if_neg (by decide)]
theorem dgs_get {n x i : Nat} (h : i < n) : (dgs n x)[i]? = some ((x / 256 ^ (n - 1 - i) % 256 : Nat) : Int) := by
  unfold dgs
  rw [List.getElem?_map, List.getElem?_range h]
  rfl
theorem dgs_By (n x : Nat) : By (dgs n x) := by
  intro y hy
  obtain ⟨j, _, rfl⟩ := List.mem_map.1 hy
  omega
theorem rowI_By (l s : List Int) : By (rowI l s) := by
  induction l generalizing s with
  | nil => exact By.nil
  | cons x l ih =>
    cases s with
    | nil => exact By.nil
    | cons n s => exact (dgs_By _ _).append (ih s)
theorem dgs_succ (n x : Nat) : dgs (n + 1) x = ((x / 256 ^ n % 256 : Nat) : Int) :: dgs n x := by
  unfold dgs
  rw [List.range_succ_eq_map, List.map_cons, List.map_map]
  congr 1
  refine List.map_congr_left fun j _ => ?_
  show ((x / 256 ^ (n + 1 - 1 - (j + 1)) % 256 : Nat) : Int) = _
  rw [show n + 1 - 1 - (j + 1) = n - 1 - j by omega]
theorem numI_dgs (n x : Nat) : numI (dgs n x) = ((x % 256 ^ n : Nat) : Int) := by
  induction n with
  | zero => simp [dgs, numI, Nat.mod_one]
  | succ n ih =>
    have key : ∀ (y : List Int) (a : Int), y.foldl (fun a c => 256 * a + c) a = a * ((256 ^ y.length : Nat) : Int) + numI y := by
      intro y
      induction y with
      | nil => intro a; simp [numI]
      | cons c y ih2 =>
        intro a
        have e1 : (c :: y).foldl (fun a c => 256 * a + c) a = y.foldl (fun a c => 256 * a + c) (256 * a + c) := rfl
        have e2 : numI (c :: y) = y.foldl (fun a c => 256 * a + c) (256 * 0 + c) := rfl
        rw [e1, e2, ih2, ih2, List.length_cons, Nat.pow_succ, Int.natCast_mul, Int.mul_zero, Int.zero_add, Int.add_mul, Int.add_assoc]
        congr 1
        rw [Int.mul_comm ((256 ^ y.length : Nat) : Int), ← Int.mul_assoc, Int.mul_comm a]
        rfl
    rw [dgs_succ]
    have e : numI (((x / 256 ^ n % 256 : Nat) : Int) :: dgs n x) = (dgs n x).foldl (fun a c => 256 * a + c) (256 * 0 + ((x / 256 ^ n % 256 : Nat) : Int)) := rfl
    rw [e, key, ih, dgs_length]
    have h1 : x % 256 ^ (n + 1) = x / 256 ^ n % 256 * 256 ^ n + x % 256 ^ n := by
      rw [Nat.pow_succ, Nat.mod_mul, Nat.mul_comm (256 ^ n)]
      omega
    rw [h1, Int.natCast_add, Int.natCast_mul, Int.mul_zero, Int.zero_add]
theorem dgs_numI {y : List Int} (h : By y) : dgs y.length (numI y).toNat = y := by
  have h1 : ∀ a b : List Int, a.length = b.length → By a → By b → numI a = numI b → a = b := by
    intro a
    refine snoc_ind (p := fun a => ∀ b : List Int, a.length = b.length → By a → By b → numI a = numI b → a = b) ?_ ?_ a
    · intro b hl _ _ _; exact (List.eq_nil_of_length_eq_zero hl.symm).symm
    · intro a c ih b hl ha hb hn
      rcases List.eq_nil_or_concat b with rfl | ⟨b, d, rfl⟩
      · simp at hl
      · rw [List.concat_eq_append] at hl hb hn ⊢
        rw [numI_snoc, numI_snoc] at hn
        have h2 := ha c (by simp)
        have h3 := hb d (by simp)
        rw [List.length_append, List.length_append] at hl
        rw [ih b (by simpa using hl) ha.left hb.left (by omega), show c = d by omega]
  have h2 := numI_bd h
  refine h1 _ _ (dgs_length _ _) (dgs_By _ _) h ?_
  rw [numI_dgs, Nat.mod_eq_of_lt (by omega)]
  omega
/-- What is written is read. -/
theorem nums_row {l s : List Int} (hl : l.length = s.length) (hs : ∀ n ∈ s, 1 ≤ n ∧ n ≤ 8) (hU : U64 l) (hf : fitI l s = true) : numsI (rowI l s) s = l := by
  induction l generalizing s with
  | nil =>
    obtain rfl : s = [] := List.eq_nil_of_length_eq_zero hl.symm
    rfl
  | cons x l ih =>
    cases s with
    | nil => simp at hl
    | cons n s =>
      simp only [fitI, Bool.and_eq_true, decide_eq_true_eq] at hf
      have hx := hU x (by simp)
      simp only [rowI, numsI]
      have ht : (dgs n.toNat x.toNat ++ rowI l s).take n.toNat = dgs n.toNat x.toNat := by
        conv => lhs; rw [← dgs_length n.toNat x.toNat]
        rw [show n.toNat = (dgs n.toNat x.toNat).length from (dgs_length _ _).symm]
        rw [dgs_length]
        exact List.take_left' (dgs_length _ _)
      have hd : (dgs n.toNat x.toNat ++ rowI l s).drop n.toNat = rowI l s := List.drop_left' (dgs_length _ _)
      rw [ht, hd, numI_dgs, ih (by simpa using hl) (fun m hm => hs m (by simp [hm])) (fun y hy => hU y (by simp [hy])) hf.2]
      rw [Nat.mod_eq_of_lt]
      · congr 1; omega
      · have h1 : 0 < 256 ^ n.toNat := Nat.pow_pos (by decide)
        exact (Nat.div_eq_zero_iff_lt h1).1 hf.1
/-- What is read, written again, is these bytes. -/
theorem row_nums {b s : List Int} (hb : By b) (hs : ∀ n ∈ s, 1 ≤ n ∧ n ≤ 8) (hl : (b.length : Int) = sumI s) : rowI (numsI b s) s = b ∧ fitI (numsI b s) s = true ∧ U64 (numsI b s) ∧ (numsI b s).length = s.length := by
  induction s generalizing b with
  | nil =>
    obtain rfl : b = [] := List.eq_nil_of_length_eq_zero (by simp [sumI] at hl; exact hl ▸ rfl)
    exact ⟨rfl, rfl, (fun _ h => nomatch h), rfl⟩
  | cons n s ih =>
    have hn := hs n (by simp)
    have hbd := sumI_bd (s := s) fun m hm => hs m (by simp [hm])
    simp only [sumI] at hl
    have hlt : (b.take n.toNat).length = n.toNat := by rw [List.length_take]; omega
    obtain ⟨h1, h2, h3, h4⟩ := ih (b := b.drop n.toNat) (hb.drop _) (fun m hm => hs m (by simp [hm])) (by rw [List.length_drop]; omega)
    have h5 := numI_lt8 (hb.take n.toNat) (by omega)
    have h6 := numI_bd (hb.take n.toNat)
    rw [hlt] at h6
    have h7 := dgs_numI (hb.take n.toNat)
    rw [hlt] at h7
    simp only [numsI, rowI, fitI, Bool.and_eq_true, decide_eq_true_eq, List.length_cons]
    refine ⟨by rw [h7, h1, List.take_append_drop], ⟨Nat.div_eq_of_lt (by omega), h2⟩, fun x hx => ?_, by rw [h4]⟩
    rcases List.mem_cons.1 hx with rfl | hx
    · exact h5
    · exact h3 x hx
theorem numsI_append {b : List Int} (s t : List Int) (hs : ∀ n ∈ s, 1 ≤ n ∧ n ≤ 8) : numsI b (s ++ t) = numsI b s ++ numsI (b.drop (sumI s).toNat) t := by
  induction s generalizing b with
  | nil => simp [numsI, sumI]
  | cons n s ih =>
    have h1 := hs n (by simp)
    have h2 := sumI_bd (s := s) fun m hm => hs m (by simp [hm])
    simp only [List.cons_append, numsI, sumI]
    rw [ih fun m hm => hs m (by simp [hm]), List.drop_drop, show n.toNat + (sumI s).toNat = (n + sumI s).toNat by omega]
theorem write_ok {l s : List Int} (hU : U64 l) : num_Write.f l s = some (writeI l s) := by
  unfold num_Write.f
  rw [if_pos hU]
end Go.Proofs.Ytanpdbdpphdblaa.PRq
