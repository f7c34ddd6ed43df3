/- What crc's printed functions and the reference's tell, by the register's mathematics. -/
import Derived.Test.YtlgnnppmjcdncaaCrcMath
import Derived.Test.YtlgnnppmjcdncaaPureKit
import Derived.Test.YtlgnnppmjcdncaaPCrcx
namespace Go.Proofs.Ytlgnnppmjcdncaa.PCrc
open Go.RowKit Go.Proofs.YtlgnnppmjcdncaaW.PrintWords Go.Proofs.YtlgnnppmjcdncaaW.PrintLast Go.Proofs.Ytlgnnppmjcdncaa.CrcMath Go.Proofs.Ytlgnnppmjcdncaa.Kit
theorem take_l (j : Nat) : ∀ (k x : Nat) (i : Int), x < 4294967296 → 0 ≤ i → 8 - i = j → j < k → crc_sum_take.l0 k x i = some ((Mp j x : Nat) : Int) := by
  induction j with
  | zero =>
    intro k x i hx h0 hi hk
    obtain ⟨k, rfl⟩ : ∃ m, k = m + 1 := ⟨k - 1, by omega⟩
    simp only [crc_sum_take.l0]
    rw [if_neg (by omega)]
    rfl
  | succ j ih =>
    intro k x i hx h0 hi hk
    obtain ⟨k, rfl⟩ : ∃ m, k = m + 1 := ⟨k - 1, by omega⟩
    simp only [crc_sum_take.l0]
    rw [if_pos (by omega), and1_u32 hx, w64 (by omega) (by omega)]
    rw [show ((x : Int) / 2) = ((x / 2 : Nat) : Int) from by omega, show (3988292384 : Int) = ((3988292384 : Nat) : Int) from rfl, xor_u32 (by omega) (by decide)]
    have hM := M_lt hx
    by_cases h : x % 2 = 0
    · rw [if_pos (by omega)]
      have e : M x = x / 2 := by unfold M; rw [if_pos h, Nat.xor_zero]
      simp only [Mp]; rw [e]
      exact ih k _ _ (by omega) (by omega) (by omega) (by omega)
    · rw [if_neg (by omega)]
      have e : M x = x / 2 ^^^ 3988292384 := by unfold M; rw [if_neg h]
      simp only [Mp]; rw [← e]
      exact ih k _ _ hM (by omega) (by omega) (by omega)
theorem take_ok {k s : Nat} {c : Int} (hs : s < 4294967296) (h0 : 0 ≤ c) (h1 : c < 256) (hk : 8 < k) : crc_sum_take.f k s c = some ((tk s c.toNat : Nat) : Int) := by
  unfold crc_sum_take.f tk
  rw [show c % 4294967296 = ((c.toNat : Nat) : Int) by omega, xor_u32 hs (by omega)]
  exact take_l 8 k _ 0 (Nat.xor_lt_two_pow (n := 32) hs (by omega)) (by omega) (by omega) hk
theorem rtake_l (j : Nat) : ∀ (k x : Nat) (i : Int), x < 4294967296 → 0 ≤ i → 8 - i = j → j < k → catamaranref02_Taken.l0 k x i = some ((Mp j x : Nat) : Int) := by
  induction j with
  | zero =>
    intro k x i hx h0 hi hk
    obtain ⟨k, rfl⟩ : ∃ m, k = m + 1 := ⟨k - 1, by omega⟩
    simp only [catamaranref02_Taken.l0]
    rw [if_neg (by omega)]
    rfl
  | succ j ih =>
    intro k x i hx h0 hi hk
    obtain ⟨k, rfl⟩ : ∃ m, k = m + 1 := ⟨k - 1, by omega⟩
    simp only [catamaranref02_Taken.l0]
    rw [if_pos (by omega), w64 (by omega) (by omega)]
    rw [show (Int.tdiv (x : Int) 2) % 4294967296 = ((x / 2 : Nat) : Int) by rw [Int.tdiv_eq_ediv_of_nonneg (by omega)]; omega, show Int.tmod (x : Int) 2 = ((x % 2 : Nat) : Int) by rw [Int.tmod_eq_emod_of_nonneg (by omega)]; omega, show (3988292384 : Int) = ((3988292384 : Nat) : Int) from rfl, xor_u32 (by omega) (by decide)]
    have hM := M_lt hx
    by_cases h : x % 2 = 0
    · rw [if_neg (by omega)]
      have e : M x = x / 2 := by unfold M; rw [if_pos h, Nat.xor_zero]
      simp only [Mp]; rw [e]
      exact ih k _ _ (by omega) (by omega) (by omega) (by omega)
    · rw [if_pos (by omega)]
      have e : M x = x / 2 ^^^ 3988292384 := by unfold M; rw [if_neg h]
      simp only [Mp]; rw [← e]
      exact ih k _ _ hM (by omega) (by omega) (by omega)
theorem rtake_ok {k s : Nat} {c : Int} (hs : s < 4294967296) (h0 : 0 ≤ c) (h1 : c < 256) (hk : 8 < k) : catamaranref02_Taken.f k s c = some ((tk s c.toNat : Nat) : Int) := by
  unfold catamaranref02_Taken.f tk
  rw [show c % 4294967296 = ((c.toNat : Nat) : Int) by omega, xor_u32 hs (by omega)]
  exact rtake_l 8 k _ 0 (Nat.xor_lt_two_pow (n := 32) hs (by omega)) (by omega) (by omega) hk
theorem more_l (l : List Int) (hl : By l) (hn : l.length ≤ 1000000) (d : Nat) : ∀ (k s i : Nat), s < 4294967296 → i + d = l.length → d + 9 < k → crc_More.l0 k s l (l.length : Int) (i : Int) = some ((fo s (Nb (l.drop i)) ^^^ full : Nat) : Int) := by
  induction d with
  | zero =>
    intro k s i hs hi hk
    obtain ⟨k, rfl⟩ : ∃ m, k = m + 1 := ⟨k - 1, by omega⟩
    simp only [crc_More.l0]
    rw [if_neg (by omega), List.drop_eq_nil_of_le (by omega), show (4294967295 : Int) = ((full : Nat) : Int) from rfl, xor_u32 (by decide) hs, Nat.xor_comm]
    rfl
  | succ d ih =>
    intro k s i hs hi hk
    obtain ⟨k, rfl⟩ : ∃ m, k = m + 1 := ⟨k - 1, by omega⟩
    have hlt : i < l.length := by omega
    have hb := hl _ (List.getElem_mem hlt)
    simp only [crc_More.l0]
    rw [if_pos (by omega), if_pos (by omega), if_pos (by omega), rd_get hlt, take_ok hs hb.1 hb.2 (by omega)]
    simp only [Option.bind_some]
    rw [w64 (by omega) (by omega), show ((i : Int) + 1) = ((i + 1 : Nat) : Int) by omega, ih k _ _ (tk_lt hs (by omega)) (by omega) (by omega), List.drop_eq_getElem_cons hlt]
    rfl
theorem more_ok {l : List Int} (hl : By l) (hn : l.length ≤ 1000000) {k s : Nat} (hs : s < 4294967296) (hk : l.length + 9 < k) : crc_More.f k s l = some ((fo (s ^^^ full) (Nb l) ^^^ full : Nat) : Int) := by
  unfold crc_More.f
  rw [show (4294967295 : Int) = ((full : Nat) : Int) from rfl, xor_u32 (by decide) hs, Nat.xor_comm]
  exact more_l l hl hn l.length k _ 0 (Nat.xor_lt_two_pow (n := 32) hs (by decide)) (by omega) hk
theorem sum_ok {l : List Int} (hl : By l) (hn : l.length ≤ 1000000) {k : Nat} (hk : l.length + 9 < k) : crc_Sum.f k l = some ((sumN (Nb l) : Nat) : Int) := by
  unfold crc_Sum.f
  have h := more_ok hl hn (s := 0) (by decide) hk
  rw [Nat.zero_xor] at h
  rw [show (0 : Int) = ((0 : Nat) : Int) from rfl, h]
  rfl
theorem rmore_l (l : List Int) (hl : By l) (hn : l.length ≤ 1000000) (d : Nat) : ∀ (k s i : Nat), s < 4294967296 → i + d = l.length → d + 9 < k → catamaranref02_Behind.l0 k s l (i : Int) = some ((fo s (Nb (l.drop i)) : Nat) : Int) := by
  induction d with
  | zero =>
    intro k s i hs hi hk
    obtain ⟨k, rfl⟩ : ∃ m, k = m + 1 := ⟨k - 1, by omega⟩
    simp only [catamaranref02_Behind.l0]
    rw [if_neg (by omega), List.drop_eq_nil_of_le (by omega)]
    rfl
  | succ d ih =>
    intro k s i hs hi hk
    obtain ⟨k, rfl⟩ : ∃ m, k = m + 1 := ⟨k - 1, by omega⟩
    have hlt : i < l.length := by omega
    have hb := hl _ (List.getElem_mem hlt)
    simp only [catamaranref02_Behind.l0]
    rw [if_pos (by omega), if_pos (by omega), rd_get hlt, rtake_ok hs hb.1 hb.2 (by omega)]
    simp only [Option.bind_some]
    rw [w64 (by omega) (by omega), show ((i : Int) + 1) = ((i + 1 : Nat) : Int) by omega, ih k _ _ (tk_lt hs (by omega)) (by omega) (by omega), List.drop_eq_getElem_cons hlt]
    rfl
theorem rbehind_ok {l : List Int} (hl : By l) (hn : l.length ≤ 1000000) {k s : Nat} (hs : s < 4294967296) (hk : l.length + 9 < k) : catamaranref02_Behind.f k s l = some ((fo s (Nb l) : Nat) : Int) :=
  rmore_l l hl hn l.length k s 0 hs (by omega) hk
theorem rmore_ok {l : List Int} (hl : By l) (hn : l.length ≤ 1000000) {k s : Nat} (hs : s < 4294967296) (hk : l.length + 9 < k) : catamaranref02_More.f k s l = some ((fo (s ^^^ full) (Nb l) ^^^ full : Nat) : Int) := by
  have hx := Nat.xor_lt_two_pow (n := 32) hs (show full < 2 ^ 32 by decide)
  unfold catamaranref02_More.f
  rw [show (4294967295 : Int) = ((full : Nat) : Int) from rfl, xor_u32 hs (by decide), rbehind_ok hl hn hx hk]
  simp only [Option.bind_some]
  rw [xor_u32 (fo_lt hx (Nb_lt hl)) (by decide)]
theorem rsum_ok {l : List Int} (hl : By l) (hn : l.length ≤ 1000000) {k : Nat} (hk : l.length + 9 < k) : catamaranref02_Sum.f k l = some ((sumN (Nb l) : Nat) : Int) := by
  unfold catamaranref02_Sum.f
  rw [show (4294967295 : Int) = ((full : Nat) : Int) from rfl, rbehind_ok hl hn (by decide) hk]
  simp only [Option.bind_some]
  rw [xor_u32 (fo_lt (by decide) (Nb_lt hl)) (by decide)]
  rfl
def sealI (l : List Int) : List Int := l ++ Ib (le4 (sumN (Nb l)))
theorem le4_lt (s : Nat) : ∀ x ∈ le4 s, x < 256 := by
  intro x hx
  simp only [le4, List.mem_cons, List.not_mem_nil, or_false] at hx
  omega
theorem By_seal {l : List Int} (hl : By l) : By (sealI l) := hl.append (By_Ib (le4_lt _))
theorem seal_length (l : List Int) : (sealI l).length = l.length + 4 := by simp [sealI, Ib, le4]
theorem Nb_seal (l : List Int) : Nb (sealI l) = sealN (Nb l) := by unfold sealI sealN; rw [Nb_append, Nb_Ib]
theorem Ib_le4 (s : Nat) : Ib (le4 s) = [(s : Int) % 256, (s : Int) / 256 % 256, (s : Int) / 65536 % 256, (s : Int) / 16777216 % 256] := by
  simp [Ib, le4]
theorem seal_ok {l : List Int} (hl : By l) (hn : l.length ≤ 4096) {k : Nat} (hk : l.length + 9 < k) : crc_Seal.f k l = some (sealI l, 0) := by
  have hs := sumN_lt (Nb_lt hl)
  unfold crc_Seal.f
  rw [if_neg (by omega), sum_ok hl (by omega) hk, Option.bind_some]
  have h1 : (0 : Int) ≤ (l.length : Int) + 4 := by omega
  have h2 : ((l.length : Int) + 4).toNat ≤ 281474976710656 := by omega
  have h3 : ([] : List Int).length + l.length < 140737488355328 := by rw [List.length_nil]; omega
  have h4 : ([] ++ l : List Int).length + [(sumN (Nb l) : Int) % 256, (sumN (Nb l) : Int) / 256 % 256, (sumN (Nb l) : Int) / 65536 % 256, (sumN (Nb l) : Int) / 16777216 % 256].length < 140737488355328 := by
    rw [List.nil_append, List.length_cons, List.length_cons, List.length_cons, List.length_cons, List.length_nil]; omega
  rw [w64 (by omega) (by omega), if_pos h1, if_pos h2, List.replicate_zero, Option.bind_some, if_pos h3, Option.bind_some, Option.bind_some, if_pos h4, List.nil_append]
  unfold sealI
  rw [Ib_le4]
theorem seal_no {l : List Int} (hn : 4096 < l.length) (k : Nat) : crc_Seal.f k l = some ([], 4) := by
  unfold crc_Seal.f
  rw [if_pos (by omega)]
theorem rsealed_ok {l : List Int} (hl : By l) (hn : l.length ≤ 1000000) {k : Nat} (hk : l.length + 9 < k) : catamaranref02_Sealed.f k l = some (sealI l) := by
  have hs := sumN_lt (Nb_lt hl)
  unfold catamaranref02_Sealed.f
  rw [rsum_ok hl hn hk]
  simp only [Option.bind_some]
  rw [if_pos (by simp only [List.length_nil]; omega), if_pos (by simp only [List.length_append, List.length_nil, List.length_cons]; omega)]
  rw [Int.tdiv_eq_ediv_of_nonneg (by omega), Int.tdiv_eq_ediv_of_nonneg (by omega), Int.tdiv_eq_ediv_of_nonneg (by omega)]
  rw [show ((sumN (Nb l) : Int) / 256) % 4294967296 = (sumN (Nb l) : Int) / 256 by omega, show ((sumN (Nb l) : Int) / 65536) % 4294967296 = (sumN (Nb l) : Int) / 65536 by omega, show ((sumN (Nb l) : Int) / 16777216) % 4294967296 = (sumN (Nb l) : Int) / 16777216 by omega]
  unfold sealI
  rw [Ib_le4]
  rfl
theorem rseal_ok {l : List Int} (hl : By l) (hn : l.length ≤ 4096) {k : Nat} (hk : l.length + 9 < k) : catamaranref02_Seal.f k l = some (sealI l, 0) := by
  unfold catamaranref02_Seal.f
  rw [if_neg (by omega), rsealed_ok hl (by omega) hk]
  rfl
theorem rseal_no {l : List Int} (hn : 4096 < l.length) (k : Nat) : catamaranref02_Seal.f k l = some ([], 4) := by
  unfold catamaranref02_Seal.f
  rw [if_pos (by omega)]
/-- What opening tells. -/
def openI (l : List Int) : List Int × Int :=
  if l.length < 4 then ([], 10) else if 4096 < l.length - 4 then ([], 4) else if sealI (l.take (l.length - 4)) = l then (l.take (l.length - 4), 0) else ([], 20)
theorem open_ok {l : List Int} (hl : By l) (hn : l.length ≤ 1000000) {k : Nat} (hk : l.length + 9 < k) : crc_Open.f k l = some (openI l) := by
  unfold crc_Open.f openI
  rw [w64 (by omega) (by omega)]
  by_cases h1 : l.length < 4
  · rw [if_pos (by omega), if_pos h1]
  · by_cases h2 : 4096 < l.length - 4
    · rw [if_neg (by omega), if_pos (by omega), if_neg h1, if_pos h2]
    · have ht : ((l.length : Int) - 4).toNat = l.length - 4 := by omega
      have hlt : (l.take (l.length - 4)).length = l.length - 4 := by rw [List.length_take]; omega
      rw [if_neg (by omega), if_neg (by omega), if_pos (by omega), if_pos (by omega), if_neg h1, if_neg h2, ht, seal_ok (hl.take _) (by omega) (by omega)]
      simp only [Option.bind_some]
      by_cases h3 : sealI (l.take (l.length - 4)) = l
      · rw [if_pos ((str_inj (By_seal (hl.take _)) hl).2 h3), if_pos h3, if_pos (by simp; omega)]
        rfl
      · rw [if_neg (fun h => h3 ((str_inj (By_seal (hl.take _)) hl).1 h)), if_neg h3]
theorem ropen_ok {l : List Int} (hl : By l) (hn : l.length ≤ 1000000) {k : Nat} (hk : l.length + 9 < k) : catamaranref02_Open.f k l = some (openI l) := by
  unfold catamaranref02_Open.f openI
  by_cases h1 : l.length < 4
  · rw [if_pos (by omega), if_pos h1]
  · rw [w64 (by omega) (by omega)]
    by_cases h2 : 4096 < l.length - 4
    · rw [if_neg (by omega), if_pos (by omega), if_neg h1, if_pos h2]
    · have ht : ((l.length : Int) - 4).toNat = l.length - 4 := by omega
      have hlt : (l.take (l.length - 4)).length = l.length - 4 := by rw [List.length_take]; omega
      rw [if_neg (by omega), if_neg (by omega), if_neg h1, if_neg h2]
      simp only [Option.bind_some]
      rw [if_pos (by omega), if_pos (by omega), if_pos (by simp; omega), ht]
      simp only [List.nil_append]
      rw [rsealed_ok (hl.take _) (by omega) (by omega)]
      simp only [Option.bind_some]
      by_cases h3 : sealI (l.take (l.length - 4)) = l
      · rw [if_pos ((str_inj (By_seal (hl.take _)) hl).2 h3), if_pos h3]
      · rw [if_neg (fun h => h3 ((str_inj (By_seal (hl.take _)) hl).1 h)), if_neg h3]
theorem open_By {l : List Int} (hl : By l) : By (openI l).1 := by
  unfold openI
  split
  · exact By.nil
  · split
    · exact By.nil
    · split
      · exact hl.take _
      · exact By.nil
/-- What was sealed is opened. -/
theorem open_seal {l : List Int} (hn : l.length ≤ 4096) : openI (sealI l) = (l, 0) := by
  have hs := seal_length l
  have ht : (sealI l).take ((sealI l).length - 4) = l := by rw [hs, Nat.add_sub_cancel]; unfold sealI; exact List.take_left
  unfold openI
  rw [if_neg (by omega), if_neg (by omega), ht, if_pos rfl]
/-- Opened just if the register says so. -/
theorem open_iff {l : List Int} (hl : By l) (h4 : 4 ≤ l.length) (hn : l.length ≤ 4100) : (openI l).2 = (if fo full (Nb l) = Mp 32 full then 0 else 20) := by
  unfold openI
  rw [if_neg (by omega), if_neg (by omega)]
  have hsp : l = l.take (l.length - 4) ++ l.drop (l.length - 4) := (List.take_append_drop _ _).symm
  have hd : (l.drop (l.length - 4)).length = 4 := by rw [List.length_drop]; omega
  have hb := hl.drop (l.length - 4)
  obtain ⟨a, b, c, d, he⟩ : ∃ a b c d, l.drop (l.length - 4) = [a, b, c, d] := by
    rcases hq : l.drop (l.length - 4) with _ | ⟨a, _ | ⟨b, _ | ⟨c, _ | ⟨d, _ | ⟨e, r⟩⟩⟩⟩⟩ <;> rw [hq] at hd <;> simp at hd
    exact ⟨a, b, c, d, rfl⟩
  rw [he] at hb
  have ha' := hb a (by simp)
  have hb' := hb b (by simp)
  have hc' := hb c (by simp)
  have hd' := hb d (by simp)
  have h4' := le4_of4 (a := a.toNat) (b := b.toNat) (c := c.toNat) (d := d.toNat) (by omega) (by omega) (by omega) (by omega)
  have hN : Nb l = Nb (l.take (l.length - 4)) ++ le4 (a.toNat + 256 * b.toNat + 65536 * c.toNat + 16777216 * d.toNat) := by
    rw [h4']
    conv => lhs; rw [hsp, Nb_append, he]
    rfl
  have key := sealed_iff (l := Nb (l.take (l.length - 4))) (t := a.toNat + 256 * b.toNat + 65536 * c.toNat + 16777216 * d.toNat) (Nb_lt (hl.take _)) (by omega)
  rw [← hN] at key
  have hq : sealI (l.take (l.length - 4)) = l ↔ fo full (Nb l) = Mp 32 full := by
    rw [← key]
    constructor
    · intro h
      have h2 := congrArg Nb h
      rw [Nb_seal] at h2
      exact h2.symm
    · intro h
      refine Nb_inj (By_seal (hl.take _)) hl ?_
      rw [Nb_seal]
      exact h.symm
  by_cases h : sealI (l.take (l.length - 4)) = l
  · rw [if_pos h, if_pos (hq.1 h)]
  · rw [if_neg h, if_neg (fun h2 => h (hq.2 h2))]
theorem open_more {l : List Int} : (openI l).2 = 0 → sealI (openI l).1 = l ∧ (openI l).1.length ≤ 4096 := by
  unfold openI
  split
  · intro h; cases h
  · split
    · intro h; cases h
    · split
      · rename_i h3
        intro _
        exact ⟨h3, by rw [List.length_take]; omega⟩
      · intro h; cases h
theorem open_none {l : List Int} : (openI l).2 ≠ 0 → (openI l).1 = [] := by
  unfold openI
  split
  · intro _; rfl
  · split
    · intro _; rfl
    · split
      · intro h; exact absurd rfl h
      · intro _; rfl
end Go.Proofs.Ytlgnnppmjcdncaa.PCrc
