/- What crc's laws ask, of numbers and lists: the six statements. -/
import Derived.Test.YtlgnnppmjcdncaaCrcLib
namespace Go.Proofs.Ytlgnnppmjcdncaa.Pure
open Go.RowKit Go.Proofs.Ytlgnnppmjcdncaa.PCrc Go.Proofs.YtlgnnppmjcdncaaW.PrintWords Go.Proofs.YtlgnnppmjcdncaaW.PrintLast Go.Proofs.Ytlgnnppmjcdncaa.CrcMath Go.Proofs.Ytlgnnppmjcdncaa.Kit
theorem nat_wf32 {a : Int} (h : (Lit.int .u32 a).wf = true) : ∃ n : Nat, a = n ∧ n < 4294967296 := by
  simp [Lit.wf, IntKind.min, IntKind.max, IntKind.bits, IntKind.signed] at h
  exact ⟨a.toNat, by omega, by omega⟩
theorem crc_alive {k : Nat} (hk : 20 < k) : catamaranlaw02_alive.f k = some true := by
  unfold catamaranlaw02_alive.f
  rw [sum_ok By.nil (by decide) (by simp; omega), Option.bind_some, if_pos (by decide +kernel), sum_ok (l := [49, 50, 51, 52, 53, 54, 55, 56, 57]) (by unfold By; decide) (by decide) (by simp; omega), Option.bind_some]
  decide +kernel
theorem CrcSums : catamaranlaw02_CrcSums.Pure := by
  intro l0 a1 hm hl hw ha
  obtain ⟨s, rfl, hs⟩ := nat_wf32 ha
  have hb := By.of_wf hw
  obtain ⟨k, hk⟩ : ∃ k : Nat, 3000 < k := ⟨3001, by omega⟩
  refine ⟨k, ?_⟩
  unfold catamaranlaw02_CrcSums.f
  by_cases h : (l0.length : Int) > 2000
  · rw [if_pos h]
  · rw [if_neg h, Option.bind_some, if_pos (by rw [List.length_nil]; omega), Option.bind_some, List.nil_append, sum_ok hb (by omega) (by omega), Option.bind_some, rsum_ok hb (by omega) (by omega), Option.bind_some, if_pos rfl, more_ok hb (by omega) hs (by omega), Option.bind_some, rmore_ok hb (by omega) hs (by omega), Option.bind_some, if_pos rfl, str_refl]
theorem CrcGoesOn : catamaranlaw02_CrcGoesOn.Pure := by
  intro l0 l1 _ _ hw _ _ hw1
  have hb := By.of_wf hw
  have hb1 := By.of_wf hw1
  obtain ⟨k, hk⟩ : ∃ k : Nat, 5000 < k := ⟨5001, by omega⟩
  have hj : ∀ b, catamaranlaw02_CrcGoesOn.j0 (k + 1) l0 l1 true b = some true ∨ ((l0.length : Int) ≤ 2000 ∧ (l1.length : Int) ≤ 2000 → catamaranlaw02_CrcGoesOn.j0 (k + 1) l0 l1 true b = some true) := fun b => by
    rw [catamaranlaw02_CrcGoesOn.j0]
    cases b with
    | true => exact .inl (if_pos rfl)
    | false =>
      refine .inr fun h => ?_
      have h1 := sumN_lt (Nb_lt hb)
      rw [if_neg (by decide), if_pos rfl, sum_ok hb (by omega) (by omega), Option.bind_some, more_ok hb1 (by omega) h1 (by omega), Option.bind_some, Option.bind_some, if_pos (by rw [List.length_nil]; omega), Option.bind_some, List.nil_append, if_pos (by omega), sum_ok (hb.append hb1) (by rw [List.length_append]; omega) (by rw [List.length_append]; omega), Option.bind_some]
      congr 1
      rw [beq_iff_eq, Nb_append]
      unfold sumN
      rw [fo_append, Nat.xor_assoc, Nat.xor_self, Nat.xor_zero]
  refine ⟨k + 1, ?_⟩
  unfold catamaranlaw02_CrcGoesOn.f
  rw [crc_alive (by omega), Option.bind_some]
  have h1 : catamaranlaw02_CrcGoesOn.j0 (k + 1) l0 l1 true true = some true := by
    rw [catamaranlaw02_CrcGoesOn.j0]; rw [if_pos rfl]
  by_cases h : (l0.length : Int) > 2000
  · rw [if_pos h]; exact h1
  · by_cases h2 : (l1.length : Int) > 2000
    · rw [if_neg h, if_pos h2]; exact h1
    · rw [if_neg h, if_neg h2]
      exact (hj (!true)).elim id fun f => f ⟨by omega, by omega⟩
theorem CrcBack : catamaranlaw02_CrcBack.Pure := by
  intro l0 l1 _ _ hw _ _ hw1
  have hb := By.of_wf hw
  have hb1 := By.of_wf hw1
  obtain ⟨k, hk⟩ : ∃ k : Nat, 5000 < k := ⟨5001, by omega⟩
  refine ⟨k + 1, ?_⟩
  unfold catamaranlaw02_CrcBack.f
  rw [crc_alive (by omega), Option.bind_some]
  have h1 : catamaranlaw02_CrcBack.j0 (k + 1) l0 l1 true true = some true := by
    rw [catamaranlaw02_CrcBack.j0]; rw [if_pos rfl]
  by_cases h : (l0.length : Int) > 2000
  · rw [if_pos h]; exact h1
  · by_cases h2 : (l1.length : Int) > 2000
    · rw [if_neg h, if_pos h2]; exact h1
    · rw [if_neg h, if_neg h2]
      rw [catamaranlaw02_CrcBack.j0]
      rw [if_neg (by decide), seal_ok hb (by omega) (by omega), Option.bind_some]
      dsimp only
      rw [open_ok (By_seal hb) (by rw [seal_length]; omega) (by rw [seal_length]; omega), open_seal (by omega), Option.bind_some]
      dsimp only
      rw [open_ok hb1 (by omega) (by omega), Option.bind_some]
      have hfin : (l0.length : Int) + 4 = ((sealI l0).length : Int) := by rw [seal_length]; omega
      by_cases h3 : (openI l1).2 = 0
      · obtain ⟨h4, h5⟩ := open_more h3
        rw [seal_ok (open_By hb1) h5 (by omega), Option.bind_some]
        dsimp only
        rw [if_pos rfl, if_pos rfl, if_pos rfl, if_pos rfl, if_pos (by rw [w64 (by omega) (by omega), hfin]), if_pos h3, if_pos rfl, h4, str_refl]
      · have h4 := open_none h3
        rw [h4, seal_ok By.nil (by simp) (by simp; omega), Option.bind_some]
        dsimp only
        rw [if_pos rfl, if_pos rfl, if_pos rfl, if_pos rfl, if_pos (by rw [w64 (by omega) (by omega), hfin]), if_neg h3]
        exact if_pos rfl
theorem seals_l1 (x0 x3 : List Int) (d : Nat) : ∀ (k : Nat) (x8 : List Int) (i : Nat), x8.length ≤ 1000000 → i + d = x8.length → d < k → catamaranlaw02_CrcSeals.l1 k x0 x3 x8 true (i : Int) = some ((strOfNums x3).toList == (strOfNums x0).toList) := by
  induction d with
  | zero =>
    intro k x8 i hm hi hk
    obtain ⟨k, rfl⟩ : ∃ m, k = m + 1 := ⟨k - 1, by omega⟩
    rw [catamaranlaw02_CrcSeals.l1, if_neg (by omega), if_pos rfl]
  | succ d ih =>
    intro k x8 i hm hi hk
    obtain ⟨k, rfl⟩ : ∃ m, k = m + 1 := ⟨k - 1, by omega⟩
    rw [catamaranlaw02_CrcSeals.l1, if_pos (by omega), if_pos (by omega), w64 (by omega) (by omega), show ((i : Int) + 1) = ((i + 1 : Nat) : Int) by omega]
    exact ih k _ _ (by rw [List.length_set]; exact hm) (by rw [List.length_set]; omega) (by omega)
theorem seals_l0 (x0 x3 x8 : List Int) (h8 : x8.length ≤ 1000000) (d : Nat) : ∀ (k : Nat) (x4 : List Int) (i : Nat), x4.length ≤ 1000000 → i + d = x4.length → d + x8.length + 2 < k → catamaranlaw02_CrcSeals.l0 k x0 x3 x4 x8 true (i : Int) = some ((strOfNums x3).toList == (strOfNums x0).toList) := by
  induction d with
  | zero =>
    intro k x4 i hm hi hk
    obtain ⟨k, rfl⟩ : ∃ m, k = m + 1 := ⟨k - 1, by omega⟩
    rw [catamaranlaw02_CrcSeals.l0, if_neg (by omega)]
    exact seals_l1 x0 x3 x8.length k x8 0 h8 (by omega) (by omega)
  | succ d ih =>
    intro k x4 i hm hi hk
    obtain ⟨k, rfl⟩ : ∃ m, k = m + 1 := ⟨k - 1, by omega⟩
    rw [catamaranlaw02_CrcSeals.l0, if_pos (by omega), if_pos (by omega), w64 (by omega) (by omega), show ((i : Int) + 1) = ((i + 1 : Nat) : Int) by omega]
    exact ih k _ _ (by rw [List.length_set]; exact hm) (by rw [List.length_set]; omega) (by omega)
theorem open_len (l : List Int) : (openI l).1.length ≤ l.length := by
  unfold openI
  split
  · simp
  · split
    · simp
    · split
      · rw [List.length_take]; omega
      · simp
theorem CrcSeals : catamaranlaw02_CrcSeals.Pure := by
  intro l0 hm hl hw
  have hb := By.of_wf hw
  obtain ⟨k, hk⟩ : ∃ k : Nat, 50000 < k := ⟨50001, by omega⟩
  refine ⟨k + 3, ?_⟩
  have ht : catamaranlaw02_CrcSeals.j0 (k + 3) l0 true = some true := by rw [catamaranlaw02_CrcSeals.j0, if_pos rfl]
  have hf : (l0.length : Int) ≤ 4200 → catamaranlaw02_CrcSeals.j0 (k + 3) l0 false = some true := by
    intro hlen
    have key : ∀ x4 x8 : List Int, x4.length ≤ 5000 → x8.length ≤ 5000 → catamaranlaw02_CrcSeals.j1 (k + 2) l0 l0 x4 x8 true = some true := by
      intro x4 x8 h4 h8
      rw [catamaranlaw02_CrcSeals.j1]
      have := seals_l0 l0 l0 x8 (by omega) x4.length (k + 1) x4 0 (by omega) (by omega) (by omega)
      rw [str_refl] at this
      exact this
    have ho := open_len l0
    rw [catamaranlaw02_CrcSeals.j0, if_neg (by decide), Option.bind_some, if_pos (by rw [List.length_nil]; omega), Option.bind_some, List.nil_append]
    by_cases h : l0.length ≤ 4096
    · rw [seal_ok hb h (by omega), Option.bind_some, rseal_ok hb h (by omega), Option.bind_some, open_ok hb (by omega) (by omega), Option.bind_some, ropen_ok hb (by omega) (by omega), Option.bind_some, if_pos rfl, if_pos rfl, if_pos rfl]
      rw [show ((openI l0).2 == (openI l0).2) = true from beq_iff_eq.2 rfl]
      exact key _ _ (by rw [seal_length]; omega) (by omega)
    · rw [seal_no (by omega), Option.bind_some, rseal_no (by omega), Option.bind_some, open_ok hb (by omega) (by omega), Option.bind_some, ropen_ok hb (by omega) (by omega), Option.bind_some, if_pos rfl, if_pos rfl, if_pos rfl]
      rw [show ((openI l0).2 == (openI l0).2) = true from beq_iff_eq.2 rfl]
      exact key _ _ (by simp) (by omega)
  have hd : catamaranlaw02_CrcSeals.j0 (k + 3) l0 (decide ((l0.length : Int) > 4200)) = some true := by
    by_cases h : (l0.length : Int) > 4200
    · rw [decide_eq_true h]; exact ht
    · rw [decide_eq_false h]; exact hf (by omega)
  unfold catamaranlaw02_CrcSeals.f
  by_cases h : (l0.length : Int) > 2000
  · rw [if_pos h]
    by_cases h2 : (l0.length : Int) < 4097
    · rw [if_pos h2]; exact ht
    · rw [if_neg h2]; exact hd
  · rw [if_neg h]; exact hd
theorem u64_id {x : Int} (h0 : 0 ≤ x) (h1 : x < 18446744073709551616) : IntKind.u64.wrap x = x := by
  simp [IntKind.wrap, IntKind.bits, IntKind.signed]; omega
theorem burst_l (l : List Int) (hn : l.length ≤ 2000) (a s : Nat) (ha : a < 8 * (l.length + 4)) (d : Nat) : ∀ (k : Nat) (x : List Int) (t : Bool) (W i : Nat), i + d = 32 → d + 3000 < k → By x → x.length = l.length + 4 → W < 2 ^ i → fo full (Nb x) = Mp 32 full ^^^ Mp (8 * (l.length + 4) - a) W → (W ≠ 0 ↔ t = true) → catamaranlaw02_CrcBurst.l0 k (a : Int) (s : Int) true x t (i : Int) = some true := by
  induction d with
  | zero =>
    intro k x t W i hi hk hx hlen hW hfo ht
    obtain ⟨k, rfl⟩ : ∃ m, k = m + 1 := ⟨k - 1, by omega⟩
    obtain rfl : i = 32 := by omega
    rw [catamaranlaw02_CrcBurst.l0, if_neg (by omega), open_ok hx (by omega) (by omega), Option.bind_some, if_pos rfl, open_iff hx (by omega) (by omega)]
    by_cases h0 : W = 0
    · subst h0
      rw [Mp_zero, Nat.xor_zero] at hfo
      rw [if_pos hfo]
      cases t with
      | true => exact absurd rfl (ht.2 rfl)
      | false => rfl
    · rw [if_neg, ht.1 h0]
      · rfl
      · intro he
        rw [hfo] at he
        have h1 : Mp 32 full ^^^ (Mp 32 full ^^^ Mp (8 * (l.length + 4) - a) W) = Mp 32 full ^^^ Mp 32 full := by rw [he]
        rw [← Nat.xor_assoc, Nat.xor_self, Nat.zero_xor] at h1
        exact h0 (Mp_ne _ (by exact hW) h1)
  | succ d ih =>
    intro k x t W i hi hk hx hlen hW hfo ht
    obtain ⟨k, rfl⟩ : ∃ m, k = m + 1 := ⟨k - 1, by omega⟩
    have hi1 : ((i : Int) + 1) = ((i + 1 : Nat) : Int) := by omega
    have hW1 : W < 2 ^ (i + 1) := Nat.lt_of_lt_of_le hW (Nat.pow_le_pow_right (by decide) (by omega))
    have hno : catamaranlaw02_CrcBurst.l0 k (a : Int) (s : Int) true x t (wrap64 ((i : Int) + 1)) = some true := by
      rw [w64 (by omega) (by omega), hi1]
      exact ih k x t W (i + 1) (by omega) (by omega) hx hlen hW1 hfo ht
    rw [catamaranlaw02_CrcBurst.l0, if_pos (by omega), u64_id (by omega) (by omega), if_pos (by omega)]
    split
    · rw [w64 (x := 8 * (x.length : Int)) (by omega) (by omega), w64 (x := 8 * (x.length : Int) - (i : Int)) (by omega) (by omega)]
      by_cases hin : (a : Int) < 8 * (x.length : Int) - (i : Int)
      · rw [if_pos hin, w64 (x := (a : Int) + (i : Int)) (by omega) (by omega), Int.tdiv_eq_ediv_of_nonneg (by omega), Int.tmod_eq_emod_of_nonneg (by omega), w64 (x := ((a : Int) + (i : Int)) / 8) (by omega) (by omega), u64_id (x := ((a : Int) + (i : Int)) % 8) (by omega) (by omega), if_pos (by omega), if_pos (by omega), if_pos (by omega)]
        rw [show ((a : Int) + (i : Int)) / 8 = (((a + i) / 8 : Nat) : Int) by omega, show ((a : Int) + (i : Int)) % 8 = (((a + i) % 8 : Nat) : Int) by omega, Int.toNat_natCast]
        have hj : (a + i) / 8 < x.length := by omega
        have hc := hx _ (List.getElem_mem hj)
        have hp : 2 ^ ((a + i) % 8) < 256 := Nat.pow_lt_pow_right (n := 8) (by decide) (by omega)
        rw [rd_get hj]
        have hsh : shl .u8 1 (((a + i) % 8 : Nat) : Int) = ((2 ^ ((a + i) % 8) : Nat) : Int) := by
          unfold shl
          rw [Int.toNat_natCast, Nat.min_eq_left (by simp [IntKind.bits]; omega), Int.one_mul]
          have := wrap_u (k := .u8) rfl (n := 2 ^ ((a + i) % 8)) hp
          rw [Int.natCast_pow] at this
          rw [Int.natCast_pow]
          exact this
        rw [hsh]
        obtain ⟨c, hcc, hc2⟩ : ∃ c : Nat, x[(a + i) / 8] = (c : Int) ∧ c < 256 := ⟨x[(a + i) / 8].toNat, by omega, by omega⟩
        rw [hcc, xor_u8 hc2 hp, w64 (by omega) (by omega), hi1]
        have hcx : c ^^^ 2 ^ ((a + i) % 8) < 256 := Nat.xor_lt_two_pow (n := 8) hc2 hp
        refine ih k _ true (W ^^^ 2 ^ i) (i + 1) (by omega) (by omega) (hx.set _ (by omega) (by omega)) (by rw [List.length_set]; exact hlen) (Nat.xor_lt_two_pow hW1 (Nat.pow_lt_pow_right (by decide) (by omega))) ?_ ⟨fun _ => rfl, fun _ h0 => ?_⟩
        · have hset : Nb (x.set ((a + i) / 8) ((c ^^^ 2 ^ ((a + i) % 8) : Nat) : Int)) = (Nb x).set ((a + i) / 8) (c ^^^ 2 ^ ((a + i) % 8)) := by
            unfold Nb
            rw [List.map_set]
            rfl
          have hget : (Nb x)[(a + i) / 8]? = some c := by
            unfold Nb
            rw [List.getElem?_map, List.getElem?_eq_getElem hj, hcc]
            rfl
          rw [hset, fo_set full (Nb x) ((a + i) / 8) ((a + i) % 8) (by rw [Nb_length]; exact hj) (by omega) c hget, hfo, Nat.xor_assoc, Mp_xor]
          congr 2
          have h3 := Mp_pow i (8 * (l.length + 4) - a - i) 1
          rw [Nat.one_mul, show i + (8 * (l.length + 4) - a - i) = 8 * (l.length + 4) - a by omega] at h3
          rw [h3, Nb_length, hlen]
          congr 1
          omega
        · have := eq_of_xor h0
          omega
      · rw [if_neg hin]
        exact hno
    · exact hno
theorem CrcBurst : catamaranlaw02_CrcBurst.Pure := by
  intro l0 a1 a2 _ _ hw _ ha2
  have hb := By.of_wf hw
  obtain ⟨s, rfl, hs⟩ := nat_wf32 ha2
  obtain ⟨k, hk⟩ : ∃ k : Nat, 50000 < k := ⟨50001, by omega⟩
  refine ⟨k + 3, ?_⟩
  have ht : catamaranlaw02_CrcBurst.j0 (k + 3) l0 a1 s true true = some true := by rw [catamaranlaw02_CrcBurst.j0, if_pos rfl]
  unfold catamaranlaw02_CrcBurst.f
  rw [crc_alive (by omega), Option.bind_some]
  by_cases h : (l0.length : Int) > 2000
  · rw [if_pos h]; exact ht
  · rw [if_neg h, catamaranlaw02_CrcBurst.j0, if_neg (by decide), seal_ok hb (by omega) (by omega), Option.bind_some]
    dsimp only
    rw [if_pos rfl]
    have h1 : catamaranlaw02_CrcBurst.j1 (k + 2) a1 s true (sealI l0) 0 true = some true := by
      rw [catamaranlaw02_CrcBurst.j1, if_pos rfl, if_pos rfl]; rfl
    by_cases ha : a1 < 0
    · rw [if_pos ha]; exact h1
    · have hlen := seal_length l0
      rw [if_neg ha, w64 (by omega) (by omega)]
      by_cases hg : a1 ≥ 8 * ((sealI l0).length : Int)
      · rw [decide_eq_true hg]; exact h1
      · rw [decide_eq_false hg, catamaranlaw02_CrcBurst.j1, if_neg (by decide)]
        rw [seal_length] at hg
        obtain ⟨a, rfl⟩ : ∃ a : Nat, a1 = a := ⟨a1.toNat, by omega⟩
        refine burst_l l0 (by omega) a s (by omega) 32 (k + 1) (sealI l0) false 0 0 (by omega) (by omega) (By_seal hb) (seal_length _) (by decide) ?_ (by simp)
        rw [Mp_zero, Nat.xor_zero]
        have ho := open_iff (By_seal hb) (by rw [seal_length]; omega) (by rw [seal_length]; omega)
        rw [open_seal (by omega)] at ho
        by_cases hq : fo full (Nb (sealI l0)) = Mp 32 full
        · exact hq
        · rw [if_neg hq] at ho
          exact absurd ho (show (0 : Int) ≠ 20 by decide)
theorem CrcNames : catamaranlaw02_CrcNames.Pure := by
  obtain ⟨k, hk⟩ : ∃ k : Nat, 50000 < k := ⟨50001, by omega⟩
  refine ⟨k, ?_⟩
  have h1 : crc_Seal.f k [97] = some ([97, 67, 190, 183, 232], 0) := by
    rw [seal_ok (l := [97]) (by unfold By; decide) (by decide) (by simp; omega)]
    decide +kernel
  have h2 : crc_Open.f k [97, 98, 99] = some ([], 10) := by
    rw [open_ok (l := [97, 98, 99]) (by unfold By; decide) (by decide) (by simp; omega)]
    decide +kernel
  have h3 : crc_Open.f k [97, 98, 99, 100] = some ([], 20) := by
    rw [open_ok (l := [97, 98, 99, 100]) (by unfold By; decide) (by decide) (by simp; omega)]
    decide +kernel
  have h4 : crc_Open.f k (List.replicate 4 0) = some ([], 0) := by
    rw [open_ok (l := List.replicate 4 0) (By.replicate _ (by decide) (by decide)) (by decide) (by simp; omega)]
    decide +kernel
  have h5 : crc_Seal.f k (List.replicate 4097 0) = some ([], 4) := seal_no (by rw [List.length_replicate]; omega) k
  have h6 : crc_Open.f k (List.replicate 4101 0) = some ([], 4) := by
    rw [open_ok (l := List.replicate 4101 0) (By.replicate _ (by decide) (by decide)) (by rw [List.length_replicate]; omega) (by rw [List.length_replicate]; omega)]
    unfold openI
    rw [List.length_replicate, if_neg (by omega), if_pos (by omega)]
  have h7 : crc_Sum.f k [97] = some 3904355907 := by
    rw [sum_ok (l := [97]) (by unfold By; decide) (by decide) (by simp; omega)]
    decide +kernel
  unfold catamaranlaw02_CrcNames.f
  rw [h1, Option.bind_some, h2, Option.bind_some, h3, Option.bind_some, if_pos (by decide), h4, Option.bind_some, if_pos (by decide), h5, Option.bind_some, if_pos (by decide), h6, Option.bind_some, crc_alive (by omega), Option.bind_some, if_pos rfl, h7, Option.bind_some, if_pos rfl]
  decide +kernel
end Go.Proofs.Ytlgnnppmjcdncaa.Pure
