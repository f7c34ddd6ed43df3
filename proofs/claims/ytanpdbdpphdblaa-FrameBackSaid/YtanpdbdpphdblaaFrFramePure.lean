/- What frame's laws ask: what is written is read, and bursts are told. -/
import Derived.Test.YtanpdbdpphdblaaFrFrameLib
namespace Go.Proofs.Ytanpdbdpphdblaa.Pure
open Go.RowKit Go.Proofs.Ytanpdbdpphdblaa.PFr Go.Proofs.YtanpdbdpphdblaaW.PrintWords Go.Proofs.YtanpdbdpphdblaaW.PrintLast Go.Proofs.Ytanpdbdpphdblaa.CrcMath Go.Proofs.Ytanpdbdpphdblaa.NumMath Go.Proofs.Ytanpdbdpphdblaa.Kit
theorem back_j1 {t : List Int} (ht : By t) (hl : t.length ≤ 200) {k : Nat} (hk : 600 < k) : catamaranlaw15_FrameBack.j1 k t true false = some true := by
  obtain ⟨k, rfl⟩ : ∃ m, k = m + 1 := ⟨k - 1, by omega⟩
  obtain ⟨m, y, s, a, b, e, hr, hm, hy, hs, ha, hb, hne, h0, _⟩ := read_frame ht hl (k := k) (by omega)
  rw [catamaranlaw15_FrameBack.j1, if_neg (by decide), hr, Option.bind_some]
  dsimp only
  rw [write_frame hm hy hs ha hb (by omega), Option.bind_some, if_pos rfl]
  by_cases he : e = 0
  · obtain ⟨h1, h2⟩ := h0 he
    rw [if_pos he, if_pos h1]
    dsimp only
    rw [if_pos rfl, h2, str_refl]
  · obtain ⟨rfl, rfl, rfl, rfl, rfl⟩ := hne he
    rw [if_neg he, same_frame, Option.bind_some, if_pos rfl]
theorem FrameBack : catamaranlaw15_FrameBack.Pure := by
  intro m y s a b t wm wy ws wa wb wt
  have hm := U32.of_wf wm
  have hy := U32.of_wf wy
  have hs := U32.of_wf ws
  have ha := U32.of_wf wa
  have hb := By.of_wf wb.2
  have ht := By.of_wf wt.2
  obtain ⟨k, hk⟩ : ∃ k : Nat, 5000 < k := ⟨5001, by omega⟩
  refine ⟨k + 1, ?_⟩
  have hend : catamaranlaw15_FrameBack.j0 (k + 1) t true true m y s a b = some true := by rw [catamaranlaw15_FrameBack.j0, if_pos rfl]
  unfold catamaranlaw15_FrameBack.f
  rw [frame_alive (by omega), Option.bind_some]
  by_cases h1 : (b.length : Int) > 200
  · rw [if_pos h1]; exact hend
  · by_cases h2 : (t.length : Int) > 200
    · rw [if_neg h1, if_pos h2]; exact hend
    · rw [if_neg h1, if_neg h2, catamaranlaw15_FrameBack.j0, if_neg (by decide), write_frame hm hy hs ha hb (by omega), Option.bind_some]
      by_cases hc : chk m s b = 0
      · have hl := chk_len hc
        have hfl := frame_length (m := m) (y := y) (s := s) (a := a) (b := b)
        obtain ⟨m', y', s', a', b', e, hr, _, _, _, _, _, _, _, hlast⟩ := read_frame (By_frame (m := m) (y := y) (s := s) (a := a) hb) (by omega) (k := k) (by omega)
        have hu := (hlast (by omega) (by omega)).2.2 m y s a b rfl hm hy hs ha hc
        simp only [Prod.mk.injEq] at hu
        obtain ⟨rfl, rfl, rfl, rfl, rfl, rfl⟩ := hu
        rw [if_pos hc, hr, Option.bind_some]
        dsimp only
        rw [if_pos rfl, if_pos rfl, same_frame, Option.bind_some, if_pos rfl]
        exact back_j1 ht (by omega) (by omega)
      · obtain ⟨m', y', s', a', b', e, hr, _⟩ := read_frame (t := []) By.nil (by simp) (k := k) (by omega)
        rw [if_neg hc, hr, Option.bind_some]
        dsimp only
        rw [if_neg hc]
        exact back_j1 ht (by omega) (by omega)
theorem burst_l (L : Nat) (h20 : 20 ≤ L) (hn : L ≤ 84) (a s : Nat) (ha : a < 8 * L) (d : Nat) : ∀ (k : Nat) (x : List Int) (t : Bool) (W i : Nat), i + d = 32 → d + 3000 < k → By x → x.length = L → W < 2 ^ i → fo full (Nb x) = Mp 32 full ^^^ Mp (8 * L - a) W → (W ≠ 0 ↔ t = true) → catamaranlaw15_FrameBurst.l0 k (a : Int) (s : Int) true x t (i : Int) = some true := by
  induction d with
  | zero =>
    intro k x t W i hi hk hx hlen hW hfo ht
    obtain ⟨k, rfl⟩ : ∃ m, k = m + 1 := ⟨k - 1, by omega⟩
    obtain rfl : i = 32 := by omega
    obtain ⟨m, y, s', a', b, e, hr, _, _, _, _, _, _, _, hlast⟩ := read_frame hx (by omega) (k := k) (by omega)
    obtain ⟨hl1, hl2, _⟩ := hlast (by omega) (by omega)
    have ho := open_iff hx (by omega) (by omega)
    rw [catamaranlaw15_FrameBurst.l0, if_neg (by omega), hr, Option.bind_some, if_pos rfl]
    by_cases h0 : W = 0
    · subst h0
      rw [Mp_zero, Nat.xor_zero] at hfo
      rw [if_pos hfo] at ho
      have h1 := hl1 ho
      cases t with
      | true => exact absurd rfl (ht.2 rfl)
      | false => rw [beq_eq_false_iff_ne.2 h1]; rfl
    · rw [if_neg] at ho
      · have h1 := hl2 (by rw [ho]; decide)
        rw [h1, ho, ht.1 h0]
        rfl
      · intro he
        rw [hfo] at he
        have h1 : Mp 32 full ^^^ (Mp 32 full ^^^ Mp (8 * L - a) W) = Mp 32 full ^^^ Mp 32 full := by rw [he]
        rw [← Nat.xor_assoc, Nat.xor_self, Nat.zero_xor] at h1
        exact h0 (Mp_ne _ (by exact hW) h1)
  | succ d ih =>
    intro k x t W i hi hk hx hlen hW hfo ht
    obtain ⟨k, rfl⟩ : ∃ m, k = m + 1 := ⟨k - 1, by omega⟩
    have hi1 : ((i : Int) + 1) = ((i + 1 : Nat) : Int) := by omega
    have hW1 : W < 2 ^ (i + 1) := Nat.lt_of_lt_of_le hW (Nat.pow_le_pow_right (by decide) (by omega))
    have hno : catamaranlaw15_FrameBurst.l0 k (a : Int) (s : Int) true x t (wrap64 ((i : Int) + 1)) = some true := by
      rw [w64 (by omega) (by omega), hi1]
      exact ih k x t W (i + 1) (by omega) (by omega) hx hlen hW1 hfo ht
    rw [catamaranlaw15_FrameBurst.l0, if_pos (by omega), u64_id (by omega) (by omega), if_pos (by omega)]
    split
    · rw [w64 (x := 8 * (x.length : Int)) (by omega) (by omega), w64 (x := 8 * (x.length : Int) - (i : Int)) (by omega) (by omega)]
      by_cases hin : (a : Int) < 8 * (x.length : Int) - (i : Int)
      · rw [if_pos hin, w64 (x := (a : Int) + (i : Int)) (by omega) (by omega), Int.tdiv_eq_ediv_of_nonneg (by omega), Int.tmod_eq_emod_of_nonneg (by omega), w64 (x := ((a : Int) + (i : Int)) / 8) (by omega) (by omega), u64_id (x := ((a : Int) + (i : Int)) % 8) (by omega) (by omega), if_pos (by omega), if_pos (by omega), if_pos (by omega)]
        rw [show ((a : Int) + (i : Int)) / 8 = (((a + i) / 8 : Nat) : Int) by omega, show ((a : Int) + (i : Int)) % 8 = (((a + i) % 8 : Nat) : Int) by omega, Int.toNat_natCast]
        have hj : (a + i) / 8 < x.length := by omega
        have hc := hx _ (List.getElem_mem hj)
        have hp : 2 ^ ((a + i) % 8) < 256 := Nat.pow_lt_pow_right (n := 8) (by decide) (by omega)
        rw [rd_get hj]
        have hsh : shl .u8 1 (((a + i) % 8 : Nat) : Int) = ((2 ^ ((a + i) % 8) : Nat) : Int) := by
          unfold shl
          rw [Int.toNat_natCast, Nat.min_eq_left (by simp [IntKind.bits]; omega), Int.one_mul]
          have := wrap_u (k := .u8) rfl (n := 2 ^ ((a + i) % 8)) hp
          rw [Int.natCast_pow] at this
          rw [Int.natCast_pow]
          exact this
        rw [hsh]
        obtain ⟨c, hcc, hc2⟩ : ∃ c : Nat, x[(a + i) / 8] = (c : Int) ∧ c < 256 := ⟨x[(a + i) / 8].toNat, by omega, by omega⟩
        rw [hcc, xor_u8 hc2 hp, w64 (by omega) (by omega), hi1]
        have hcx : c ^^^ 2 ^ ((a + i) % 8) < 256 := Nat.xor_lt_two_pow (n := 8) hc2 hp
        refine ih k _ true (W ^^^ 2 ^ i) (i + 1) (by omega) (by omega) (hx.set _ (by omega) (by omega)) (by rw [List.length_set]; exact hlen) (Nat.xor_lt_two_pow hW1 (Nat.pow_lt_pow_right (by decide) (by omega))) ?_ ⟨fun _ => rfl, fun _ h0 => ?_⟩
        · have hset : Nb (x.set ((a + i) / 8) ((c ^^^ 2 ^ ((a + i) % 8) : Nat) : Int)) = (Nb x).set ((a + i) / 8) (c ^^^ 2 ^ ((a + i) % 8)) := by
            unfold Nb
            rw [List.map_set]
            rfl
          have hget : (Nb x)[(a + i) / 8]? = some c := by
            unfold Nb
            rw [List.getElem?_map, List.getElem?_eq_getElem hj, hcc]
            rfl
          rw [hset, fo_set full (Nb x) ((a + i) / 8) ((a + i) % 8) (by rw [Nb_length]; exact hj) (by omega) c hget, hfo, Nat.xor_assoc, Mp_xor]
          congr 2
          have h3 := Mp_pow i (8 * L - a - i) 1
          rw [Nat.one_mul, show i + (8 * L - a - i) = 8 * L - a by omega] at h3
          rw [h3, Nb_length, hlen]
          congr 1
          omega
        · have := eq_of_xor h0
          omega
      · rw [if_neg hin]
        exact hno
    · exact hno
theorem FrameBurst : catamaranlaw15_FrameBurst.Pure := by
  intro m y s a b a1 a2 wm wy ws wa wb w1 w2
  have hm := U32.of_wf wm
  have hy := U32.of_wf wy
  have hs := U32.of_wf ws
  have ha := U32.of_wf wa
  have hb := By.of_wf wb.2
  have hq := U32.of_wf w2
  obtain ⟨q, rfl⟩ : ∃ q : Nat, a2 = q := ⟨a2.toNat, by have := hq.1; omega⟩
  obtain ⟨k, hk⟩ : ∃ k : Nat, 50000 < k := ⟨50001, by omega⟩
  refine ⟨k + 1, ?_⟩
  unfold catamaranlaw15_FrameBurst.f
  rw [frame_alive (by omega), Option.bind_some, write_frame hm hy hs ha hb (by omega), Option.bind_some]
  have hend : ∀ x, catamaranlaw15_FrameBurst.j0 (k + 1) a1 q true x true = some true := fun x => by rw [catamaranlaw15_FrameBurst.j0, if_pos rfl]
  by_cases h1 : (b.length : Int) > 200
  · rw [if_pos h1]; exact hend _
  · rw [if_neg h1]
    by_cases hc : chk m s b = 0
    · have hl := chk_len hc
      have hfl := frame_length (m := m) (y := y) (s := s) (a := a) (b := b)
      rw [if_pos hc]
      dsimp only
      rw [if_pos rfl, hfl, w64 (by omega) (by omega)]
      by_cases h2 : a1 < 0
      · rw [if_pos h2]; exact hend _
      · by_cases h3 : a1 ≥ 8 * ((b.length + 20 : Nat) : Int)
        · rw [if_neg h2, if_pos h3]; exact hend _
        · rw [if_neg h2, if_neg h3, catamaranlaw15_FrameBurst.j0, if_neg (by decide)]
          obtain ⟨p, rfl⟩ : ∃ p : Nat, a1 = p := ⟨a1.toNat, by omega⟩
          refine burst_l (b.length + 20) (by omega) (by omega) p q (by omega) 32 k (frameI m y s a b) false 0 0 (by omega) (by omega) (By_frame hb) hfl (by decide) ?_ (by simp)
          rw [Mp_zero, Nat.xor_zero]
          have ho := open_iff (By_frame (m := m) (y := y) (s := s) (a := a) hb) (by omega) (by omega)
          have hh := head_length (m := m) (y := y) (s := s) (a := a)
          have hos : openI (frameI m y s a b) = (headI m y s a ++ b, 0) := open_seal (by rw [List.length_append]; omega)
          rw [hos] at ho
          by_cases hq : fo full (Nb (frameI m y s a b)) = Mp 32 full
          · exact hq
          · rw [if_neg hq] at ho
            exact absurd ho (show (0 : Int) ≠ 20 by decide)
    · rw [if_neg hc]
      dsimp only
      rw [if_neg hc]; exact hend _
end Go.Proofs.Ytanpdbdpphdblaa.Pure
