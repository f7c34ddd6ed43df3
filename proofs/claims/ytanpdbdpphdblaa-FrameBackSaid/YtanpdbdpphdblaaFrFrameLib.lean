/- What a frame's text is, and what is read of texts. -/
import Derived.Test.YtanpdbdpphdblaaFrLib
namespace Go.Proofs.Ytanpdbdpphdblaa.PFr
open Go.RowKit Go.Proofs.YtanpdbdpphdblaaW.PrintWords Go.Proofs.YtanpdbdpphdblaaW.PrintLast Go.Proofs.Ytanpdbdpphdblaa.CrcMath Go.Proofs.Ytanpdbdpphdblaa.NumMath Go.Proofs.Ytanpdbdpphdblaa.Kit
def U32 (x : Int) : Prop := 0 ≤ x ∧ x < 4294967296
theorem U32.of_wf {x : Int} (h : (Lit.int .u32 x).wf = true) : U32 x := by
  simp [Lit.wf, IntKind.min, IntKind.max, IntKind.bits, IntKind.signed] at h
  unfold U32; omega
/-- The numbers' bytes. -/
def headI (m y s a : Int) : List Int := rowI [m, y, s, a] [4, 4, 4, 4]
def frameI (m y s a : Int) (b : List Int) : List Int := sealI (headI m y s a ++ b)
def chk (m s : Int) (b : List Int) : Int := if m = 0 then 150 else if s = 0 then (if b.length = 0 then 0 else 150) else if 1 ≤ b.length ∧ b.length ≤ 64 then 0 else 150
theorem okS4 : okS [4, 4, 4, 4] := ⟨by decide, by decide⟩
theorem head_length {m y s a : Int} : (headI m y s a).length = 16 := by
  have h := rowI_length (l := [m, y, s, a]) (s := [4, 4, 4, 4]) rfl okS4.2
  have h2 : sumI [4, 4, 4, 4] = 16 := by decide
  unfold headI
  omega
theorem By_frame {m y s a : Int} {b : List Int} (hb : By b) : By (frameI m y s a b) := By_seal ((rowI_By _ _).append hb)
theorem frame_length {m y s a : Int} {b : List Int} : (frameI m y s a b).length = b.length + 20 := by
  have := head_length (m := m) (y := y) (s := s) (a := a)
  unfold frameI
  rw [seal_length, List.length_append]
  omega
theorem chk_len {m s : Int} {b : List Int} (h : chk m s b = 0) : b.length ≤ 64 := by
  unfold chk at h
  split at h
  · cases h
  · split at h
    · split at h
      · omega
      · cases h
    · split at h
      · omega
      · cases h
theorem chk_or (m s : Int) (b : List Int) : chk m s b = 0 ∨ chk m s b = 150 := by
  unfold chk
  split
  · exact .inr rfl
  · split
    · split
      · exact .inl rfl
      · exact .inr rfl
    · split
      · exact .inl rfl
      · exact .inr rfl
theorem fit1 {x : Int} (h : U32 x) : decide (x.toNat / 256 ^ (4 : Int).toNat = 0) = true := by
  have h1 := h.1
  have h2 := h.2
  exact decide_eq_true (Nat.div_eq_of_lt (show x.toNat < 256 ^ 4 by omega))
theorem fit4 {m y s a : Int} (hm : U32 m) (hy : U32 y) (hs : U32 s) (ha : U32 a) : fitI [m, y, s, a] [4, 4, 4, 4] = true := by
  simp only [fitI, fit1 hm, fit1 hy, fit1 hs, fit1 ha, Bool.and_self]
theorem U644 {m y s a : Int} (hm : U32 m) (hy : U32 y) (hs : U32 s) (ha : U32 a) : U64 [m, y, s, a] := by
  unfold U32 at hm hy hs ha
  intro x hx
  simp only [List.mem_cons, List.not_mem_nil, or_false] at hx
  rcases hx with rfl | rfl | rfl | rfl <;> omega
theorem write_frame {m y s a : Int} {b : List Int} (hm : U32 m) (hy : U32 y) (hs : U32 s) (ha : U32 a) (hb : By b) {k : Nat} (hk : 200 < k) :
    frame_Write.f k m y s a b = some (if chk m s b = 0 then (frameI m y s a b, 0) else ([], chk m s b)) := by
  unfold frame_Write.f
  rw [show frame_Check.f m y s a b = some (chk m s b) from rfl, Option.bind_some]
  by_cases h : chk m s b = 0
  · have hl := chk_len h
    have hw : writeI [m, y, s, a] [4, 4, 4, 4] = (headI m y s a, 0) := by
      unfold writeI
      rw [if_pos ⟨okS4, rfl⟩, if_pos (fit4 hm hy hs ha)]
      rfl
    have hlen := head_length (m := m) (y := y) (s := s) (a := a)
    have h4 := U644 hm hy hs ha
    unfold U32 at hm hy hs ha
    rw [if_pos h, if_pos h, show frame_sizes.f = some [4, 4, 4, 4] from rfl, Option.bind_some, u64_id (by omega) (by omega), u64_id (by omega) (by omega), u64_id (by omega) (by omega), u64_id (by omega) (by omega), write_ok h4, Option.bind_some, hw]
    dsimp only
    rw [if_pos (by omega), seal_ok (l := headI m y s a ++ b) (By.append (rowI_By _ _) hb) (by rw [List.length_append]; omega) (by rw [List.length_append]; omega), Option.bind_some]
    rfl
  · rw [if_neg h, if_neg h]
theorem mod32 {x : Int} (h : U32 x) : x % 4294967296 = x := Int.emod_eq_of_lt h.1 h.2
theorem numI_u32 {y : List Int} (h : By y) (hl : y.length = 4) : U32 (numI y) := by
  have := numI_bd h
  rw [hl] at this
  exact ⟨this.1, this.2⟩
theorem nums4 (c : List Int) : numsI c [4, 4, 4, 4] = [numI (c.take 4), numI ((c.drop 4).take 4), numI (((c.drop 4).drop 4).take 4), numI ((((c.drop 4).drop 4).drop 4).take 4)] := rfl
theorem read_frame {t : List Int} (ht : By t) (hl : t.length ≤ 200) {k : Nat} (hk : 500 < k) :
    ∃ m y s a b e, frame_Read.f k t = some (m, y, s, a, b, e) ∧ U32 m ∧ U32 y ∧ U32 s ∧ U32 a ∧ By b ∧ (e ≠ 0 → m = 0 ∧ y = 0 ∧ s = 0 ∧ a = 0 ∧ b = []) ∧ (e = 0 → chk m s b = 0 ∧ frameI m y s a b = t) ∧
      (20 ≤ t.length → t.length ≤ 84 → ((openI t).2 = 0 → e ≠ 20) ∧ ((openI t).2 ≠ 0 → e = (openI t).2) ∧ ∀ m' y' s' a' b', t = frameI m' y' s' a' b' → U32 m' → U32 y' → U32 s' → U32 a' → chk m' s' b' = 0 → (m, y, s, a, b, e) = (m', y', s', a', b', 0)) := by
  have z : U32 0 := ⟨by decide, by decide⟩
  unfold frame_Read.f
  by_cases h1 : (t.length : Int) < 20
  · rw [if_pos h1]
    exact ⟨0, 0, 0, 0, [], 10, rfl, z, z, z, z, By.nil, fun _ => ⟨rfl, rfl, rfl, rfl, rfl⟩, fun h => (by cases h), fun h => by omega⟩
  · by_cases h2 : (t.length : Int) > 84
    · rw [if_neg h1, if_pos h2]
      exact ⟨0, 0, 0, 0, [], 150, rfl, z, z, z, z, By.nil, fun _ => ⟨rfl, rfl, rfl, rfl, rfl⟩, fun h => (by cases h), fun _ h => by omega⟩
    · rw [if_neg h1, if_neg h2, open_ok ht (by omega) (by omega), Option.bind_some]
      by_cases h3 : (openI t).2 = 0
      · obtain ⟨hs, _⟩ := open_more h3
        have hbo := open_By ht
        obtain ⟨c, hc⟩ : ∃ c, c = (openI t).1 := ⟨_, rfl⟩
        rw [← hc] at hs hbo ⊢
        have hcl := seal_length c
        rw [hs] at hcl
        have h16 : (c.take 16).length = 16 := by rw [List.length_take]; omega
        have hb16 := hbo.take 16
        have hsum : ((c.take 16).length : Int) = sumI [4, 4, 4, 4] := by rw [h16]; decide
        have hr : readI (c.take 16) [4, 4, 4, 4] = (numsI (c.take 16) [4, 4, 4, 4], 0) := by
          unfold readI
          rw [if_pos okS4, if_pos hsum]
        obtain ⟨hrow, _, _, _⟩ := row_nums hb16 okS4.2 hsum
        rw [if_pos h3, if_pos (by omega), read_ok hb16 (by omega), hr, Option.bind_some]
        rw [nums4] at hrow ⊢
        have l1 : ((c.take 16).take 4).length = 4 := by rw [List.length_take]; omega
        have l2 : (((c.take 16).drop 4).take 4).length = 4 := by rw [List.length_take, List.length_drop]; omega
        have l3 : ((((c.take 16).drop 4).drop 4).take 4).length = 4 := by rw [List.length_take, List.length_drop, List.length_drop]; omega
        have l4 : (((((c.take 16).drop 4).drop 4).drop 4).take 4).length = 4 := by rw [List.length_take, List.length_drop, List.length_drop, List.length_drop]; omega
        have u1 := numI_u32 (hb16.take 4) l1
        have u2 := numI_u32 ((hb16.drop 4).take 4) l2
        have u3 := numI_u32 (((hb16.drop 4).drop 4).take 4) l3
        have u4 := numI_u32 ((((hb16.drop 4).drop 4).drop 4).take 4) l4
        obtain ⟨m, hm⟩ : ∃ x, x = numI ((c.take 16).take 4) := ⟨_, rfl⟩
        obtain ⟨y, hy⟩ : ∃ x, x = numI (((c.take 16).drop 4).take 4) := ⟨_, rfl⟩
        obtain ⟨s, hss⟩ : ∃ x, x = numI ((((c.take 16).drop 4).drop 4).take 4) := ⟨_, rfl⟩
        obtain ⟨a, ha⟩ : ∃ x, x = numI (((((c.take 16).drop 4).drop 4).drop 4).take 4) := ⟨_, rfl⟩
        rw [← hm, ← hy, ← hss, ← ha] at hrow
        rw [← hm] at u1
        rw [← hy] at u2
        rw [← hss] at u3
        rw [← ha] at u4
        have hfr : frameI m y s a (c.drop 16) = t := by
          unfold frameI headI
          rw [hrow, List.take_append_drop, hs]
        have huniq : ∀ m' y' s' a' b', t = frameI m' y' s' a' b' → U32 m' → U32 y' → U32 s' → U32 a' → m = m' ∧ y = y' ∧ s = s' ∧ a = a' ∧ c.drop 16 = b' := by
          intro m' y' s' a' b' he k1 k2 k3 k4
          have hlen : (headI m' y' s' a' ++ b').length ≤ 4096 := by
            have := frame_length (m := m') (y := y') (s := s') (a := a') (b := b')
            have hh := head_length (m := m') (y := y') (s := s') (a := a')
            rw [← he] at this
            rw [List.length_append]
            omega
          have h5 := open_seal hlen
          unfold frameI at he
          rw [← he] at h5
          rw [h5] at hc
          have e1 : c.take 16 = headI m' y' s' a' := by rw [hc]; exact List.take_left' head_length
          have e2 : c.drop 16 = b' := by rw [hc]; exact List.drop_left' head_length
          have e3 := nums_row (l := [m', y', s', a']) (s := [4, 4, 4, 4]) rfl okS4.2 (U644 k1 k2 k3 k4) (fit4 k1 k2 k3 k4)
          have e4 : numsI (c.take 16) [4, 4, 4, 4] = [m', y', s', a'] := by rw [e1]; exact e3
          rw [nums4, ← hm, ← hy, ← hss, ← ha] at e4
          simp only [List.cons.injEq, and_true] at e4
          exact ⟨e4.1, e4.2.1, e4.2.2.1, e4.2.2.2, e2⟩
        have hrd : rd [m, y, s, a] 0 = m ∧ rd [m, y, s, a] 1 = y ∧ rd [m, y, s, a] 2 = s ∧ rd [m, y, s, a] 3 = a := ⟨rfl, rfl, rfl, rfl⟩
        rw [← hm, ← hy, ← hss, ← ha]
        dsimp only
        rw [if_pos (show [m, y, s, a].length = 4 from rfl), hrd.1, hrd.2.1, hrd.2.2.1, hrd.2.2.2, mod32 u1, mod32 u2, mod32 u3, mod32 u4, show frame_Check.f m y s a (c.drop 16) = some (chk m s (c.drop 16)) from rfl, Option.bind_some]
        by_cases h6 : chk m s (c.drop 16) = 0
        · rw [if_pos h6]
          refine ⟨m, y, s, a, c.drop 16, 0, rfl, u1, u2, u3, u4, hbo.drop 16, fun h => absurd rfl h, fun _ => ⟨h6, hfr⟩, fun _ _ => ⟨fun _ => by decide, fun h => absurd h3 h, ?_⟩⟩
          intro m' y' s' a' b' he k1 k2 k3 k4 _
          obtain ⟨rfl, rfl, rfl, rfl, rfl⟩ := huniq m' y' s' a' b' he k1 k2 k3 k4
          rfl
        · rw [if_neg h6]
          refine ⟨0, 0, 0, 0, [], chk m s (c.drop 16), rfl, z, z, z, z, By.nil, fun _ => ⟨rfl, rfl, rfl, rfl, rfl⟩, fun h => absurd h h6, fun _ _ => ⟨fun _ => ?_, fun h => absurd h3 h, ?_⟩⟩
          · rcases chk_or m s (c.drop 16) with h | h
            · exact absurd h h6
            · rw [h]; decide
          · intro m' y' s' a' b' he k1 k2 k3 k4 hk0
            obtain ⟨rfl, rfl, rfl, rfl, rfl⟩ := huniq m' y' s' a' b' he k1 k2 k3 k4
            exact absurd hk0 h6
      · rw [if_neg h3]
        refine ⟨0, 0, 0, 0, [], (openI t).2, rfl, z, z, z, z, By.nil, fun _ => ⟨rfl, rfl, rfl, rfl, rfl⟩, fun h => absurd h h3, fun _ _ => ⟨fun h => absurd h h3, fun _ => rfl, ?_⟩⟩
        intro m' y' s' a' b' he k1 k2 k3 k4 _
        have hlen : (headI m' y' s' a' ++ b').length ≤ 4096 := by
          have := frame_length (m := m') (y := y') (s := s') (a := a') (b := b')
          have hh := head_length (m := m') (y := y') (s := s') (a := a')
          rw [← he] at this
          rw [List.length_append]
          omega
        have h5 := open_seal hlen
        unfold frameI at he
        rw [← he] at h5
        rw [h5] at h3
        exact absurd rfl h3
theorem same_frame {m y s a : Int} {b : List Int} : catamaranref15_Same.f m y s a b m y s a b = some true := by
  unfold catamaranref15_Same.f
  rw [if_pos rfl, if_pos rfl, if_pos rfl, if_pos rfl, str_refl]
theorem frame_alive {k : Nat} (hk : 600 < k) : catamaranlaw15_alive.f k = some true := by
  obtain ⟨k, rfl⟩ : ∃ m, k = m + 600 := ⟨k - 600, by omega⟩
  have h0 : catamaranlaw15_alive.f 600 = some true := by decide +kernel
  clear hk
  induction k with
  | zero => rw [Nat.zero_add]; exact h0
  | succ k ih => rw [show k + 1 + 600 = k + 600 + 1 by omega]; exact catamaranlaw15_alive.mono _ _ ih
end Go.Proofs.Ytanpdbdpphdblaa.PFr
