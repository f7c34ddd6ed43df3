import Derived.Test.YtammdlgpelljmaaBmBitsLib
namespace Go.Proofs.Ytammdlgpelljmaa.Pure
open Go.RowKit Go.Proofs.Ytammdlgpelljmaa.PBm Go.Proofs.YtammdlgpelljmaaW.PrintWords Go.Proofs.YtammdlgpelljmaaW.PrintLast Go.Proofs.Ytammdlgpelljmaa.Kit Go.Proofs.Ytammdlgpelljmaa.BitsWalk Go.Proofs.Ytammdlgpelljmaa.BmBitsLib
theorem of_l0 (n : Nat) (h16 : n ≤ 16) (l : List Int) (hl : l.length ≤ 1000) : ∀ (d i k : Nat) (is : List Bool), is.length = n → i + d = l.length → d + 30 < k → catamaranref03_Of.l0 k n l is i = some (if (l.drop i).any (outB n) = true then ([], 2) else (orI (pack ((n + 7) / 8) (fun i => is.getD i false)) (l.drop i), 0))
  | 0, i, k, is, hn, hi, hk => by
    obtain ⟨q, rfl⟩ : ∃ q, k = q + 1 := ⟨k - 1, by omega⟩
    rw [catamaranref03_Of.l0, if_neg (by omega), List.drop_eq_nil_of_le (by omega)]
    have := made_ok (is := is) (k := q) (by omega) (by omega)
    rw [hn] at this
    rw [this]
    rfl
  | d + 1, i, k, is, hn, hi, hk => by
    obtain ⟨q, rfl⟩ : ∃ q, k = q + 1 := ⟨k - 1, by omega⟩
    have hw : wrap64 ((i : Int) + 1) = ((i + 1 : Nat) : Int) := by rw [w64 (by omega) (by omega)]; omega
    have hil : i < l.length := by omega
    rw [catamaranref03_Of.l0, if_pos (by omega), if_pos (by omega), rd_get hil, List.drop_eq_getElem_cons hil, List.any_cons, hw]
    obtain ⟨x, hx⟩ : ∃ x, x = l[i] := ⟨_, rfl⟩
    rw [← hx]
    by_cases h1 : x < 0
    · rw [if_pos h1, show outB n x = true by simp [outB, h1], Bool.true_or, if_pos rfl]
    · rw [if_neg h1]
      by_cases h2 : x ≥ n
      · rw [if_pos h2, show outB n x = true by simp [outB, h2], Bool.true_or, if_pos rfl]
      · rw [if_neg h2, if_pos (by omega), if_pos (by omega), show outB n x = false by simp [outB]; omega, Bool.false_or]
        obtain ⟨t, rfl⟩ : ∃ t : Nat, x = (t : Int) := ⟨x.toNat, by omega⟩
        have ih := of_l0 n h16 l hl d (i + 1) q (is.set t true) (by simp [hn]) (by omega) (by omega)
        rw [Int.toNat_natCast, ih, upd_getD (by omega), orI, orT_pack _ (by omega)]
theorem of_same (n : Int) (l : List Int) (hl : l.length ≤ 1000) {k : Nat} (hk : 2000 < k) : ∃ r, bits_Of.f n l = some r ∧ catamaranref03_Of.f k n l = some r := by
  unfold bits_Of.f catamaranref03_Of.f
  rw [size_ok, Option.bind_some]
  by_cases h : 1 ≤ n ∧ n ≤ 16
  · obtain ⟨m, rfl⟩ : ∃ m : Nat, n = (m : Int) := ⟨n.toNat, by omega⟩
    refine ⟨if l.any (outB m) = true then ([], 2) else (orI (pack ((m + 7) / 8) (fun i => (List.replicate m false).getD i false)) l, 0), ?_, ?_⟩
    rotate_left
    · rw [decide_eq_true h, if_pos rfl, if_pos (by omega), Int.toNat_natCast, if_pos (by omega)]
      have := of_l0 m (by omega) l hl l.length 0 k (List.replicate m false) (by simp) (by omega) (by omega)
      rw [List.drop_zero] at this
      exact this
    · rw [if_pos h, if_pos (by omega), allI_length (by omega) (by omega), pack_none]
      have e : (fun i => (List.replicate m false).getD i false) = fun _ => false := by
        funext i
        by_cases hi : i < m <;> simp [List.getD_eq_getElem?_getD, hi]
      rw [e]
  · rw [if_neg h, decide_eq_false h, if_neg (by decide)]
    exact ⟨_, rfl, rfl⟩
theorem full_closed : ∀ n : Fin 16, catamaranref03_Full.f 60 ((n : Nat) + 1 : Nat) = some (allI ((n : Nat) + 1 : Nat)) := by decide +kernel
theorem all_same (n : Int) {k : Nat} (hk : 2000 < k) : ∃ r, bits_All.f n = some r ∧ catamaranref03_All.f k n = some r := by
  unfold bits_All.f catamaranref03_All.f
  rw [size_ok, Option.bind_some]
  by_cases h : 1 ≤ n ∧ n ≤ 16
  · obtain ⟨m, rfl⟩ : ∃ m : Nat, n = ((m + 1 : Nat) : Int) := ⟨n.toNat - 1, by omega⟩
    have h1 := LeO_up (fun k => catamaranref03_Full.mono _ k) (full_closed ⟨m, by omega⟩) (show 60 ≤ k by omega)
    rw [if_pos h, decide_eq_true h, if_pos rfl, h1]
    exact ⟨_, rfl, rfl⟩
  · rw [if_neg h, decide_eq_false h, if_neg (by decide)]
    exact ⟨_, rfl, rfl⟩
/-! Check -/
theorem one_closed : ∀ (n : Fin 8) (c : Fin 256), catamaranref03_Check.f 60 ((n : Nat) + 1 : Nat) [((c : Nat) : Int)] = bits_Check.f 60 ((n : Nat) + 1 : Nat) [((c : Nat) : Int)] ∧ (bits_Check.f 60 ((n : Nat) + 1 : Nat) [((c : Nat) : Int)]).isSome = true := by decide +kernel
theorem two_closed : ∀ (n : Fin 8) (c : Fin 256), catamaranref03_Check.f 60 ((n : Nat) + 9 : Nat) [0, ((c : Nat) : Int)] = bits_Check.f 60 ((n : Nat) + 9 : Nat) [0, ((c : Nat) : Int)] ∧ (bits_Check.f 60 ((n : Nat) + 9 : Nat) [0, ((c : Nat) : Int)]).isSome = true := by decide +kernel
theorem in_far (k : Nat) (a b c : Int) {t : Nat} (h : 8 ≤ t) (h2 : t < 16) : catamaranref03_In.f k [a, c] t = catamaranref03_In.f k [b, c] t := by
  unfold catamaranref03_In.f
  have hq : wrap64 (Int.tdiv (t : Int) 8) = 1 := by
    rw [Int.tdiv_eq_ediv_of_nonneg (by omega), w64 (by omega) (by omega)]; omega
  rw [hq]
  rfl
theorem may_far (a b c : Int) : ∀ (k t : Nat), 8 ≤ t → catamaranref03_May.l0 k [a, c] t = catamaranref03_May.l0 k [b, c] t
  | 0, _, _ => rfl
  | k + 1, t, h => by
    rw [catamaranref03_May.l0, catamaranref03_May.l0]
    have h8 : ∀ x : Int, wrap64 (8 * (([x, c] : List Int).length : Int)) = 16 := fun x => (show wrap64 (8 * 2) = 16 by unfold wrap64; omega)
    rw [h8, h8]
    by_cases h2 : (t : Int) < 16
    · have hw : wrap64 ((t : Int) + 1) = ((t + 1 : Nat) : Int) := by rw [w64 (by omega) (by omega)]; omega
      rw [if_pos h2, if_pos h2, in_far k a b c h (by omega), hw, may_far a b c k (t + 1) (by omega)]
    · rw [if_neg h2, if_neg h2]
theorem bcheck_far (k : Nat) (y a b c : Int) : bits_Check.l0 k [255, y] [a, c] 2 1 = bits_Check.l0 k [255, y] [b, c] 2 1 := by
  match k with
  | 0 => rfl
  | k + 1 =>
    rw [bits_Check.l0, bits_Check.l0]
    have h2 : bits_Check.l0 k [255, y] [a, c] 2 (wrap64 (1 + 1)) = bits_Check.l0 k [255, y] [b, c] 2 (wrap64 (1 + 1)) := by
      rw [show wrap64 (1 + 1) = 2 by unfold wrap64; omega]
      match k with
      | 0 => rfl
      | k + 1 => rw [bits_Check.l0, bits_Check.l0, if_neg (by decide), if_neg (by decide)]
    rw [h2]
    rfl
theorem andNot_all : ∀ c : Fin 256, Go.bits .andNot .u8 ((c : Nat) : Int) 255 = 0 := by decide +kernel
theorem bcheck_start (k : Nat) (y c : Int) {a : Int} (h0 : 0 ≤ a) (h1 : a < 256) : bits_Check.l0 (k + 1) [255, y] [a, c] 2 0 = bits_Check.l0 k [255, y] [a, c] 2 1 := by
  obtain ⟨m, rfl⟩ : ∃ m : Nat, a = m := ⟨a.toNat, by omega⟩
  have h := andNot_all ⟨m, by omega⟩
  rw [bits_Check.l0, if_pos (by omega), if_pos (by omega), if_pos (by simp), if_pos (by simp)]
  show (if Go.bits .andNot .u8 (m : Int) 255 = 0 then _ else _) = _
  rw [if_pos h, show wrap64 (0 + 1) = 1 by unfold wrap64; omega]
theorem check_same (n : Int) (s : List Int) (hs : By s) (hl : s.length ≤ 100) {k : Nat} (hk : 2000 < k) : ∃ r, bits_Check.f k n s = some r ∧ catamaranref03_Check.f k n s = some r := by
  by_cases h : 1 ≤ n ∧ n ≤ 16
  · obtain ⟨m, rfl⟩ : ∃ m : Nat, n = ((m + 1 : Nat) : Int) := ⟨n.toNat - 1, by omega⟩
    by_cases hlen : s.length = (m + 1 + 7) / 8
    · by_cases h8 : m < 8
      · obtain ⟨c, rfl⟩ : ∃ c, s = [c] := List.length_eq_one_iff.1 (by omega)
        have hc := hs c (by simp)
        obtain ⟨q, rfl⟩ : ∃ q : Nat, c = q := ⟨c.toNat, by omega⟩
        obtain ⟨e1, e2⟩ := one_closed ⟨m, h8⟩ ⟨q, by omega⟩
        obtain ⟨r, hr⟩ := Option.isSome_iff_exists.1 e2
        rw [hr] at e1
        exact ⟨r, LeO_up (fun k => bits_Check.mono _ _ k) hr (by omega), LeO_up (fun k => catamaranref03_Check.mono _ _ k) e1 (by omega)⟩
      · obtain ⟨d, c, rfl⟩ : ∃ d c, s = [d, c] := (match s, (show s.length = 2 by omega) with | [d, c], _ => ⟨d, c, rfl⟩)
        have hd := hs d (by simp)
        have hc := hs c (by simp)
        obtain ⟨q, rfl⟩ : ∃ q : Nat, c = q := ⟨c.toNat, by omega⟩
        obtain ⟨j, rfl⟩ : ∃ j, m = j + 8 := ⟨m - 8, by omega⟩
        obtain ⟨e1, e2⟩ := two_closed ⟨j, by omega⟩ ⟨q, by omega⟩
        obtain ⟨r, hr⟩ := Option.isSome_iff_exists.1 e2
        rw [hr] at e1
        have g1 := LeO_up (fun k => bits_Check.mono _ _ k) hr (show 60 ≤ k by omega)
        have g2 := LeO_up (fun k => catamaranref03_Check.mono _ _ k) e1 (show 60 ≤ k by omega)
        refine ⟨r, ?_, ?_⟩
        · rw [← g1]
          obtain ⟨p, rfl⟩ : ∃ p, k = p + 1 := ⟨k - 1, by omega⟩
          have hA : allI ((j + 8 + 1 : Nat) : Int) = [255, 2 ^ (((j + 8 + 1 : Nat) : Int) - 8).toNat - 1] := by unfold allI; rw [if_neg (by omega)]
          unfold bits_Check.f bits_All.f
          rw [if_pos (by omega), Option.bind_some, Option.bind_some]
          show (if (0 : Int) = 0 then _ else _) = (if (0 : Int) = 0 then _ else _)
          rw [if_pos rfl, if_pos rfl]
          show (if _ = _ then bits_Check.l0 (p + 1) (allI ((j + 8 + 1 : Nat) : Int)) [d, (q : Int)] 2 0 else _) = (if _ = _ then bits_Check.l0 (p + 1) (allI ((j + 9 : Nat) : Int)) [0, (q : Int)] 2 0 else _)
          rw [show j + 9 = j + 8 + 1 from rfl, hA, bcheck_start p _ _ hd.1 hd.2, bcheck_start p _ _ (by omega) (by omega), bcheck_far p _ d 0]
          rfl
        · rw [← g2]
          unfold catamaranref03_Check.f catamaranref03_May.f
          rw [show (j + 9 : Nat) = j + 8 + 1 from rfl, size_ok, Option.bind_some, Option.bind_some, Option.bind_some, Option.bind_some]
          have e : ∀ b, catamaranref03_May.j0 k ((j + 8 + 1 : Nat) : Int) [d, (q : Int)] b = catamaranref03_May.j0 k ((j + 8 + 1 : Nat) : Int) [0, (q : Int)] b := by
            intro b
            obtain ⟨p, rfl⟩ : ∃ p, k = p + 1 := ⟨k - 1, by omega⟩
            rw [catamaranref03_May.j0, catamaranref03_May.j0, may_far d 0 q p (j + 8 + 1) (by omega)]
          rw [e, e]
          rfl
    · refine ⟨8, ?_, ?_⟩
      · unfold bits_Check.f bits_All.f
        rw [if_pos h, Option.bind_some]
        show (if (0 : Int) = 0 then _ else _) = _
        rw [if_pos rfl]
        show (if (s.length : Int) = ((allI ((m + 1 : Nat) : Int)).length : Int) then _ else _) = _
        rw [allI_length (by omega) (by omega), if_neg (by omega)]
      · unfold catamaranref03_Check.f catamaranref03_May.f
        obtain ⟨p, rfl⟩ : ∃ p, k = p + 1 := ⟨k - 1, by omega⟩
        rw [size_ok, Option.bind_some, Option.bind_some, decide_eq_true h, if_pos rfl, if_pos rfl, pages_ok (by omega)]
        rw [show ((s.length : Int) != (((m + 1 + 7) / 8 : Nat) : Int)) = true by simp; omega, catamaranref03_May.j0, if_pos rfl]
        rfl
  · refine ⟨2, ?_, ?_⟩
    · unfold bits_Check.f bits_All.f
      rw [if_neg h]
      rfl
    · unfold catamaranref03_Check.f
      rw [size_ok, decide_eq_false h]
      rfl
theorem ints_same (l : List Int) (hl : l.length ≤ 1000) : ∀ (d i k : Nat), i + d = l.length → d < k → catamaranref03_SameInts.l0 k l l i = some true
  | 0, i, k, hi, hk => by
    obtain ⟨q, rfl⟩ : ∃ q, k = q + 1 := ⟨k - 1, by omega⟩
    rw [catamaranref03_SameInts.l0, if_neg (by omega)]
  | d + 1, i, k, hi, hk => by
    obtain ⟨q, rfl⟩ : ∃ q, k = q + 1 := ⟨k - 1, by omega⟩
    have hw : wrap64 ((i : Int) + 1) = ((i + 1 : Nat) : Int) := by rw [w64 (by omega) (by omega)]; omega
    rw [catamaranref03_SameInts.l0, if_pos (by omega), if_pos (by omega), if_pos (by omega), if_pos rfl, hw]
    exact ints_same l hl d (i + 1) q (by omega) (by omega)
theorem spoil_ok (x1 x2 : List Int) (h2 : x2.length ≤ 1000) : ∀ (d : Nat) (i k : Nat) (a : List Int), a.length ≤ 1000 → i + d = a.length → d + 1010 < k → catamaranlaw03_BitsMade.l0 k x1 x2 x1 x2 a true i = some true
  | 0, i, k, a, ha, hi, hk => by
    obtain ⟨q, rfl⟩ : ∃ q, k = q + 1 := ⟨k - 1, by omega⟩
    rw [catamaranlaw03_BitsMade.l0, if_neg (by omega), if_pos rfl, if_pos rfl]
    unfold catamaranref03_SameInts.f
    rw [if_pos rfl, show (0 : Int) = ((0 : Nat) : Int) from rfl, ints_same x2 h2 x2.length 0 q (by omega) (by omega), Option.bind_some]
  | d + 1, i, k, a, ha, hi, hk => by
    obtain ⟨q, rfl⟩ : ∃ q, k = q + 1 := ⟨k - 1, by omega⟩
    have hw : wrap64 ((i : Int) + 1) = ((i + 1 : Nat) : Int) := by rw [w64 (by omega) (by omega)]; omega
    rw [catamaranlaw03_BitsMade.l0, if_pos (by omega), if_pos (by omega), hw]
    exact spoil_ok x1 x2 h2 d (i + 1) q _ (by simpa using ha) (by simp; omega) (by omega)
theorem orI_len (n : Int) (l : List Int) {r} (h : bits_Of.f n l = some r) : r.1.length ≤ 1000 := by
  unfold bits_Of.f at h
  by_cases h1 : 1 ≤ n ∧ n ≤ 16
  · rw [if_pos h1] at h
    by_cases h2 : l.length < 1000000
    · rw [if_pos h2] at h
      obtain rfl := Option.some.inj h
      split
      · simp
      · rw [orI_length]
        obtain ⟨m, rfl⟩ : ∃ m : Nat, n = (m : Int) := ⟨n.toNat, by omega⟩
        rw [List.length_replicate, allI_length (by omega) (by omega)]
        omega
    · rw [if_neg h2] at h; exact absurd h (by simp)
  · rw [if_neg h1] at h
    obtain rfl := Option.some.inj h
    simp
theorem BitsMade : catamaranlaw03_BitsMade.Pure := by
  intro n s l _ _ _ hs _ _ _
  obtain ⟨k, hk⟩ : ∃ k : Nat, 5000 < k := ⟨5001, by omega⟩
  refine ⟨k, ?_⟩
  obtain ⟨q, rfl⟩ : ∃ q, k = q + 1 := ⟨k - 1, by omega⟩
  unfold catamaranlaw03_BitsMade.f
  by_cases h1 : (s.length : Int) > 100
  · rw [if_pos h1, catamaranlaw03_BitsMade.j0, if_pos rfl]
  · rw [if_neg h1]
    by_cases h2 : (l.length : Int) > 100
    · rw [decide_eq_true h2, catamaranlaw03_BitsMade.j0, if_pos rfl]
    · obtain ⟨ra, a1, a2⟩ := of_same n l (by omega) (show 2000 < q by omega)
      obtain ⟨rb, b1, b2⟩ := all_same n (show 2000 < q by omega)
      obtain ⟨rc, c1, c2⟩ := check_same n s (By.of_wf hs) (by omega) (show 2000 < q by omega)
      have hla := orI_len n l a1
      rw [decide_eq_false h2, catamaranlaw03_BitsMade.j0, if_neg (by decide), Option.bind_some, if_pos (by simp; omega), Option.bind_some, Option.bind_some, if_pos (by simp; omega), Option.bind_some, List.nil_append, List.nil_append, a1, Option.bind_some, a2, Option.bind_some, b1, Option.bind_some, b2, Option.bind_some, if_pos rfl, if_pos rfl, if_pos rfl, if_pos rfl, c1, Option.bind_some, c2, Option.bind_some]
      obtain ⟨p, rfl⟩ : ∃ p, q = p + 1 := ⟨q - 1, by omega⟩
      rw [catamaranlaw03_BitsMade.j1, beq_self_eq_true]
      exact spoil_ok s l (by omega) ra.1.length 0 p ra.1 hla (by omega) (by omega)
end Go.Proofs.Ytammdlgpelljmaa.Pure
