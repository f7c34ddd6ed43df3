/- What requests' and replies' texts are, and what is read of texts. -/
import Derived.Test.YtanpdbdpphdblaaRqLib
namespace Go.Proofs.Ytanpdbdpphdblaa.PRq
open Go.RowKit Go.Proofs.YtanpdbdpphdblaaW.PrintWords Go.Proofs.YtanpdbdpphdblaaW.PrintLast Go.Proofs.Ytanpdbdpphdblaa.CrcMath Go.Proofs.Ytanpdbdpphdblaa.NumMath Go.Proofs.Ytanpdbdpphdblaa.Kit
def U8 (x : Int) : Prop := 0 ≤ x ∧ x < 256
theorem U8.of_wf {x : Int} (h : (Lit.int .u8 x).wf = true) : U8 x := by
  simp [Lit.wf, IntKind.min, IntKind.max, IntKind.bits, IntKind.signed] at h
  unfold U8; omega
def reqI (a b : Int) : List Int := sealI [199, 1, a, b]
theorem By_req0 {a b : Int} (ha : U8 a) (hb : U8 b) : By [199, 1, a, b] := by
  unfold U8 at ha hb
  intro x hx
  simp only [List.mem_cons, List.not_mem_nil, or_false] at hx
  rcases hx with rfl | rfl | rfl | rfl <;> omega
theorem By_req {a b : Int} (ha : U8 a) (hb : U8 b) : By (reqI a b) := By_seal (By_req0 ha hb)
theorem req_length {a b : Int} : (reqI a b).length = 8 := seal_length _
theorem write_req {a b : Int} (ha : U8 a) (hb : U8 b) {k : Nat} (hk : 100 < k) : req_Write.f k a b = some (reqI a b) := by
  unfold req_Write.f
  rw [seal_ok (By_req0 ha hb) (by simp) (by simp; omega), Option.bind_some]
  rfl
theorem four {c : List Int} (h : c.length = 4) : ∃ x y z w, c = [x, y, z, w] := by
  rcases c with _ | ⟨x, _ | ⟨y, _ | ⟨z, _ | ⟨w, _ | ⟨v, r⟩⟩⟩⟩⟩ <;> simp at h
  exact ⟨x, y, z, w, rfl⟩
theorem read_req {t : List Int} (ht : By t) (hl : t.length ≤ 200) {k : Nat} (hk : 300 < k) :
    ∃ a b e, req_Read.f k t = some (a, b, e) ∧ (e = 0 → U8 a ∧ U8 b ∧ reqI a b = t) ∧ ∀ a' b', U8 a' → U8 b' → t = reqI a' b' → (a, b, e) = (a', b', 0) := by
  unfold req_Read.f
  by_cases h1 : (t.length : Int) < 8
  · rw [if_pos h1]
    refine ⟨0, 0, 10, rfl, fun h => (by cases h), fun a b _ _ h => ?_⟩
    rw [h, req_length] at h1
    omega
  · by_cases h2 : (t.length : Int) > 8
    · rw [if_neg h1, if_pos h2]
      refine ⟨0, 0, 4, rfl, fun h => (by cases h), fun a b _ _ h => ?_⟩
      rw [h, req_length] at h2
      omega
    · rw [if_neg h1, if_neg h2, open_ok ht (by omega) (by omega), Option.bind_some]
      by_cases h3 : (openI t).2 = 0
      · obtain ⟨hs, _⟩ := open_more h3
        have hbo := open_By ht
        obtain ⟨c, hc⟩ : ∃ c, c = (openI t).1 := ⟨_, rfl⟩
        rw [← hc] at hs hbo ⊢
        have hcl := seal_length c
        rw [hs] at hcl
        obtain ⟨x, y, z, w, rfl⟩ := four (c := c) (by omega)
        have hz := hbo z (by simp)
        have hw := hbo w (by simp)
        rw [if_pos h3, if_pos (show [x, y, z, w].length = 4 from rfl), show rd [x, y, z, w] 0 = x from rfl, show rd [x, y, z, w] 1 = y from rfl, show rd [x, y, z, w] 2 = z from rfl, show rd [x, y, z, w] 3 = w from rfl]
        have huniq : ∀ a' b', t = reqI a' b' → x = 199 ∧ y = 1 ∧ z = a' ∧ w = b' := by
          intro a' b' h
          have h5 : openI (reqI a' b') = ([199, 1, a', b'], 0) := open_seal (by simp)
          rw [← h] at h5
          rw [h5] at hc
          simp only [List.cons.injEq, and_true] at hc
          exact hc
        by_cases h4 : x = 199
        · by_cases h5 : y = 1
          · rw [if_pos h4, if_pos h5]
            refine ⟨z, w, 0, rfl, fun _ => ⟨hz, hw, ?_⟩, fun a' b' _ _ h => ?_⟩
            · rw [← hs, h4, h5]; rfl
            · obtain ⟨_, _, rfl, rfl⟩ := huniq a' b' h
              rfl
          · rw [if_pos h4, if_neg h5]
            exact ⟨0, 0, 281, rfl, fun h => (by cases h), fun a' b' _ _ h => absurd (huniq a' b' h).2.1 h5⟩
        · rw [if_neg h4]
          exact ⟨0, 0, 280, rfl, fun h => (by cases h), fun a' b' _ _ h => absurd (huniq a' b' h).1 h4⟩
      · rw [if_neg h3]
        refine ⟨0, 0, (openI t).2, rfl, fun h => absurd h h3, fun a' b' _ _ h => ?_⟩
        have h5 : openI (reqI a' b') = ([199, 1, a', b'], 0) := open_seal (by simp)
        rw [← h] at h5
        rw [h5] at h3
        exact absurd rfl h3
/-- A reply's text. -/
def headI (c s n : Int) : List Int := rowI [c, s, n] [2, 1, 1]
def tellI (c s : Int) (b : List Int) : List Int := sealI (headI c s (b.length : Int) ++ b)
theorem okS3 : okS [2, 1, 1] := ⟨by decide, by decide⟩
theorem head_length {c s n : Int} : (headI c s n).length = 4 := by
  have h := rowI_length (l := [c, s, n]) (s := [2, 1, 1]) rfl okS3.2
  have h2 : sumI [2, 1, 1] = 4 := by decide
  unfold headI
  omega
theorem By_tell {c s : Int} {b : List Int} (hb : By b) : By (tellI c s b) := By_seal (By.append (rowI_By _ _) hb)
theorem tell_length {c s : Int} {b : List Int} : (tellI c s b).length = b.length + 8 := by
  have := head_length (c := c) (s := s) (n := (b.length : Int))
  unfold tellI
  rw [seal_length, List.length_append]
  omega
theorem fit3 {c s n : Int} (hc : 0 ≤ c ∧ c ≤ 65535) (hs : U8 s) (hn : U8 n) : fitI [c, s, n] [2, 1, 1] = true := by
  unfold U8 at hs hn
  have h1 : decide (c.toNat / 256 ^ (2 : Int).toNat = 0) = true := decide_eq_true (Nat.div_eq_of_lt (show c.toNat < 256 ^ 2 by omega))
  have h2 : decide (s.toNat / 256 ^ (1 : Int).toNat = 0) = true := decide_eq_true (Nat.div_eq_of_lt (show s.toNat < 256 ^ 1 by omega))
  have h3 : decide (n.toNat / 256 ^ (1 : Int).toNat = 0) = true := decide_eq_true (Nat.div_eq_of_lt (show n.toNat < 256 ^ 1 by omega))
  simp only [fitI, h1, h2, h3, Bool.and_self]
theorem U643 {c s n : Int} (hc : 0 ≤ c ∧ c ≤ 65535) (hs : U8 s) (hn : U8 n) : U64 [c, s, n] := by
  unfold U8 at hs hn
  intro x hx
  simp only [List.mem_cons, List.not_mem_nil, or_false] at hx
  rcases hx with rfl | rfl | rfl <;> omega
theorem len8 {b : List Int} (h : b.length ≤ 64) : U8 (b.length : Int) := ⟨by omega, by omega⟩
theorem tell_ok (a : Int) {c s : Int} {b : List Int} (hs : U8 s) (hb : By b) {k : Nat} (hk : 300 < k) :
    req_Tell.f k a c s b = some (if b.length > 64 then ([], 4) else if 0 ≤ c ∧ c ≤ 65535 then (tellI c s b, 0) else ([], 2)) := by
  obtain ⟨k, rfl⟩ : ∃ m, k = m + 1 := ⟨k - 1, by omega⟩
  unfold req_Tell.f
  by_cases h1 : b.length > 64
  · rw [if_pos (by omega), if_pos h1]
  · rw [if_neg (by omega), if_neg h1]
    by_cases h2 : c < 0
    · rw [if_pos h2, if_neg (by omega), req_Tell.j0, if_pos rfl]
    · by_cases h3 : c > 65535
      · rw [if_neg h2, if_neg (by omega), req_Tell.j0, if_pos (decide_eq_true h3)]
      · have hc : 0 ≤ c ∧ c ≤ 65535 := ⟨by omega, by omega⟩
        have hn := len8 (b := b) (by omega)
        have hw : writeI [c, s, (b.length : Int)] [2, 1, 1] = (headI c s (b.length : Int), 0) := by
          unfold writeI
          rw [if_pos ⟨okS3, rfl⟩, if_pos (fit3 hc hs hn)]
          rfl
        have hlen := head_length (c := c) (s := s) (n := (b.length : Int))
        have h4 := U643 hc hs hn
        have hs2 := hs
        unfold U8 at hs2
        rw [if_neg h2, if_pos hc, req_Tell.j0, if_neg (by simpa using h3), show req_sizes.f = some [2, 1, 1] from rfl, Option.bind_some, u64_id (by omega) (by omega), u64_id (by omega) (by omega), u64_id (by omega) (by omega), write_ok h4, Option.bind_some, hw]
        dsimp only
        rw [if_pos (by omega), seal_ok (l := headI c s (b.length : Int) ++ b) (By.append (rowI_By _ _) hb) (by rw [List.length_append]; omega) (by rw [List.length_append]; omega), Option.bind_some]
        rfl
theorem nums3 (c : List Int) : numsI c [2, 1, 1] = [numI (c.take 2), numI ((c.drop 2).take 1), numI (((c.drop 2).drop 1).take 1)] := rfl
theorem told_ok {t : List Int} (ht : By t) (hl : t.length ≤ 200) {k : Nat} (hk : 500 < k) :
    ∃ c s b e, req_Told.f k t = some (0, c, s, b, e) ∧ U8 s ∧ By b ∧ (e = 0 → b.length ≤ 64 ∧ (0 ≤ c ∧ c ≤ 65535) ∧ tellI c s b = t) ∧ ∀ c' s' b', U8 s' → By b' → b'.length ≤ 64 → 0 ≤ c' ∧ c' ≤ 65535 → t = tellI c' s' b' → (c, s, b, e) = (c', s', b', 0) := by
  have z : U8 0 := ⟨by decide, by decide⟩
  unfold req_Told.f
  by_cases h1 : (t.length : Int) < 8
  · rw [if_pos h1]
    refine ⟨0, 0, [], 10, rfl, z, By.nil, fun h => (by cases h), fun c' s' b' _ _ _ _ h => ?_⟩
    rw [h, tell_length] at h1
    omega
  · by_cases h2 : (t.length : Int) > 72
    · rw [if_neg h1, if_pos h2]
      refine ⟨0, 0, [], 4, rfl, z, By.nil, fun h => (by cases h), fun c' s' b' _ _ _ _ h => ?_⟩
      rw [h, tell_length] at h2
      omega
    · rw [if_neg h1, if_neg h2, open_ok ht (by omega) (by omega), Option.bind_some]
      by_cases h3 : (openI t).2 = 0
      · obtain ⟨hs, _⟩ := open_more h3
        have hbo := open_By ht
        obtain ⟨c, hc⟩ : ∃ c, c = (openI t).1 := ⟨_, rfl⟩
        rw [← hc] at hs hbo ⊢
        have hcl := seal_length c
        rw [hs] at hcl
        have h4 : (c.take 4).length = 4 := by rw [List.length_take]; omega
        have hb4 := hbo.take 4
        have hsum : ((c.take 4).length : Int) = sumI [2, 1, 1] := by rw [h4]; decide
        have hr : readI (c.take 4) [2, 1, 1] = (numsI (c.take 4) [2, 1, 1], 0) := by
          unfold readI
          rw [if_pos okS3, if_pos hsum]
        obtain ⟨hrow, _, _, _⟩ := row_nums hb4 okS3.2 hsum
        rw [if_pos h3, if_pos ⟨by omega, by omega⟩, read_ok hb4 (by omega), hr, Option.bind_some]
        rw [nums3] at hrow ⊢
        have l1 : ((c.take 4).take 2).length = 2 := by rw [List.length_take]; omega
        have l2 : (((c.take 4).drop 2).take 1).length = 1 := by rw [List.length_take, List.length_drop]; omega
        have l3 : ((((c.take 4).drop 2).drop 1).take 1).length = 1 := by rw [List.length_take, List.length_drop, List.length_drop]; omega
        have u1 := numI_bd (hb4.take 2)
        have u2 := numI_bd ((hb4.drop 2).take 1)
        have u3 := numI_bd (((hb4.drop 2).drop 1).take 1)
        rw [l1] at u1
        rw [l2] at u2
        rw [l3] at u3
        obtain ⟨m, hm⟩ : ∃ x, x = numI ((c.take 4).take 2) := ⟨_, rfl⟩
        obtain ⟨s, hss⟩ : ∃ x, x = numI (((c.take 4).drop 2).take 1) := ⟨_, rfl⟩
        obtain ⟨n, hn⟩ : ∃ x, x = numI ((((c.take 4).drop 2).drop 1).take 1) := ⟨_, rfl⟩
        rw [← hm, ← hss, ← hn] at hrow
        rw [← hm] at u1
        rw [← hss] at u2
        rw [← hn] at u3
        have u1' : 0 ≤ m ∧ m ≤ 65535 := ⟨u1.1, by have := u1.2; simp at this; omega⟩
        have u2' : U8 s := ⟨u2.1, by have := u2.2; simp at this; omega⟩
        have hmod : s % 256 = s := Int.emod_eq_of_lt u2'.1 u2'.2
        have huniq : ∀ c' s' b', U8 s' → By b' → b'.length ≤ 64 → 0 ≤ c' ∧ c' ≤ 65535 → t = tellI c' s' b' → m = c' ∧ s = s' ∧ n = (b'.length : Int) ∧ c.drop 4 = b' := by
          intro c' s' b' k1 k2 k3 k4 he
          have hh := head_length (c := c') (s := s') (n := (b'.length : Int))
          have h5 : openI (tellI c' s' b') = (headI c' s' (b'.length : Int) ++ b', 0) := open_seal (by rw [List.length_append]; omega)
          rw [← he] at h5
          rw [h5] at hc
          have e1 : c.take 4 = headI c' s' (b'.length : Int) := by rw [hc]; exact List.take_left' hh
          have e2 : c.drop 4 = b' := by rw [hc]; exact List.drop_left' hh
          have e3 := nums_row (l := [c', s', (b'.length : Int)]) (s := [2, 1, 1]) rfl okS3.2 (U643 k4 k1 (len8 k3)) (fit3 k4 k1 (len8 k3))
          have e4 : numsI (c.take 4) [2, 1, 1] = [c', s', (b'.length : Int)] := by rw [e1]; exact e3
          rw [nums3, ← hm, ← hss, ← hn] at e4
          simp only [List.cons.injEq, and_true] at e4
          exact ⟨e4.1, e4.2.1, e4.2.2, e2⟩
        have hrd : rd [m, s, n] 0 = m ∧ rd [m, s, n] 1 = s ∧ rd [m, s, n] 2 = n := ⟨rfl, rfl, rfl⟩
        have hdl : (c.drop 4).length = c.length - 4 := List.length_drop
        rw [← hm, ← hss, ← hn]
        dsimp only
        rw [if_pos ⟨show [m, s, n].length = 3 from rfl, by rw [hrd.1]; omega, by rw [hrd.1]; omega⟩, hrd.1, hrd.2.1, hrd.2.2, hmod]
        by_cases h6 : n = (c.length : Int) - 4
        · rw [if_pos h6]
          refine ⟨m, s, c.drop 4, 0, rfl, u2', hbo.drop 4, fun _ => ⟨by omega, u1', ?_⟩, fun c' s' b' k1 k2 k3 k4 he => ?_⟩
          · unfold tellI headI
            rw [show ((c.drop 4).length : Int) = n by omega, hrow, List.take_append_drop, hs]
          · obtain ⟨rfl, rfl, _, rfl⟩ := huniq c' s' b' k1 k2 k3 k4 he
            rfl
        · rw [if_neg h6]
          refine ⟨0, 0, [], 280, rfl, z, By.nil, fun h => (by cases h), fun c' s' b' k1 k2 k3 k4 he => ?_⟩
          obtain ⟨_, _, e3, e4⟩ := huniq c' s' b' k1 k2 k3 k4 he
          rw [← e4] at e3
          omega
      · rw [if_neg h3]
        refine ⟨0, 0, [], (openI t).2, rfl, z, By.nil, fun h => absurd h h3, fun c' s' b' k1 k2 k3 k4 he => ?_⟩
        have hh := head_length (c := c') (s := s') (n := (b'.length : Int))
        have h5 : openI (tellI c' s' b') = (headI c' s' (b'.length : Int) ++ b', 0) := open_seal (by rw [List.length_append]; omega)
        rw [← he] at h5
        rw [h5] at h3
        exact absurd rfl h3
theorem same_reply {a c s : Int} {b : List Int} : catamaranref21_SameReply.f a c s b a c s b = some true := by
  unfold catamaranref21_SameReply.f
  rw [if_pos rfl, if_pos rfl, if_pos rfl, str_refl]
theorem req_alive {k : Nat} (hk : 600 < k) : catamaranlaw28_alive.f k = some true := by
  obtain ⟨k, rfl⟩ : ∃ m, k = m + 600 := ⟨k - 600, by omega⟩
  have h0 : catamaranlaw28_alive.f 600 = some true := by decide +kernel
  clear hk
  induction k with
  | zero => rw [Nat.zero_add]; exact h0
  | succ k ih => rw [show k + 1 + 600 = k + 600 + 1 by omega]; exact catamaranlaw28_alive.mono _ _ ih
end Go.Proofs.Ytanpdbdpphdblaa.PRq
namespace Go.Proofs.Ytanpdbdpphdblaa.Pure
open Go.RowKit Go.Proofs.Ytanpdbdpphdblaa.PRq Go.Proofs.YtanpdbdpphdblaaW.PrintWords Go.Proofs.YtanpdbdpphdblaaW.PrintLast Go.Proofs.Ytanpdbdpphdblaa.CrcMath Go.Proofs.Ytanpdbdpphdblaa.NumMath Go.Proofs.Ytanpdbdpphdblaa.Kit
theorem back_j1 {t : List Int} (ht : By t) (hl : t.length ≤ 200) {k : Nat} (hk : 600 < k) : catamaranlaw28_ReqBack.j1 k t true false = some true := by
  obtain ⟨k, rfl⟩ : ∃ m, k = m + 1 := ⟨k - 1, by omega⟩
  obtain ⟨a, b, e, hr, hr0, _⟩ := read_req ht hl (k := k) (by omega)
  obtain ⟨c, s, d, e2, ht2, hs, hd, h0, _⟩ := told_ok ht hl (k := k) (by omega)
  rw [catamaranlaw28_ReqBack.j1, if_neg (by decide), hr, Option.bind_some, ht2, Option.bind_some]
  dsimp only
  rw [tell_ok 0 hs hd (by omega), Option.bind_some, if_pos rfl]
  have hfin : (if e2 = 0 then (if (if d.length > 64 then (([], 4) : List Int × Int) else if 0 ≤ c ∧ c ≤ 65535 then (tellI c s d, 0) else ([], 2)).2 = 0 then some ((strOfNums (if d.length > 64 then (([], 4) : List Int × Int) else if 0 ≤ c ∧ c ≤ 65535 then (tellI c s d, 0) else ([], 2)).1).toList == (strOfNums t).toList) else some false) else some true) = some true := by
    by_cases h : e2 = 0
    · obtain ⟨h1, h2, h3⟩ := h0 h
      have hv : (if d.length > 64 then (([], 4) : List Int × Int) else if 0 ≤ c ∧ c ≤ 65535 then (tellI c s d, 0) else ([], 2)) = (tellI c s d, 0) := by rw [if_neg (by omega), if_pos h2]
      rw [if_pos h, hv, if_pos rfl, h3, str_refl]
    · rw [if_neg h]
  by_cases he : e = 0
  · obtain ⟨h1, h2, h3⟩ := hr0 he
    rw [if_pos he, write_req h1 h2 (by omega), Option.bind_some, h3, if_pos rfl]
    exact hfin
  · rw [if_neg he]
    exact hfin
theorem ReqBack : catamaranlaw28_ReqBack.Pure := by
  intro a b q c s d t wa wb _ _ ws wd wt
  have ha := U8.of_wf wa
  have hb := U8.of_wf wb
  have hs := U8.of_wf ws
  have hd := By.of_wf wd.2
  have ht := By.of_wf wt.2
  obtain ⟨k, hk⟩ : ∃ k : Nat, 5000 < k := ⟨5001, by omega⟩
  refine ⟨k + 1, ?_⟩
  have hend : catamaranlaw28_ReqBack.j0 (k + 1) a b t true true q c s d = some true := by rw [catamaranlaw28_ReqBack.j0, if_pos rfl]
  unfold catamaranlaw28_ReqBack.f
  rw [req_alive (by omega), Option.bind_some]
  by_cases h1 : (d.length : Int) > 200
  · rw [if_pos h1]; exact hend
  · by_cases h2 : (t.length : Int) > 200
    · rw [if_neg h1, if_pos h2]; exact hend
    · have hrl := req_length (a := a) (b := b)
      obtain ⟨x, y, e, hr, _, hu⟩ := read_req (By_req ha hb) (by omega) (k := k) (by omega)
      have hu := hu a b ha hb rfl
      simp only [Prod.mk.injEq] at hu
      obtain ⟨rfl, rfl, rfl⟩ := hu
      rw [if_neg h1, if_neg h2, catamaranlaw28_ReqBack.j0, if_neg (by decide), write_req ha hb (by omega), Option.bind_some, hr, Option.bind_some, tell_ok q hs hd (by omega), Option.bind_some]
      by_cases h3 : d.length > 64
      · obtain ⟨c', s', d', e', ht2, _⟩ := told_ok (t := []) By.nil (by simp) (k := k) (by omega)
        rw [if_pos h3, ht2, Option.bind_some]
        dsimp only
        rw [if_pos rfl, if_pos rfl, if_pos rfl, if_neg (by decide)]
        exact back_j1 ht (by omega) (by omega)
      · by_cases h4 : 0 ≤ c ∧ c ≤ 65535
        · have htl := tell_length (c := c) (s := s) (b := d)
          obtain ⟨c', s', d', e', ht2, _, _, _, hu2⟩ := told_ok (By_tell (c := c) (s := s) hd) (by omega) (k := k) (by omega)
          have hu2 := hu2 c s d hs hd (by omega) h4 rfl
          simp only [Prod.mk.injEq] at hu2
          obtain ⟨rfl, rfl, rfl, rfl⟩ := hu2
          rw [if_neg h3, if_pos h4, ht2, Option.bind_some]
          dsimp only
          rw [if_pos rfl, if_pos rfl, if_pos rfl, if_pos rfl, if_pos rfl, same_reply, Option.bind_some, if_pos rfl]
          exact back_j1 ht (by omega) (by omega)
        · obtain ⟨c', s', d', e', ht2, _⟩ := told_ok (t := []) By.nil (by simp) (k := k) (by omega)
          rw [if_neg h3, if_neg h4, ht2, Option.bind_some]
          dsimp only
          rw [if_pos rfl, if_pos rfl, if_pos rfl, if_neg (by decide)]
          exact back_j1 ht (by omega) (by omega)
theorem ReqNames : catamaranlaw28_ReqNames.Pure := ⟨700, by decide +kernel⟩
end Go.Proofs.Ytanpdbdpphdblaa.Pure
