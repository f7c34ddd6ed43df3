/- What num's laws ask, of numbers and lists: the four statements. -/
import Derived.Test.YtlgnnppmjcdncaaNumLib
namespace Go.Proofs.Ytlgnnppmjcdncaa.Pure
open Go.RowKit Go.Proofs.Ytlgnnppmjcdncaa.PNum Go.Proofs.YtlgnnppmjcdncaaW.PrintWords Go.Proofs.YtlgnnppmjcdncaaW.PrintLast Go.Proofs.Ytlgnnppmjcdncaa.NumMath Go.Proofs.Ytlgnnppmjcdncaa.Kit
theorem U64.of_wf {l : List Int} (h : ∀ x ∈ l, (Lit.int .u64 x).wf = true) : U64 l := by
  intro x hx
  have := h x hx
  simp [Lit.wf, IntKind.min, IntKind.max, IntKind.bits, IntKind.signed] at this
  omega
theorem read_len {b s : List Int} : (readI b s).1.length ≤ s.length := by
  have : ∀ (s b : List Int), (numsI b s).length = s.length := by
    intro s
    induction s with
    | nil => intro b; cases b <;> rfl
    | cons n s ih => intro b; simp [numsI, ih]
  unfold readI
  split
  · split
    · rw [this]; exact Nat.le_refl _
    · simp
  · simp
theorem write_By (l s : List Int) : By (writeI l s).1 := by
  unfold writeI
  split
  · split
    · exact rowI_By _ _
    · exact By.nil
  · exact By.nil
theorem write_len {l s : List Int} : (writeI l s).1.length ≤ 128 := by
  unfold writeI
  split
  · rename_i h
    split
    · have h1 := rowI_length h.2 h.1.2
      have h2 := sumI_bd h.1.2
      have h3 := h.1.1
      show (rowI l s).length ≤ 128
      omega
    · simp
  · simp
theorem num_alive {k : Nat} (hk : 500 < k) : catamaranlaw01_alive.f k = some true := by
  unfold catamaranlaw01_alive.f
  rw [write_ok (l := [258, 7]) (by decide), Option.bind_some, read_ok (b := [1, 2, 7]) (by unfold By; decide) (by omega), Option.bind_some, if_pos (by decide +kernel), if_pos (by decide +kernel), if_pos (by decide +kernel), same_ok (by decide +kernel) (by have : (readI [1, 2, 7] [2, 1]).1.length ≤ [2, 1].length := read_len; simp at this; omega), Option.bind_some]
  decide +kernel
theorem NumNames : catamaranlaw01_NumNames.Pure := by
  obtain ⟨k, hk⟩ : ∃ k : Nat, 5000 < k := ⟨5001, by omega⟩
  refine ⟨k, ?_⟩
  unfold catamaranlaw01_NumNames.f
  rw [write_ok (l := [256]) (by decide), Option.bind_some, write_ok (l := [1]) (by decide), Option.bind_some, read_ok (b := [1]) (by unfold By; decide) (by omega), Option.bind_some, write_ok (l := [1]) (by decide), Option.bind_some, if_pos (by decide), num_Size.told _ (by omega), Option.bind_some, write_ok (l := [18446744073709551615, 0]) (by decide), Option.bind_some, write_ok (l := []) (by decide), Option.bind_some, num_alive (by omega), Option.bind_some, if_pos rfl]
  decide +kernel
theorem NumBack : catamaranlaw01_NumBack.Pure := by
  intro l0 l1 l2 _ _ hw0 _ _ hw1 _ _ hw2
  have hU := U64.of_wf hw0
  have hB := By.of_wf hw1
  obtain ⟨k, hk⟩ : ∃ k : Nat, 5000 < k := ⟨5001, by omega⟩
  have ht : catamaranlaw01_NumBack.j0 (k + 2) l0 l1 l2 true true = some true := by rw [catamaranlaw01_NumBack.j0, if_pos rfl]
  have hf : l0.length ≤ 100 → l2.length ≤ 100 → catamaranlaw01_NumBack.j0 (k + 2) l0 l1 l2 true (!true) = some true := by
    intro hl0 hl2
    have key : catamaranlaw01_NumBack.j1 (k + 1) l1 l2 true false = some true := by
      rw [catamaranlaw01_NumBack.j1, if_neg (by decide), read_ok hB (by omega), Option.bind_some]
      unfold readI
      by_cases hs : okS l2
      · by_cases hl : (l1.length : Int) = sumI l2
        · obtain ⟨h1, h2, h3, h4⟩ := row_nums hB hs.2 hl
          rw [if_pos hs, if_pos hl]
          dsimp only
          have e : writeI (numsI l1 l2) l2 = (l1, 0) := by unfold writeI; rw [if_pos ⟨hs, h4⟩, if_pos h2, h1]
          rw [write_ok h3, Option.bind_some, if_pos rfl, if_pos rfl, e]
          dsimp only
          rw [if_pos rfl, if_pos rfl]
        · rw [if_pos hs, if_neg hl]
          dsimp only
          rw [write_ok (by decide), Option.bind_some, if_pos rfl, if_neg (by decide)]
          rfl
      · rw [if_neg hs]
        dsimp only
        rw [write_ok (by decide), Option.bind_some, if_pos rfl, if_neg (by decide)]
        rfl
    rw [catamaranlaw01_NumBack.j0, if_neg (by decide), write_ok hU, Option.bind_some, read_ok (write_By _ _) (by omega), Option.bind_some]
    by_cases h : okS l2 ∧ l0.length = l2.length
    · by_cases hfit : fitI l0 l2 = true
      · have e : writeI l0 l2 = (rowI l0 l2, 0) := by unfold writeI; rw [if_pos h, if_pos hfit]
        have e2 : readI (rowI l0 l2) l2 = (l0, 0) := by
          unfold readI
          rw [if_pos h.1, if_pos (rowI_length h.2 h.1.2), nums_row h.2 h.1.2 hU hfit]
        rw [e]
        dsimp only
        rw [e2]
        dsimp only
        rw [if_pos rfl, if_pos rfl, same_ok (by omega) (by omega), Option.bind_some, if_pos (decide_eq_true rfl)]
        exact key
      · have e : writeI l0 l2 = ([], 4) := by unfold writeI; rw [if_pos h, if_neg hfit]
        rw [e]
        dsimp only
        rw [if_neg (by decide)]
        exact key
    · have e : writeI l0 l2 = ([], 2) := by unfold writeI; rw [if_neg h]
      rw [e]
      dsimp only
      rw [if_neg (by decide)]
      exact key
  refine ⟨k + 2, ?_⟩
  unfold catamaranlaw01_NumBack.f
  rw [num_alive (by omega), Option.bind_some]
  by_cases h0 : (l0.length : Int) > 100
  · rw [if_pos h0]; exact ht
  · by_cases h1 : (l1.length : Int) > 100
    · rw [if_neg h0, if_pos h1]; exact ht
    · by_cases h2 : (l2.length : Int) > 100
      · rw [if_neg h0, if_neg h1, if_pos h2]; exact ht
      · rw [if_neg h0, if_neg h1, if_neg h2]
        exact hf (by omega) (by omega)
theorem NumJoined : catamaranlaw01_NumJoined.Pure := by
  intro l0 l1 l2 l3 _ _ hw0 _ _ hw1 _ _ _ _ _ _
  have hU0 := U64.of_wf hw0
  have hU1 := U64.of_wf hw1
  have hU : U64 (l0 ++ l1) := fun x hx => (List.mem_append.1 hx).elim (hU0 x) (hU1 x)
  obtain ⟨k, hk⟩ : ∃ k : Nat, 5000 < k := ⟨5001, by omega⟩
  have ht : catamaranlaw01_NumJoined.j0 (k + 2) l0 l1 l2 l3 true true = some true := by rw [catamaranlaw01_NumJoined.j0, if_pos rfl]
  have hf : l0.length ≤ 100 → l1.length ≤ 100 → l2.length ≤ 100 → l3.length ≤ 100 → catamaranlaw01_NumJoined.j0 (k + 2) l0 l1 l2 l3 true (!true) = some true := by
    intro h0 h1 h2 h3
    rw [catamaranlaw01_NumJoined.j0, if_neg (by decide), write_ok hU0, Option.bind_some, write_ok hU1, Option.bind_some, Option.bind_some, List.nil_append, if_pos (by rw [List.length_nil]; omega), Option.bind_some, if_pos (by omega), Option.bind_some, List.nil_append, if_pos (by rw [List.length_nil]; omega), Option.bind_some, if_pos (by omega), write_ok hU, Option.bind_some]
    by_cases ha : okS l2 ∧ l0.length = l2.length
    · by_cases hfa : fitI l0 l2 = true
      · have ea : writeI l0 l2 = (rowI l0 l2, 0) := by unfold writeI; rw [if_pos ha, if_pos hfa]
        rw [ea]
        dsimp only
        rw [if_pos rfl]
        by_cases hb : okS l3 ∧ l1.length = l3.length
        · by_cases hfb : fitI l1 l3 = true
          · have eb : writeI l1 l3 = (rowI l1 l3, 0) := by unfold writeI; rw [if_pos hb, if_pos hfb]
            rw [eb]
            dsimp only
            rw [if_pos rfl, w64 (by omega) (by omega)]
            by_cases h16 : (l2.length : Int) > 16 - (l3.length : Int)
            · rw [if_pos h16, if_pos rfl]
            · have hok : okS (l2 ++ l3) := ⟨by rw [List.length_append]; omega, fun n hn => (List.mem_append.1 hn).elim (ha.1.2 n) (hb.1.2 n)⟩
              have ec : writeI (l0 ++ l1) (l2 ++ l3) = (rowI l0 l2 ++ rowI l1 l3, 0) := by
                unfold writeI
                rw [if_pos ⟨hok, by rw [List.length_append, List.length_append, ha.2, hb.2]⟩, fitI_append ha.2, hfa, hfb, Bool.true_and, if_pos rfl, rowI_append ha.2]
              have hra := rowI_length ha.2 ha.1.2
              have hrb := rowI_length hb.2 hb.1.2
              have hsa := sumI_bd ha.1.2
              have hsb := sumI_bd hb.1.2
              rw [if_neg h16, if_pos rfl, ec]
              dsimp only
              rw [if_pos rfl, if_pos (by rw [strOfNums_size, strOfNums_size]; omega)]
              congr 1
              rw [beq_iff_eq]
              congr 1
              apply ByteArray.ext
              simp [strOfNums]
          · have eb : writeI l1 l3 = ([], 4) := by unfold writeI; rw [if_pos hb, if_neg hfb]
            rw [eb]
            dsimp only
            rw [if_neg (by decide), if_pos rfl]
        · have eb : writeI l1 l3 = ([], 2) := by unfold writeI; rw [if_neg hb]
          rw [eb]
          dsimp only
          rw [if_neg (by decide), if_pos rfl]
      · have ea : writeI l0 l2 = ([], 4) := by unfold writeI; rw [if_pos ha, if_neg hfa]
        rw [ea]
        dsimp only
        rw [if_neg (by decide), if_pos rfl]
        rfl
    · have ea : writeI l0 l2 = ([], 2) := by unfold writeI; rw [if_neg ha]
      rw [ea]
      dsimp only
      rw [if_neg (by decide), if_pos rfl]
      rfl
  refine ⟨k + 2, ?_⟩
  unfold catamaranlaw01_NumJoined.f
  rw [num_alive (by omega), Option.bind_some]
  by_cases h0 : (l0.length : Int) > 100
  · rw [if_pos h0]; exact ht
  · by_cases h1 : (l1.length : Int) > 100
    · rw [if_neg h0, if_pos h1]; exact ht
    · by_cases h2 : (l2.length : Int) > 100
      · rw [if_neg h0, if_neg h1, if_pos h2]; exact ht
      · by_cases h3 : (l3.length : Int) > 100
        · rw [if_neg h0, if_neg h1, if_neg h2, if_pos h3]; exact ht
        · rw [if_neg h0, if_neg h1, if_neg h2, if_neg h3]
          exact hf (by omega) (by omega) (by omega) (by omega)
theorem tells_l1 (x0 x1 x2 : List Int) (h0 : x0.length ≤ 1000) (h1 : x1.length ≤ 1000) (d : Nat) : ∀ (k i : Nat) (x18 : List Int), x18.length ≤ 1000000 → i + d = x18.length → d + 2000 < k → catamaranlaw01_NumTells.l1 k x0 x1 x2 x0 x1 x2 x18 true (i : Int) = some true := by
  induction d with
  | zero =>
    intro k i x18 hm hi hk
    obtain ⟨k, rfl⟩ : ∃ m, k = m + 1 := ⟨k - 1, by omega⟩
    rw [catamaranlaw01_NumTells.l1, if_neg (by omega), if_pos rfl, same_ok (by omega) (by omega), Option.bind_some, if_pos (decide_eq_true rfl), samei_refl (by omega) (by omega), Option.bind_some, if_pos rfl, str_refl]
  | succ d ih =>
    intro k i x18 hm hi hk
    obtain ⟨k, rfl⟩ : ∃ m, k = m + 1 := ⟨k - 1, by omega⟩
    rw [catamaranlaw01_NumTells.l1, if_pos (by omega), if_pos (by omega), w64 (by omega) (by omega), show ((i : Int) + 1) = ((i + 1 : Nat) : Int) by omega]
    exact ih k (i + 1) _ (by rw [List.length_set]; exact hm) (by rw [List.length_set]; omega) (by omega)
theorem tells_l0 (x0 x1 x2 x18 : List Int) (h0 : x0.length ≤ 1000) (h1 : x1.length ≤ 1000) (h18 : x18.length ≤ 1000000) (d : Nat) : ∀ (k i : Nat) (x14 : List Int), x14.length ≤ 1000000 → i + d = x14.length → d + x18.length + 2002 < k → catamaranlaw01_NumTells.l0 k x0 x1 x2 x0 x1 x2 x14 x18 true (i : Int) = some true := by
  induction d with
  | zero =>
    intro k i x14 hm hi hk
    obtain ⟨k, rfl⟩ : ∃ m, k = m + 1 := ⟨k - 1, by omega⟩
    rw [catamaranlaw01_NumTells.l0, if_neg (by omega)]
    exact tells_l1 x0 x1 x2 h0 h1 x18.length k 0 x18 h18 (by omega) (by omega)
  | succ d ih =>
    intro k i x14 hm hi hk
    obtain ⟨k, rfl⟩ : ∃ m, k = m + 1 := ⟨k - 1, by omega⟩
    rw [catamaranlaw01_NumTells.l0, if_pos (by omega), if_pos (by omega), w64 (by omega) (by omega), show ((i : Int) + 1) = ((i + 1 : Nat) : Int) by omega]
    exact ih k (i + 1) _ (by rw [List.length_set]; exact hm) (by rw [List.length_set]; omega) (by omega)
theorem NumTells : catamaranlaw01_NumTells.Pure := by
  intro l0 l1 l2 _ _ hw0 _ _ _ _ _ hw2
  have hU := U64.of_wf hw0
  have hB := By.of_wf hw2
  obtain ⟨k, hk⟩ : ∃ k : Nat, 9000 < k := ⟨9001, by omega⟩
  have ht : catamaranlaw01_NumTells.j0 (k + 3) l0 l1 l2 true = some true := by rw [catamaranlaw01_NumTells.j0, if_pos rfl]
  have hf : l0.length ≤ 100 → l1.length ≤ 100 → l2.length ≤ 100 → catamaranlaw01_NumTells.j0 (k + 3) l0 l1 l2 false = some true := by
    intro h0 h1 h2
    have hr := read_len (b := l2) (s := l1)
    have hwl := write_len (l := l0) (s := l1)
    rw [catamaranlaw01_NumTells.j0, if_neg (by decide), Option.bind_some, if_pos (by rw [List.length_nil]; omega), Option.bind_some, Option.bind_some, if_pos (by rw [List.length_nil]; omega), Option.bind_some, Option.bind_some, if_pos (by rw [List.length_nil]; omega), Option.bind_some, List.nil_append, List.nil_append, List.nil_append]
    rw [num_Size.told _ (by omega), Option.bind_some, rsize_ok _ (by omega), Option.bind_some, write_ok hU, Option.bind_some, rwrite_ok hU (by omega) (by omega), Option.bind_some, read_ok hB (by omega), Option.bind_some, rread_ok hB (by omega), Option.bind_some, if_pos rfl, if_pos rfl, if_pos rfl, if_pos rfl, same_ok (by omega) (by omega), Option.bind_some, if_pos (decide_eq_true rfl), show ((readI l2 l1).2 == (readI l2 l1).2) = true from beq_iff_eq.2 rfl, catamaranlaw01_NumTells.j1]
    exact tells_l0 l0 l1 l2 _ (by omega) (by omega) (by omega) (writeI l0 l1).1.length (k + 1) 0 _ (by omega) (by omega) (by omega)
  refine ⟨k + 3, ?_⟩
  unfold catamaranlaw01_NumTells.f
  by_cases h0 : (l0.length : Int) > 100
  · rw [if_pos h0]; exact ht
  · by_cases h1 : (l1.length : Int) > 100
    · rw [if_neg h0, if_pos h1]; exact ht
    · rw [if_neg h0, if_neg h1]
      by_cases h2 : (l2.length : Int) > 100
      · rw [decide_eq_true h2]; exact ht
      · rw [decide_eq_false h2]; exact hf (by omega) (by omega) (by omega)
end Go.Proofs.Ytlgnnppmjcdncaa.Pure
