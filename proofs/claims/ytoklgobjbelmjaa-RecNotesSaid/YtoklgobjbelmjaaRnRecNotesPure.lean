/- A record's note, and whether a record may be: the program's and the document's. -/
import Derived.Test.YtoklgobjbelmjaaRnLib
namespace Go.Proofs.Ytoklgobjbelmjaa.PRn
open Go.RowKit Go.Proofs.YtoklgobjbelmjaaW.PrintWords Go.Proofs.YtoklgobjbelmjaaW.PrintLast Go.Proofs.Ytoklgobjbelmjaa.NumMath Go.Proofs.Ytoklgobjbelmjaa.Kit
theorem may_ok (k : Nat) (p b e l ph f : Int) (q a : Bool) : catamaranref11_May.f (k + 1) p b e l ph f q a = some (V p b e l ph f q) := by
  have J (x : Bool) : catamaranref11_May.j0 (k + 1) x p b e l ph f q a = some (!x && (ph == 1 || (ph == 2 || ph == 3) && f == l) && (!q || f != l)) := by
    rw [catamaranref11_May.j0]
    cases x with
    | true => rw [if_pos rfl]; rfl
    | false =>
      rw [if_neg (by decide)]
      by_cases h1 : ph < 1
      · rw [if_pos h1]
        have h2 : (ph == 1) = false := by rw [beq_eq_false_iff_ne]; omega
        have h3 : (ph == 2) = false := by rw [beq_eq_false_iff_ne]; omega
        have h4 : (ph == 3) = false := by rw [beq_eq_false_iff_ne]; omega
        rw [h2, h3, h4]; rfl
      · by_cases h5 : ph > 3
        · rw [if_neg h1, if_pos h5]
          have h2 : (ph == 1) = false := by rw [beq_eq_false_iff_ne]; omega
          have h3 : (ph == 2) = false := by rw [beq_eq_false_iff_ne]; omega
          have h4 : (ph == 3) = false := by rw [beq_eq_false_iff_ne]; omega
          rw [h2, h3, h4]; rfl
        · rw [if_neg h1, if_neg h5]
          rcases (by omega : ph = 1 ∨ ph = 2 ∨ ph = 3) with rfl | rfl | rfl <;> cases q <;> by_cases hf : f = l <;> simp [hf]
  rw [catamaranref11_May.f]
  simp only [J]
  by_cases h1 : p < 0
  · rw [if_pos h1]
    simp [V, show ¬ 0 ≤ p by omega]
  · by_cases h2 : p ≥ 3
    · rw [if_neg h1, if_pos h2]
      simp [V, show ¬ p < 3 by omega]
    · by_cases h3 : b < 1
      · rw [if_neg h1, if_neg h2, if_pos h3]
        simp [V, show ¬ 0 < b by omega]
      · by_cases h4 : e < 1
        · rw [if_neg h1, if_neg h2, if_neg h3, if_pos h4]
          simp [V, show ¬ 0 < e by omega]
        · by_cases h5 : l < 0
          · rw [if_neg h1, if_neg h2, if_neg h3, if_neg h4, if_pos h5]
            simp [V, show ¬ l = 0 by omega, show ¬ l = 1 by omega]
          · by_cases h6 : l > 1
            · rw [if_neg h1, if_neg h2, if_neg h3, if_neg h4, if_neg h5, if_pos h6]
              simp [V, show ¬ l = 0 by omega, show ¬ l = 1 by omega]
            · have hl : (l == 0 || l == 1) = true := by simp; omega
              by_cases h7 : f < 0
              · rw [if_neg h1, if_neg h2, if_neg h3, if_neg h4, if_neg h5, if_neg h6, if_pos h7]
                simp [V, show ¬ f = 0 by omega, show ¬ f = 1 by omega]
              · rw [if_neg h1, if_neg h2, if_neg h3, if_neg h4, if_neg h5, if_neg h6, if_neg h7]
                by_cases h8 : f > 1
                · simp [V, h8, show ¬ f = 0 by omega, show ¬ f = 1 by omega]
                · have hf : (f == 0 || f == 1) = true := by simp; omega
                  have a1 : decide (0 ≤ p) = true := decide_eq_true (by omega)
                  have a2 : decide (p < 3) = true := decide_eq_true (by omega)
                  have a3 : decide (0 < b) = true := decide_eq_true (by omega)
                  have a4 : decide (0 < e) = true := decide_eq_true (by omega)
                  have a5 : decide (f > 1) = false := decide_eq_false h8
                  unfold V
                  rw [hl, hf, a1, a2, a3, a4, a5]
                  simp only [Bool.not_false, Bool.true_and, Bool.and_true]
def fl (q a : Bool) : Int := (if q = true then 2 else 0) + (if a = true then 1 else 0)
def recL (p b e l ph f : Int) (q a : Bool) : List Int := [1, p, b, e, l, ph, f, fl q a]
def recS : List Int := [1, 1, 4, 4, 1, 1, 1, 1]
theorem okS8 : okS recS := ⟨by decide, by decide⟩
theorem fl_bd (q a : Bool) : 0 ≤ fl q a ∧ fl q a ≤ 3 := by cases q <;> cases a <;> decide
theorem V_bd {p b e l ph f : Int} {q : Bool} (h : V p b e l ph f q = true) : (0 ≤ p ∧ p < 3) ∧ (0 ≤ l ∧ l ≤ 1) ∧ (0 ≤ f ∧ f ≤ 1) ∧ 1 ≤ ph ∧ ph ≤ 3 := by
  simp only [V, Bool.and_eq_true, Bool.or_eq_true, decide_eq_true_eq, beq_iff_eq] at h
  omega
theorem rec_fit {p b e l ph f : Int} {q a : Bool} (h : V p b e l ph f q = true) (hb : 0 ≤ b ∧ b < 4294967296) (he : 0 ≤ e ∧ e < 4294967296) : fitI (recL p b e l ph f q a) recS = true := by
  obtain ⟨h1, h2, h3, h4⟩ := V_bd h
  have h5 := fl_bd q a
  have f1 : ∀ x : Int, 0 ≤ x ∧ x ≤ 3 → decide (x.toNat / 256 ^ (1 : Int).toNat = 0) = true := fun x hx => decide_eq_true (Nat.div_eq_of_lt (show x.toNat < 256 ^ 1 by omega))
  have f4 : ∀ x : Int, 0 ≤ x ∧ x < 4294967296 → decide (x.toNat / 256 ^ (4 : Int).toNat = 0) = true := fun x hx => decide_eq_true (Nat.div_eq_of_lt (show x.toNat < 256 ^ 4 by omega))
  simp only [recL, recS, fitI, f1 1 (by omega), f1 p (by omega), f4 b hb, f4 e he, f1 l (by omega), f1 ph (by omega), f1 f (by omega), f1 (fl q a) h5, Bool.and_self]
theorem rec_U64 {p b e l ph f : Int} {q a : Bool} (h : V p b e l ph f q = true) (hb : 0 ≤ b ∧ b < 4294967296) (he : 0 ≤ e ∧ e < 4294967296) : U64 (recL p b e l ph f q a) := by
  obtain ⟨h1, h2, h3, h4⟩ := V_bd h
  have h5 := fl_bd q a
  intro x hx
  simp only [recL, List.mem_cons, List.not_mem_nil, or_false] at hx
  rcases hx with rfl | rfl | rfl | rfl | rfl | rfl | rfl | rfl <;> omega
theorem row_ok {l s : List Int} (hl : l.length = s.length) (hU : U64 l) (hs : okS s) {k : Nat} (hk : l.length + 9 < k) : catamaranref01_Row.f k l s = some (rowI l s) := by
  unfold catamaranref01_Row.f
  exact rrow_l l s hl hU hs l.length k 0 (by omega) hk
theorem wraps {p b e l ph f x : Int} {q : Bool} (h : V p b e l ph f q = true) (hb : 0 ≤ b ∧ b < 4294967296) (he : 0 ≤ e ∧ e < 4294967296) : [1, IntKind.u64.wrap p, IntKind.u64.wrap b, IntKind.u64.wrap e, IntKind.u64.wrap l, IntKind.u64.wrap ph, IntKind.u64.wrap f, x] = [1, p, b, e, l, ph, f, x] := by
  obtain ⟨h1, h2, h3, h4⟩ := V_bd h
  rw [u64_id (by omega) (by omega), u64_id (by omega) (by omega), u64_id (by omega) (by omega), u64_id (by omega) (by omega), u64_id (by omega) (by omega), u64_id (by omega) (by omega)]
theorem rec_write {p b e l ph f : Int} {q a : Bool} (h : V p b e l ph f q = true) (hb : 0 ≤ b ∧ b < 4294967296) (he : 0 ≤ e ∧ e < 4294967296) : num_Write.f (recL p b e l ph f q a) recS = some (rowI (recL p b e l ph f q a) recS, 0) := by
  rw [write_ok (rec_U64 h hb he), writeI, if_pos ⟨okS8, rfl⟩, if_pos (rec_fit h hb he)]
theorem note_ok {p b e l ph f : Int} {q a : Bool} (hb : 0 ≤ b ∧ b < 4294967296) (he : 0 ≤ e ∧ e < 4294967296) {k : Nat} (hk : 100 < k) :
    rec_Note.f k p b e l ph f q a = some (if V p b e l ph f q = true then (rowI (recL p b e l ph f q a) recS, 0) else ([], 110)) := by
  obtain ⟨k, rfl⟩ : ∃ m, k = m + 3 := ⟨k - 3, by omega⟩
  unfold rec_Note.f
  rw [check_ok, Option.bind_some]
  by_cases h : V p b e l ph f q = true
  · rw [if_pos h, if_pos rfl, if_pos h]
    have hs : rec_sizes.f = some recS := rfl
    have hw := fun x => wraps (x := x) h hb he
    have hr := rec_write (a := a) h hb he
    cases q <;> cases a
    · rw [if_neg (by decide), rec_Note.j0, if_neg (by decide), hs, Option.bind_some, hw, show ([1, p, b, e, l, ph, f, 0] : List Int) = recL p b e l ph f false false from rfl, hr, Option.bind_some]
    · rw [if_neg (by decide), rec_Note.j0, if_pos rfl, hs, Option.bind_some, hw, show ([1, p, b, e, l, ph, f, Go.bits .or .u64 0 1] : List Int) = recL p b e l ph f false true from rfl, hr, Option.bind_some]
    · rw [if_pos rfl, rec_Note.j0, if_neg (by decide), hs, Option.bind_some, hw, show ([1, p, b, e, l, ph, f, Go.bits .or .u64 0 2] : List Int) = recL p b e l ph f true false from rfl, hr, Option.bind_some]
    · rw [if_pos rfl, rec_Note.j0, if_pos rfl, hs, Option.bind_some, hw, show ([1, p, b, e, l, ph, f, Go.bits .or .u64 (Go.bits .or .u64 0 2) 1] : List Int) = recL p b e l ph f true true from rfl, hr, Option.bind_some]
  · rw [if_neg h, if_neg (by decide), if_neg h]
theorem rnote_ok {p b e l ph f : Int} {q a : Bool} (hb : 0 ≤ b ∧ b < 4294967296) (he : 0 ≤ e ∧ e < 4294967296) {k : Nat} (hk : 100 < k) :
    catamaranref11_Note.f k p b e l ph f q a = some (if V p b e l ph f q = true then (rowI (recL p b e l ph f q a) recS, 0) else ([], 110)) := by
  obtain ⟨k, rfl⟩ : ∃ m, k = m + 1 := ⟨k - 1, by omega⟩
  unfold catamaranref11_Note.f
  rw [may_ok, Option.bind_some]
  by_cases h : V p b e l ph f q = true
  · rw [if_pos h, if_pos h]
    have hw := fun x => wraps (x := x) h hb he
    have hr : catamaranref01_Row.f (k + 1) (recL p b e l ph f q a) recS = some (rowI (recL p b e l ph f q a) recS) := row_ok (l := recL p b e l ph f q a) (s := recS) rfl (rec_U64 h hb he) okS8 (by simp [recL]; omega)
    have : catamaranref11_Row.f (k + 1) p b e l ph f q a = some (rowI (recL p b e l ph f q a) recS) := by
      unfold catamaranref11_Row.f
      cases q <;> cases a
      · rw [if_neg (by decide), if_neg (by decide), hw]
        exact (congrArg (fun o => Option.bind o fun t => some t) hr)
      · rw [if_neg (by decide), if_pos rfl, hw]
        exact (congrArg (fun o => Option.bind o fun t => some t) hr)
      · rw [if_pos rfl, if_neg (by decide), hw]
        exact (congrArg (fun o => Option.bind o fun t => some t) hr)
      · rw [if_pos rfl, if_pos rfl, hw]
        exact (congrArg (fun o => Option.bind o fun t => some t) hr)
    rw [this, Option.bind_some]
  · rw [if_neg h, if_neg h]
theorem gone_ok (p : Int) : ∃ r, rec_Gone.f p = some r ∧ catamaranref11_Gone.f p = some r := by
  unfold rec_Gone.f catamaranref11_Gone.f
  by_cases h1 : p < 0
  · exact ⟨_, if_pos h1, if_pos h1⟩
  · rw [if_neg h1]
    by_cases h2 : p ≥ 3
    · exact ⟨_, if_pos h2, by rw [if_pos h2]⟩
    · exact ⟨_, if_neg h2, by rw [if_neg h2]⟩
theorem rcheck_ok (k : Nat) (p b e l ph f : Int) (q a : Bool) : catamaranref11_Check.f (k + 1) p b e l ph f q a = some (if V p b e l ph f q = true then 0 else 110) := by
  unfold catamaranref11_Check.f
  rw [may_ok, Option.bind_some]
  by_cases h : V p b e l ph f q = true
  · rw [if_pos h, if_pos h]
  · rw [if_neg h, if_neg h]
end Go.Proofs.Ytoklgobjbelmjaa.PRn
namespace Go.Proofs.Ytoklgobjbelmjaa.Pure
open Go.RowKit Go.Proofs.Ytoklgobjbelmjaa.PRn Go.Proofs.YtoklgobjbelmjaaW.PrintWords Go.Proofs.YtoklgobjbelmjaaW.PrintLast Go.Proofs.Ytoklgobjbelmjaa.NumMath Go.Proofs.Ytoklgobjbelmjaa.Kit
theorem RecNotes : catamaranlaw11_RecNotes.Pure := by
  intro p b e l ph f q a n _ wb we _ _ _ _
  have hb : 0 ≤ b ∧ b < 4294967296 := by
    simp [Lit.wf, IntKind.min, IntKind.max, IntKind.bits, IntKind.signed] at wb
    omega
  have he : 0 ≤ e ∧ e < 4294967296 := by
    simp [Lit.wf, IntKind.min, IntKind.max, IntKind.bits, IntKind.signed] at we
    omega
  obtain ⟨k, hk⟩ : ∃ k : Nat, 5000 < k := ⟨5001, by omega⟩
  refine ⟨k + 3, ?_⟩
  obtain ⟨r, h1, h2⟩ := gone_ok n
  unfold catamaranlaw11_RecNotes.f
  rw [note_ok hb he (by omega), Option.bind_some, rnote_ok hb he (by omega), Option.bind_some, h1, Option.bind_some, h2, Option.bind_some, if_pos rfl, if_pos rfl, if_pos rfl, if_pos rfl, check_ok, Option.bind_some, rcheck_ok (k + 2), Option.bind_some, beq_self_eq_true]
end Go.Proofs.Ytoklgobjbelmjaa.Pure
