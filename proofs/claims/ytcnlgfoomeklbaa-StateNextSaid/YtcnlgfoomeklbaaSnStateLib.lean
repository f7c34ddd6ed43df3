/- What state's functions tell, as plain tests. -/
import Derived.Test.YtcnlgfoomeklbaaPSnx
import Derived.Test.YtcnlgfoomeklbaaPureKit
namespace Go.Proofs.Ytcnlgfoomeklbaa.SnStateLib
open Go.RowKit Go.Proofs.Ytcnlgfoomeklbaa.PSn Go.Proofs.YtcnlgfoomeklbaaW.PrintWords Go.Proofs.YtcnlgfoomeklbaaW.PrintLast Go.Proofs.Ytcnlgfoomeklbaa.Kit

theorem site_ok (k : Nat) (x y : Int) : rec_site.f (k + 3) [x, y] = some (decide ((x = 0 ∨ x = 1) ∧ (y = 0 ∨ y = 1))) := by
  simp only [rec_site.f, slices_ContainsFunc_int_int_s0.f, slices_IndexFunc_int_int_s1.f]
  rw [slices_IndexFunc_int_int_s1.l0]
  simp only [List.length_cons, List.length_nil, rec_site_1.f]
  have e0 : rd [x, y] 0 = x := rfl
  have e1 : rd [x, y] 1 = y := rfl
  have w1 : wrap64 (0 + 1) = 1 := w64 (by omega) (by omega)
  have w2 : wrap64 (1 + 1) = 2 := w64 (by omega) (by omega)
  rw [e0, w1]
  by_cases h0 : x = 0
  · subst h0
    rw [slices_IndexFunc_int_int_s1.l0]; simp only [List.length_cons, List.length_nil, rec_site_1.f]
    rw [e1, w2, slices_IndexFunc_int_int_s1.l0]
    by_cases h1 : y = 0
    · subst h1; simp
    · by_cases h2 : y = 1
      · subst h2; simp
      · simp [h1, h2]
  · by_cases h3 : x = 1
    · subst h3
      rw [slices_IndexFunc_int_int_s1.l0]; simp only [List.length_cons, List.length_nil, rec_site_1.f]
      rw [e1, w2, slices_IndexFunc_int_int_s1.l0]
      by_cases h1 : y = 0
      · subst h1; simp
      · by_cases h2 : y = 1
        · subst h2; simp
        · simp [h1, h2]
    · simp [h0, h3]
/-- May a record be? -/
def V (p b e l ph f : Int) (q : Bool) : Bool :=
  decide (0 ≤ p) && decide (p < 3) && decide (0 < b) && decide (0 < e) && (l == 0 || l == 1) && (f == 0 || f == 1) && (ph == 1 || (ph == 2 || ph == 3) && f == l) && (!q || f != l)
theorem check_ok (k : Nat) (p b e l ph f : Int) (q a : Bool) : rec_Check.f (k + 3) p b e l ph f q a = some (if V p b e l ph f q = true then 0 else 110) := by
  have J (x : Bool) : rec_Check.j0 (k + 3) x p b e l ph f q a = some (if x = true ∧ (ph = 1 ∨ (ph = 2 ∨ ph = 3) ∧ f = l) ∧ (q = false ∨ f ≠ l) then 0 else 110) := by
    rw [rec_Check.j0]
    simp only [rec_Check.j1]
    by_cases h1 : ph = 2
    · subst h1; cases x <;> cases q <;> by_cases hf : f = l <;> simp [hf]
    · by_cases h3 : ph = 3
      · subst h3; cases x <;> cases q <;> by_cases hf : f = l <;> simp [hf]
      · by_cases h0 : ph = 1
        · subst h0; cases x <;> cases q <;> by_cases hf : f = l <;> simp [hf]
        · simp [h0, h1, h3]
  rw [rec_Check.f]
  rw [site_ok, Option.bind_some]
  simp only [J]
  by_cases h1 : p ≥ 0
  · by_cases h2 : p < 3
    · by_cases h3 : b > 0
      · by_cases h4 : e > 0
        · simp only [if_pos h1, if_pos h2, if_pos h3, if_pos h4]
          congr 1
          simp [V, h1, h2, h3, h4, and_assoc]
        · simp [V, h1, h2, h3, h4]
      · simp [V, h1, h2, h3]
    · simp [V, h1, h2]
  · simp [V, h1]
/-- May an operation be one that turns a record? -/
def O (op : Int) : Bool := decide (2 ≤ op) && decide (op ≤ 8)
theorem ops0 (k : Nat) : slices_ContainsFunc_uint8_uint8_s2.f (k + 1) [] = some false := by
  simp only [slices_ContainsFunc_uint8_uint8_s2.f, slices_IndexFunc_uint8_uint8_s3.f]
  rw [slices_IndexFunc_uint8_uint8_s3.l0]; simp
theorem ops1 (k : Nat) (op : Int) : slices_ContainsFunc_uint8_uint8_s2.f (k + 2) [op] = some (!O op) := by
  simp only [slices_ContainsFunc_uint8_uint8_s2.f, slices_IndexFunc_uint8_uint8_s3.f]
  rw [slices_IndexFunc_uint8_uint8_s3.l0, show rd [op] 0 = op from rfl, show wrap64 (0 + 1) = 1 from w64 (by omega) (by omega), slices_IndexFunc_uint8_uint8_s3.l0]
  simp only [state_asked_1.f]
  by_cases h : op < 2
  · simp [O, h, show ¬ 2 ≤ op by omega]
  · by_cases h8 : op > 8
    · simp [O, h, h8, show ¬ op ≤ 8 by omega]
    · simp [O, h, h8, show 2 ≤ op by omega, show op ≤ 8 by omega]
def S (s : Int) : Bool := s == 0 || s == 1
theorem asked0 (k : Nat) (s p b e l ph f : Int) (q a : Bool) : state_asked.f (k + 3) s p b e l ph f q a [] = some (if V p b e l ph f q = true then if S s = true then 0 else 2 else 110) := by
  rw [state_asked.f, check_ok, Option.bind_some, ops0]
  by_cases hv : V p b e l ph f q = true
  · by_cases h0 : s = 0
    · simp [hv, h0, S]
    · by_cases h1 : s = 1
      · simp [hv, h1, S]
      · simp [hv, h0, h1, S]
  · simp [hv]
theorem asked1 (k : Nat) (s p b e l ph f : Int) (q a : Bool) (op : Int) : state_asked.f (k + 3) s p b e l ph f q a [op] = some (if V p b e l ph f q = true then if S s = true ∧ O op = true then 0 else 2 else 110) := by
  rw [state_asked.f, check_ok, Option.bind_some, ops1]
  by_cases hv : V p b e l ph f q = true
  · by_cases h0 : s = 0
    · cases ho : O op <;> simp [hv, h0, S]
    · by_cases h1 : s = 1
      · cases ho : O op <;> simp [hv, h1, S]
      · simp [hv, h0, h1, S]
  · simp [hv]
theorem V_tells {p b e l ph f : Int} {q : Bool} (h : V p b e l ph f q = true) : 0 ≤ p ∧ p < 3 ∧ 0 < b ∧ 0 < e ∧ (l = 0 ∨ l = 1) ∧ (f = 0 ∨ f = 1) ∧ (ph = 1 ∨ (ph = 2 ∨ ph = 3) ∧ f = l) ∧ (q = false ∨ f ≠ l) := by
  simp [V, and_assoc] at h
  simpa using h
theorem O_tells {op : Int} (h : O op = true) : op = 2 ∨ op = 3 ∨ op = 4 ∨ op = 5 ∨ op = 6 ∨ op = 7 ∨ op = 8 := by
  simp [O] at h
  omega
theorem S_tells {s : Int} (h : S s = true) : s = 0 ∨ s = 1 := by simpa [S] using h
end Go.Proofs.Ytcnlgfoomeklbaa.SnStateLib
