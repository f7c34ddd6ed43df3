/- Rows of numbers as lists: sizes, digits, what Write and Read tell. No program here. -/
import Derived.Test.YtoklgobjbelmjaaPureKit
namespace Go.Proofs.Ytoklgobjbelmjaa.NumMath
open Go.RowKit Go.Proofs.YtoklgobjbelmjaaW.PrintWords
/-- What Size tells. -/
def sumI : List Int → Int
  | [] => 0
  | n :: s => n + sumI s
def okS (s : List Int) : Prop := s.length ≤ 16 ∧ ∀ n ∈ s, 1 ≤ n ∧ n ≤ 8
instance (s : List Int) : Decidable (okS s) := inferInstanceAs (Decidable (_ ∧ _))
def sizeI (s : List Int) : Int × Int := if okS s then (sumI s, 0) else (0, 2)
/-- A number in so many bytes. -/
def dgs (n x : Nat) : List Int := (List.range n).map fun j => ((x / 256 ^ (n - 1 - j) % 256 : Nat) : Int)
def rowI : List Int → List Int → List Int
  | x :: l, n :: s => dgs n.toNat x.toNat ++ rowI l s
  | _, _ => []
def fitI : List Int → List Int → Bool
  | x :: l, n :: s => decide (x.toNat / 256 ^ n.toNat = 0) && fitI l s
  | _, _ => true
def writeI (l s : List Int) : List Int × Int := if okS s ∧ l.length = s.length then (if fitI l s = true then (rowI l s, 0) else ([], 4)) else ([], 2)
def U64 (l : List Int) : Prop := ∀ x ∈ l, 0 ≤ x ∧ x < 18446744073709551616
instance (l : List Int) : Decidable (U64 l) := inferInstanceAs (Decidable (∀ x ∈ l, _))
theorem sumI_append (a b : List Int) : sumI (a ++ b) = sumI a + sumI b := by
  induction a with
  | nil => simp [sumI]
  | cons x a ih => simp only [List.cons_append, sumI, ih]; omega
theorem sumI_bd {s : List Int} (h : ∀ n ∈ s, 1 ≤ n ∧ n ≤ 8) : (s.length : Int) ≤ sumI s ∧ sumI s ≤ 8 * s.length := by
  induction s with
  | nil => simp [sumI]
  | cons n s ih =>
    have h1 := h n (by simp)
    have h2 := ih fun m hm => h m (by simp [hm])
    simp only [sumI, List.length_cons]
    omega
theorem take_succ_get {α : Type} (l : List α) (i : Nat) (h : i < l.length) : l.take (i + 1) = l.take i ++ [l[i]] := by
  rw [List.take_add_one, List.getElem?_eq_getElem h]; rfl
theorem sumI_take {s : List Int} {i : Nat} (h : i < s.length) : sumI (s.take (i + 1)) = sumI (s.take i) + s[i] := by
  rw [take_succ_get s i h, sumI_append]; simp [sumI]
theorem sumI_take_le {s : List Int} (h : ∀ n ∈ s, 1 ≤ n ∧ n ≤ 8) (i : Nat) : 0 ≤ sumI (s.take i) ∧ sumI (s.take i) ≤ sumI s := by
  have h1 : sumI s = sumI (s.take i) + sumI (s.drop i) := by rw [← sumI_append, List.take_append_drop]
  have h2 := sumI_bd (s := s.take i) fun n hn => h n (List.mem_of_mem_take hn)
  have h3 := sumI_bd (s := s.drop i) fun n hn => h n (List.mem_of_mem_drop hn)
  omega
theorem rowI_append {a b s t : List Int} (h : a.length = s.length) : rowI (a ++ b) (s ++ t) = rowI a s ++ rowI b t := by
  induction a generalizing s with
  | nil =>
    obtain rfl : s = [] := List.eq_nil_of_length_eq_zero h.symm
    rfl
  | cons x a ih =>
    cases s with
    | nil => simp at h
    | cons n s =>
      simp only [List.cons_append, rowI]
      rw [ih (by simpa using h), List.append_assoc]
theorem fitI_append {a b s t : List Int} (h : a.length = s.length) : fitI (a ++ b) (s ++ t) = (fitI a s && fitI b t) := by
  induction a generalizing s with
  | nil =>
    obtain rfl : s = [] := List.eq_nil_of_length_eq_zero h.symm
    simp [fitI]
  | cons x a ih =>
    cases s with
    | nil => simp at h
    | cons n s =>
      simp only [List.cons_append, fitI]
      rw [ih (by simpa using h), Bool.and_assoc]
theorem dgs_length (n x : Nat) : (dgs n x).length = n := by simp [dgs]
theorem rowI_length {l s : List Int} (h : l.length = s.length) (hs : ∀ n ∈ s, 1 ≤ n ∧ n ≤ 8) : ((rowI l s).length : Int) = sumI s := by
  induction l generalizing s with
  | nil =>
    obtain rfl : s = [] := List.eq_nil_of_length_eq_zero h.symm
    rfl
  | cons x l ih =>
    cases s with
    | nil => simp at h
    | cons n s =>
      have h1 := hs n (by simp)
      have h2 := ih (s := s) (by simpa using h) fun m hm => hs m (by simp [hm])
      simp only [rowI, List.length_append, dgs_length, sumI]
      omega
end Go.Proofs.Ytoklgobjbelmjaa.NumMath
