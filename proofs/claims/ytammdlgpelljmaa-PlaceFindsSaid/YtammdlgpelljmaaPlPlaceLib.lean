/- The document's answers for layer 7, as plain formulas. -/
import Derived.Test.YtammdlgpelljmaaPPlx
import Derived.Test.YtammdlgpelljmaaPureKit
import Derived.Test.YtammdlgpelljmaaPlaceC
namespace Go.Proofs.Ytammdlgpelljmaa.PlPlaceLib
open Go.RowKit Go.Proofs.Ytammdlgpelljmaa.PPl Go.Proofs.YtammdlgpelljmaaW.PrintWords Go.Proofs.YtammdlgpelljmaaW.PrintLast Go.Proofs.Ytammdlgpelljmaa.Kit Go.Proofs.Ytammdlgpelljmaa.PlaceWalk
theorem wf_i64 {x : Int} (h : (Lit.int .i64 x).wf = true) : -9223372036854775808 ≤ x ∧ x ≤ 9223372036854775807 := by
  have h2 : IntKind.i64.min ≤ x ∧ x ≤ 9223372036854775807 := by simpa [Lit.wf] using h
  have h3 : IntKind.i64.min = -9223372036854775808 := by decide
  omega
theorem in_ok (a b c : Int) : catamaranref07_in.f a b c = some (decide (b ≤ a ∧ a ≤ c)) := by
  unfold catamaranref07_in.f
  by_cases h : a ≥ b
  · rw [if_pos h]; simp [h]
  · rw [if_neg h]; simp; omega
theorem in_yes {a b c : Int} (h : b ≤ a) (h2 : a ≤ c) : catamaranref07_in.f a b c = some true := by rw [in_ok, decide_eq_true ⟨h, h2⟩]
theorem in_no {a b c : Int} (h : ¬ (b ≤ a ∧ a ≤ c)) : catamaranref07_in.f a b c = some false := by rw [in_ok, decide_eq_false h]
theorem pOk_no {a b c d e f : Int} (h : ¬ (1 ≤ a ∧ a ≤ 3 ∧ 1 ≤ b ∧ b ≤ 16 ∧ a + 2 ≤ c ∧ c ≤ 32 ∧ 1 ≤ d ∧ d ≤ a ∧ 1 ≤ e ∧ e ≤ 4 ∧ 4 ≤ f ∧ f ≤ 64)) : pOk a b c d e f = false := decide_eq_false h
theorem may_ok (k : Nat) (a b c d e f : Int) : catamaranref07_May.f (k + 1) a b c d e f = some (pOk a b c d e f) := by
  have J1 : catamaranref07_May.j0 (k + 1) true a b c d e f = some false := by rw [catamaranref07_May.j0]; rfl
  have J0 : catamaranref07_May.j0 (k + 1) false a b c d e f = some (decide (1 ≤ e ∧ e ≤ 4 ∧ 4 ≤ f ∧ f ≤ 64)) := by
    rw [catamaranref07_May.j0, in_ok, in_ok]
    by_cases h : 1 ≤ e ∧ e ≤ 4
    · rw [decide_eq_true h]
      simp [h]
    · rw [decide_eq_false h]
      have : ¬ (1 ≤ e ∧ e ≤ 4 ∧ 4 ≤ f ∧ f ≤ 64) := by omega
      simp [this]
  unfold catamaranref07_May.f
  by_cases h1 : 1 ≤ a ∧ a ≤ 3
  · rw [in_yes h1.1 h1.2, Option.bind_some, if_pos rfl]
    by_cases h2 : 1 ≤ b ∧ b ≤ 16
    · rw [in_yes h2.1 h2.2, Option.bind_some, if_pos rfl, w64 (by omega) (by omega)]
      by_cases h3 : a + 2 ≤ c ∧ c ≤ 32
      · rw [in_yes h3.1 h3.2, Option.bind_some, if_pos rfl]
        by_cases h4 : 1 ≤ d ∧ d ≤ a
        · rw [in_yes h4.1 h4.2, Option.bind_some]
          show catamaranref07_May.j0 (k + 1) false a b c d e f = _
          rw [J0]
          unfold pOk
          congr 1
          rw [decide_eq_decide]
          omega
        · rw [in_no h4, Option.bind_some]
          show catamaranref07_May.j0 (k + 1) true a b c d e f = _
          rw [J1, pOk_no (by omega)]
      · rw [in_no h3, Option.bind_some, if_neg (by decide), J1, pOk_no (by omega)]
    · rw [in_no h2, Option.bind_some, if_neg (by decide), J1, pOk_no (by omega)]
  · rw [in_no h1, Option.bind_some, if_neg (by decide), J1, pOk_no (by omega)]
theorem many_ok {a b c d e f : Int} (h1 : 1 ≤ b) (h2 : b ≤ 16) : catamaranref07_Many.f a b c d e f = some (pg b) := by
  unfold catamaranref07_Many.f pg
  by_cases h : b > 8
  · rw [if_pos h]; congr 1; omega
  · rw [if_neg h]; congr 1; omega
theorem pg_bd {b : Int} (h1 : 1 ≤ b) (h2 : b ≤ 16) : 1 ≤ pg b ∧ pg b ≤ 2 := by unfold pg; omega
theorem first_ok {a b c d e f : Int} (h : pOk a b c d e f = true) : catamaranref07_first.f a b c d e f = some (2, 2 + 2 * c, 2 + 2 * c + a * pg b, 2 + 2 * c + a * pg b + 4 * (a * b)) := by
  obtain ⟨h1, h2, h3, h4, h5, h6, _⟩ := pOk_of h
  have hp := pg_bd h3 h4
  have h7 := mul_bd h1 h2 hp.1 hp.2
  have h8 := mul_bd h1 h2 h3 h4
  unfold catamaranref07_first.f
  rw [many_ok h3 h4, Option.bind_some, w64 (x := 2 * c) (by omega) (by omega), w64 (x := 2 + 2 * c) (by omega) (by omega), w64 (x := a * pg b) (by omega) (by omega), w64 (x := 2 + 2 * c + a * pg b) (by omega) (by omega), w64 (x := 4 * a) (by omega) (by omega), Int.mul_assoc, w64 (x := 4 * (a * b)) (by omega) (by omega), w64 (by omega) (by omega)]
theorem inD_no {x y O M : Int} (h : ¬ (0 ≤ x ∧ x < O ∧ 0 ≤ y ∧ y < M)) : inD x y O M = false := decide_eq_false h
theorem inD_yes {x y O M : Int} (h : 0 ≤ x ∧ x < O ∧ 0 ≤ y ∧ y < M) : inD x y O M = true := decide_eq_true h
theorem area_ok (k : Nat) (a b c d e f x y : Int) : catamaranref07_Area.f (k + 1) a b c d e f x y = some (areaR a b c d e f x y) := by
  unfold catamaranref07_Area.f areaR
  rw [may_ok, Option.bind_some]
  cases h : pOk a b c d e f with
  | false => rw [if_neg (by decide), if_neg (by decide)]
  | true =>
    obtain ⟨h1, h2, h3, h4, h5, h6, _⟩ := pOk_of h
    rw [if_pos rfl, if_pos rfl]
    by_cases hx : 0 ≤ x ∧ x ≤ 1
    · rw [in_yes hx.1 hx.2, Option.bind_some, if_pos rfl, w64 (by omega) (by omega)]
      by_cases hy : 0 ≤ y ∧ y ≤ c - 1
      · have hm := prod_bd (x := x) (M := c) (O := 2) hx.1 (by omega) (by omega) (by omega) (by omega)
        rw [in_yes hy.1 hy.2, Option.bind_some, if_pos rfl, inD_yes (by omega), if_pos rfl]
        unfold catamaranref07_InArea.f
        rw [first_ok h, Option.bind_some, Option.bind_some]
        dsimp only
        rw [w64 (x := x * c) (by omega) (by omega), w64 (x := 2 + x * c) (by omega) (by omega), w64 (by omega) (by omega), Int.add_assoc]
      · rw [in_no hy, Option.bind_some, if_neg (by decide), inD_no (by omega), if_neg (by decide)]
    · rw [in_no hx, Option.bind_some, if_neg (by decide), inD_no (by omega), if_neg (by decide)]
theorem page_ok (k : Nat) (a b c d e f x y : Int) : catamaranref07_Page.f (k + 1) a b c d e f x y = some (pageR a b c d e f x y) := by
  unfold catamaranref07_Page.f pageR
  rw [may_ok, Option.bind_some]
  cases h : pOk a b c d e f with
  | false => rw [if_neg (by decide), if_neg (by decide)]
  | true =>
    obtain ⟨h1, h2, h3, h4, h5, h6, _⟩ := pOk_of h
    have hp := pg_bd h3 h4
    rw [if_pos rfl, if_pos rfl, w64 (by omega) (by omega)]
    by_cases hx : 0 ≤ x ∧ x ≤ a - 1
    · rw [in_yes hx.1 hx.2, Option.bind_some, if_pos rfl, many_ok h3 h4, Option.bind_some, w64 (by omega) (by omega)]
      by_cases hy : 0 ≤ y ∧ y ≤ pg b - 1
      · have hm := prod_bd (x := x) (M := pg b) (O := a) hx.1 (by omega) (by omega) (by omega) (by omega)
        rw [in_yes hy.1 hy.2, Option.bind_some, if_pos rfl, inD_yes (by omega), if_pos rfl]
        unfold catamaranref07_OfPage.f
        rw [first_ok h, Option.bind_some, many_ok h3 h4, Option.bind_some, Option.bind_some]
        dsimp only
        rw [w64 (x := x * pg b) (by omega) (by omega), w64 (x := 2 + 2 * c + x * pg b) (by omega) (by omega), w64 (by omega) (by omega), Int.add_assoc]
      · rw [in_no hy, Option.bind_some, if_neg (by decide), inD_no (by omega), if_neg (by decide)]
    · rw [in_no hx, Option.bind_some, if_neg (by decide), inD_no (by omega), if_neg (by decide)]
theorem track_ok (k : Nat) (a b c d e f x y : Int) : catamaranref07_Track.f (k + 1) a b c d e f x y = some (trackR a b c d e f x y) := by
  unfold catamaranref07_Track.f trackR
  rw [may_ok, Option.bind_some]
  cases h : pOk a b c d e f with
  | false => rw [if_neg (by decide), if_neg (by decide)]
  | true =>
    obtain ⟨h1, h2, h3, h4, h5, h6, _⟩ := pOk_of h
    have hp := pg_bd h3 h4
    have h7 := mul_bd h1 h2 hp.1 hp.2
    rw [if_pos rfl, if_pos rfl, w64 (by omega) (by omega)]
    by_cases hx : 0 ≤ x ∧ x ≤ a - 1
    · rw [in_yes hx.1 hx.2, Option.bind_some, if_pos rfl, w64 (by omega) (by omega)]
      by_cases hy : 0 ≤ y ∧ y ≤ b - 1
      · have hm := prod_bd (x := x) (M := b) (O := a) hx.1 (by omega) (by omega) (by omega) (by omega)
        rw [in_yes hy.1 hy.2, Option.bind_some, if_pos rfl, inD_yes (by omega), if_pos rfl]
        unfold catamaranref07_OfTrack.f
        rw [first_ok h, Option.bind_some, Option.bind_some]
        dsimp only
        rw [w64 (x := x * b) (by omega) (by omega), w64 (x := x * b + y) (by omega) (by omega), w64 (x := 4 * (x * b + y)) (by omega) (by omega), w64 (by omega) (by omega)]
      · rw [in_no hy, Option.bind_some, if_neg (by decide), inD_no (by omega), if_neg (by decide)]
    · rw [in_no hx, Option.bind_some, if_neg (by decide), inD_no (by omega), if_neg (by decide)]
theorem sectors_ok (k : Nat) (a b c d e f : Int) : catamaranref07_Sectors.f (k + 1) a b c d e f = some (secR a b c d e f) := by
  unfold catamaranref07_Sectors.f secR
  rw [may_ok, Option.bind_some]
  cases h : pOk a b c d e f with
  | false => rw [if_neg (by decide), if_neg (by decide)]
  | true =>
    rw [if_pos rfl, if_pos rfl]
    unfold catamaranref07_Size.f
    rw [first_ok h, Option.bind_some, Option.bind_some]
def pagesR (a b c d e f : Int) : Int × Int := if pOk a b c d e f then (pg b, 0) else (0, 8)
theorem pages_ok (k : Nat) (a b c d e f : Int) : catamaranref07_Pages.f (k + 1) a b c d e f = some (pagesR a b c d e f) := by
  unfold catamaranref07_Pages.f pagesR
  rw [may_ok, Option.bind_some]
  cases h : pOk a b c d e f with
  | false => rw [if_neg (by decide), if_neg (by decide)]
  | true =>
    obtain ⟨h1, h2, h3, h4, h5, h6, _⟩ := pOk_of h
    rw [if_pos rfl, if_pos rfl, many_ok h3 h4, Option.bind_some]
theorem pages_own (a b c d e f : Int) : place_Pages.f a b c d e f = some (pagesR a b c d e f) := by
  unfold place_Pages.f pagesR place_Check.f pErr
  rw [Option.bind_some]
  cases h : pOk a b c d e f with
  | false => rfl
  | true =>
    obtain ⟨h1, h2, h3, h4, h5, h6, _⟩ := pOk_of h
    rw [if_pos rfl, if_pos rfl]
    unfold place_pages.f
    have := pgs_in h3 h4
    unfold pgs at this
    rw [this, if_pos rfl, Option.bind_some]
    rfl
theorem check_ok (k : Nat) (a b c d e f : Int) : catamaranref07_Check.f (k + 1) a b c d e f = some (pErr a b c d e f) := by
  unfold catamaranref07_Check.f pErr
  rw [may_ok, Option.bind_some]
  cases h : pOk a b c d e f <;> rfl
theorem what_ok (k : Nat) (a b c d e f t : Int) (ht : t ≤ 9223372036854775807) : catamaranref07_What.f (k + 1) a b c d e f t = some (whatR a b c d e f t) := by
  have J1 (x8 x9 x10 : Int) : catamaranref07_What.j0 (k + 1) t x8 x9 x10 true a b c d e f = some (0, 0, 0, 2) := by rw [catamaranref07_What.j0, if_pos rfl]
  unfold catamaranref07_What.f whatR
  rw [may_ok, Option.bind_some]
  cases h : pOk a b c d e f with
  | false => rw [if_neg (by decide), if_neg (by decide)]
  | true =>
    obtain ⟨h1, h2, h3, h4, h5, h6, _⟩ := pOk_of h
    have hp := pg_bd h3 h4
    have h7 := mul_bd h1 h2 hp.1 hp.2
    have h8 := mul_bd h1 h2 h3 h4
    rw [if_pos rfl, if_pos rfl, first_ok h, Option.bind_some]
    dsimp only
    by_cases t0 : t < 0
    · rw [if_pos t0, if_pos t0, J1]
    · rw [if_neg t0, if_neg t0]
      by_cases t5 : t ≥ 2 + 2 * c + a * pg b + 4 * (a * b)
      · rw [decide_eq_true t5, J1, if_neg (by omega), if_neg (by omega), if_neg (by omega), if_neg (by omega)]
      · rw [decide_eq_false t5, catamaranref07_What.j0, if_neg (by decide)]
        by_cases t1 : t < 2
        · rw [if_pos t1, if_pos t1]
        · rw [if_neg t1, if_neg t1]
          by_cases t2 : t < 2 + 2 * c
          · rw [if_pos t2, if_neg (by omega), if_pos (by omega), w64 (x := t - 2) (by omega) (by omega), Int.tdiv_eq_ediv_of_nonneg (by omega), Int.tmod_eq_emod_of_nonneg (by omega), w64]
            · have := Int.ediv_nonneg (a := t - 2) (b := c) (by omega) (by omega)
              omega
            · have := Int.ediv_le_self (a := t - 2) c (by omega)
              omega
          · rw [if_neg t2, if_neg (show ¬ t - 2 < 2 * c by omega)]
            by_cases t3 : t < 2 + 2 * c + a * pg b
            · rw [if_pos t3, many_ok h3 h4, Option.bind_some, if_neg (by omega), Option.bind_some, if_neg (by omega), if_pos (by omega), show t - (2 + 2 * c) = t - 2 - 2 * c by omega, w64 (x := t - 2 - 2 * c) (by omega) (by omega), Int.tdiv_eq_ediv_of_nonneg (by omega), Int.tmod_eq_emod_of_nonneg (by omega), w64]
              · have := Int.ediv_nonneg (a := t - 2 - 2 * c) (b := pg b) (by omega) (by omega)
                omega
              · have := Int.ediv_le_self (a := t - 2 - 2 * c) (pg b) (by omega)
                omega
            · rw [if_neg t3, if_neg (by omega), if_neg (by omega), if_pos (by omega), show t - (2 + 2 * c + a * pg b) = t - 2 - 2 * c - a * pg b by omega, w64 (x := t - 2 - 2 * c - a * pg b) (by omega) (by omega), Int.tdiv_eq_ediv_of_nonneg (a := t - 2 - 2 * c - a * pg b) (by omega), w64 (x := (t - 2 - 2 * c - a * pg b) / 4) (by omega) (by omega), Int.tdiv_eq_ediv_of_nonneg (by omega), Int.tmod_eq_emod_of_nonneg (by omega), w64]
              · have := Int.ediv_nonneg (a := (t - 2 - 2 * c - a * pg b) / 4) (b := b) (by omega) (by omega)
                omega
              · have := Int.ediv_le_self (a := (t - 2 - 2 * c - a * pg b) / 4) b (by omega)
                omega
theorem finds : catamaranlaw07_PlaceFinds.Pure := by
  intro a b c d e f x y _ _ _ _ _ _ _ _
  refine ⟨1, ?_⟩
  unfold catamaranlaw07_PlaceFinds.f place_Area.f place_Page.f place_Track.f
  rw [area_ok, page_ok, track_ok]
  simp only [Option.bind_some]
  simp
theorem tells : catamaranlaw07_PlaceTells.Pure := by
  intro a b c d e f t _ _ _ _ _ _ ht
  have ht2 := (wf_i64 ht).2
  refine ⟨1, ?_⟩
  unfold catamaranlaw07_PlaceTells.f place_Sectors.f place_What.f place_Check.f
  rw [sectors_ok, pages_ok, pages_own, what_ok _ _ _ _ _ _ _ _ ht2, if_pos ht2, check_ok]
  simp only [Option.bind_some]
  simp
theorem names : catamaranlaw07_PlaceNames.Pure := by
  unfold catamaranlaw07_PlaceNames.Pure
  decide +kernel
theorem alive_ok : catamaranlaw07_alive.f = some true := by decide +kernel
end Go.Proofs.Ytammdlgpelljmaa.PlPlaceLib
