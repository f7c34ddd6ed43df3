/- What is found stands there, and what stands there is found. -/
import Derived.Test.YtammdlgpelljmaaPlPlaceLib
namespace Go.Proofs.Ytammdlgpelljmaa.PlPlaceLib
open Go.RowKit Go.Proofs.Ytammdlgpelljmaa.PPl Go.Proofs.YtammdlgpelljmaaW.PrintWords Go.Proofs.YtammdlgpelljmaaW.PrintLast Go.Proofs.Ytammdlgpelljmaa.Kit Go.Proofs.Ytammdlgpelljmaa.PlaceWalk
theorem dm {x c y : Int} (h0 : 0 ≤ y) (h1 : y < c) : (x * c + y) / c = x ∧ (x * c + y) % c = y := by
  rw [Int.add_comm]
  constructor
  · rw [Int.add_mul_ediv_right _ _ (by omega), Int.ediv_eq_zero_of_lt h0 h1, Int.zero_add]
  · rw [Int.add_mul_emod_self_right, Int.emod_eq_of_lt h0 h1]
theorem lin {x y O M : Int} (h0 : 0 ≤ x) (h1 : x < O) (h2 : 0 ≤ y) (h3 : y < M) : 0 ≤ x * M + y ∧ x * M + y < O * M := by
  have h4 := Int.mul_nonneg h0 (show 0 ≤ M by omega)
  have h5 := Int.mul_le_mul_of_nonneg_right (show x + 1 ≤ O by omega) (show 0 ≤ M by omega)
  rw [Int.add_mul, Int.one_mul] at h5
  omega
theorem nil {t O M : Int} (h0 : 0 ≤ t) (h1 : t < O * M) (hM : 1 ≤ M) : 0 ≤ t / M ∧ t / M < O ∧ 0 ≤ t % M ∧ t % M < M ∧ t / M * M + t % M = t := by
  have h2 := Int.ediv_nonneg (a := t) (b := M) h0 (by omega)
  have h3 := Int.emod_nonneg t (show M ≠ 0 by omega)
  have h4 := Int.emod_lt_of_pos t (show 0 < M by omega)
  have h5 := Int.mul_ediv_add_emod t M
  rw [Int.mul_comm] at h5
  refine ⟨h2, ?_, h3, h4, h5⟩
  exact Int.ediv_lt_of_lt_mul (by omega) h1
theorem area_yes {a b c d e f x y : Int} (h : (areaR a b c d e f x y).2 = 0) : pOk a b c d e f = true ∧ 0 ≤ x ∧ x < 2 ∧ 0 ≤ y ∧ y < c ∧ (areaR a b c d e f x y).1 = 2 + (x * c + y) := by
  unfold areaR at h ⊢
  cases hp : pOk a b c d e f with
  | false => rw [hp, if_neg (by decide)] at h; exact absurd h (by simp)
  | true =>
    rw [hp, if_pos rfl] at h
    rw [if_pos rfl]
    cases hi : inD x y 2 c with
    | false => rw [hi, if_neg (by decide)] at h; exact absurd h (by simp)
    | true =>
      obtain ⟨h1, h2, h3, h4⟩ := of_decide_eq_true hi
      exact ⟨rfl, h1, h2, h3, h4, rfl⟩
theorem page_yes {a b c d e f x y : Int} (h : (pageR a b c d e f x y).2 = 0) : pOk a b c d e f = true ∧ 0 ≤ x ∧ x < a ∧ 0 ≤ y ∧ y < pg b ∧ (pageR a b c d e f x y).1 = 2 + 2 * c + (x * pg b + y) := by
  unfold pageR at h ⊢
  cases hp : pOk a b c d e f with
  | false => rw [hp, if_neg (by decide)] at h; exact absurd h (by simp)
  | true =>
    rw [hp, if_pos rfl] at h
    rw [if_pos rfl]
    cases hi : inD x y a (pg b) with
    | false => rw [hi, if_neg (by decide)] at h; exact absurd h (by simp)
    | true =>
      obtain ⟨h1, h2, h3, h4⟩ := of_decide_eq_true hi
      exact ⟨rfl, h1, h2, h3, h4, rfl⟩
theorem track_yes {a b c d e f x y : Int} (h : (trackR a b c d e f x y).2 = 0) : pOk a b c d e f = true ∧ 0 ≤ x ∧ x < a ∧ 0 ≤ y ∧ y < b ∧ (trackR a b c d e f x y).1 = 2 + 2 * c + a * pg b + 4 * (x * b + y) := by
  unfold trackR at h ⊢
  cases hp : pOk a b c d e f with
  | false => rw [hp, if_neg (by decide)] at h; exact absurd h (by simp)
  | true =>
    rw [hp, if_pos rfl] at h
    rw [if_pos rfl]
    cases hi : inD x y a b with
    | false => rw [hi, if_neg (by decide)] at h; exact absurd h (by simp)
    | true =>
      obtain ⟨h1, h2, h3, h4⟩ := of_decide_eq_true hi
      exact ⟨rfl, h1, h2, h3, h4, rfl⟩
theorem area_what {a b c d e f x y : Int} (h : (areaR a b c d e f x y).2 = 0) : whatR a b c d e f (areaR a b c d e f x y).1 = (2, x, y, 0) ∧ 0 ≤ (areaR a b c d e f x y).1 ∧ (areaR a b c d e f x y).1 ≤ 9223372036854775807 := by
  obtain ⟨hp, h1, h2, h3, h4, hv⟩ := area_yes h
  obtain ⟨p1, p2, p3, p4, p5, p6, _⟩ := pOk_of hp
  have hl := lin h1 h2 h3 h4
  obtain ⟨hd, hm⟩ := dm (x := x) h3 h4
  rw [hv]
  refine ⟨?_, by omega, by omega⟩
  unfold whatR
  rw [hp, if_pos rfl, if_neg (by omega), if_neg (by omega), if_pos (by omega), show 2 + (x * c + y) - 2 = x * c + y by omega, hd, hm]
theorem page_what {a b c d e f x y : Int} (h : (pageR a b c d e f x y).2 = 0) : whatR a b c d e f (pageR a b c d e f x y).1 = (3, x, y, 0) ∧ 0 ≤ (pageR a b c d e f x y).1 ∧ (pageR a b c d e f x y).1 ≤ 9223372036854775807 := by
  obtain ⟨hp, h1, h2, h3, h4, hv⟩ := page_yes h
  obtain ⟨p1, p2, p3, p4, p5, p6, _⟩ := pOk_of hp
  have hg := pg_bd p3 p4
  have h7 := mul_bd p1 p2 hg.1 hg.2
  have hl := lin h1 h2 h3 h4
  obtain ⟨hd, hm⟩ := dm (x := x) h3 h4
  rw [hv]
  refine ⟨?_, by omega, by omega⟩
  unfold whatR
  rw [hp, if_pos rfl, if_neg (by omega), if_neg (by omega), if_neg (by omega), show 2 + 2 * c + (x * pg b + y) - 2 - 2 * c = x * pg b + y by omega, if_pos (by omega), hd, hm]
theorem track_what {a b c d e f x y j : Int} (h : (trackR a b c d e f x y).2 = 0) (j0 : 0 ≤ j) (j1 : j < 4) : whatR a b c d e f ((trackR a b c d e f x y).1 + j) = (4, x, y, 0) ∧ 0 ≤ (trackR a b c d e f x y).1 ∧ (trackR a b c d e f x y).1 ≤ 1000 := by
  obtain ⟨hp, h1, h2, h3, h4, hv⟩ := track_yes h
  obtain ⟨p1, p2, p3, p4, p5, p6, _⟩ := pOk_of hp
  have hg := pg_bd p3 p4
  have h7 := mul_bd p1 p2 hg.1 hg.2
  have h8 := mul_bd p1 p2 p3 p4
  have hl := lin h1 h2 h3 h4
  obtain ⟨hd, hm⟩ := dm (x := x) h3 h4
  rw [hv]
  refine ⟨?_, by omega, by omega⟩
  unfold whatR
  rw [hp, if_pos rfl, if_neg (by omega), if_neg (by omega), if_neg (by omega), if_neg (by omega), if_pos (by omega), show 2 + 2 * c + a * pg b + 4 * (x * b + y) + j - 2 - 2 * c - a * pg b = 4 * (x * b + y) + j by omega, show (4 * (x * b + y) + j) / 4 = x * b + y by omega, hd, hm]
theorem one (k : Nat) (a b c d e f t : Int) (h : (whatR a b c d e f t).2.2.2 = 0) :
    catamaranlaw07_PlaceOne.j0 (k + 2) t true (whatR a b c d e f t).1 (whatR a b c d e f t).2.1 (whatR a b c d e f t).2.2.1 false a b c d e f = some true := by
  rw [catamaranlaw07_PlaceOne.j0, if_neg (by decide)]
  unfold place_Sectors.f
  rw [Option.bind_some]
  cases hp : pOk a b c d e f with
  | false => unfold whatR at h; rw [hp, if_neg (by decide)] at h; exact absurd h (by simp)
  | true =>
    obtain ⟨p1, p2, p3, p4, p5, p6, _⟩ := pOk_of hp
    have hg := pg_bd p3 p4
    have h7 := mul_bd p1 p2 hg.1 hg.2
    have h8 := mul_bd p1 p2 p3 p4
    have hs : secR a b c d e f = (2 + 2 * c + a * pg b + 4 * (a * b), 0) := by unfold secR; rw [hp, if_pos rfl]
    rw [hs, if_pos rfl]
    have hw : whatR a b c d e f t = if t < 0 then (0, 0, 0, 2) else if t < 2 then (1, 0, 0, 0) else if t - 2 < 2 * c then (2, (t - 2) / c, (t - 2) % c, 0) else if t - 2 - 2 * c < a * pg b then (3, (t - 2 - 2 * c) / pg b, (t - 2 - 2 * c) % pg b, 0) else if t - 2 - 2 * c - a * pg b < 4 * (a * b) then (4, (t - 2 - 2 * c - a * pg b) / 4 / b, (t - 2 - 2 * c - a * pg b) / 4 % b, 0) else (0, 0, 0, 2) := by unfold whatR; rw [hp, if_pos rfl]
    by_cases t0 : t < 0
    · rw [hw, if_pos t0] at h; exact absurd h (by simp)
    · rw [if_neg t0]
      rw [if_neg t0] at hw
      by_cases t5 : t ≥ 2 + 2 * c + a * pg b + 4 * (a * b)
      · rw [hw, if_neg (by omega), if_neg (by omega), if_neg (by omega), if_neg (by omega)] at h; exact absurd h (by simp)
      · rw [decide_eq_false t5, catamaranlaw07_PlaceOne.j1, if_neg (by decide)]
        by_cases t1 : t < 2
        · rw [if_pos t1] at hw
          rw [hw, if_pos rfl, if_pos rfl, if_pos t1, if_pos rfl]
          rfl
        · rw [if_neg t1] at hw
          by_cases t2 : t - 2 < 2 * c
          · rw [if_pos t2] at hw
            obtain ⟨q1, q2, q3, q4, q5⟩ := nil (t := t - 2) (O := 2) (M := c) (by omega) (by omega) (by omega)
            have hr : areaR a b c d e f ((t - 2) / c) ((t - 2) % c) = (t, 0) := by
              unfold areaR
              rw [hp, if_pos rfl, inD_yes ⟨q1, q2, q3, q4⟩, if_pos rfl, q5]
              congr 1
              omega
            rw [hw, if_neg (by simp), if_pos rfl]
            unfold place_Area.f
            rw [hr]
            simp
          · rw [if_neg t2] at hw
            by_cases t3 : t - 2 - 2 * c < a * pg b
            · rw [if_pos t3] at hw
              obtain ⟨q1, q2, q3, q4, q5⟩ := nil (t := t - 2 - 2 * c) (O := a) (M := pg b) (by omega) (by omega) (by omega)
              have hr : pageR a b c d e f ((t - 2 - 2 * c) / pg b) ((t - 2 - 2 * c) % pg b) = (t, 0) := by
                unfold pageR
                rw [hp, if_pos rfl, inD_yes ⟨q1, q2, q3, q4⟩, if_pos rfl, q5]
                congr 1
                omega
              rw [hw, if_neg (by simp), if_neg (by simp), if_pos rfl]
              unfold place_Page.f
              rw [hr]
              simp
            · rw [if_neg t3, if_pos (by omega)] at hw
              obtain ⟨q1, q2, q3, q4, q5⟩ := nil (t := (t - 2 - 2 * c - a * pg b) / 4) (O := a) (M := b) (by omega) (by omega) (by omega)
              have hr : trackR a b c d e f ((t - 2 - 2 * c - a * pg b) / 4 / b) ((t - 2 - 2 * c - a * pg b) / 4 % b) = (2 + 2 * c + a * pg b + 4 * ((t - 2 - 2 * c - a * pg b) / 4), 0) := by
                unfold trackR
                rw [hp, if_pos rfl, inD_yes ⟨q1, q2, q3, q4⟩, if_pos rfl, q5]
              rw [hw, if_neg (by simp), if_neg (by simp), if_neg (by simp), if_pos rfl]
              unfold place_Track.f
              rw [hr, Option.bind_some, if_pos rfl, if_pos rfl, if_pos (by dsimp only; omega), w64 (by dsimp only; omega) (by dsimp only; omega)]
              rw [decide_eq_true (by dsimp only; omega)]
theorem placeOne : catamaranlaw07_PlaceOne.Pure := by
  intro a b c d e f t _ _ _ _ _ _ ht
  have ht2 := (wf_i64 ht).2
  refine ⟨2, ?_⟩
  unfold catamaranlaw07_PlaceOne.f place_What.f
  rw [alive_ok, Option.bind_some, if_pos ht2, Option.bind_some]
  by_cases h : (whatR a b c d e f t).2.2.2 = 0
  · rw [if_pos h]
    exact one 0 a b c d e f t h
  · rw [if_neg h, catamaranlaw07_PlaceOne.j0, if_pos rfl]
theorem wf_u8 {x : Int} (h : (Lit.int .u8 x).wf = true) : 0 ≤ x ∧ x ≤ 255 := by
  have h2 : IntKind.u8.min ≤ x ∧ x ≤ IntKind.u8.max := by simpa [Lit.wf] using h
  have h3 : IntKind.u8.min = 0 := by decide
  have h4 : IntKind.u8.max = 255 := by decide
  omega
theorem back (k : Nat) (a b c d e f x y j : Int) (h0 : 0 ≤ j) :
    catamaranlaw07_PlaceBack.j0 (k + 1) x y j true (pageR a b c d e f x y).1 (pageR a b c d e f x y).2 (trackR a b c d e f x y).1 (trackR a b c d e f x y).2 a b c d e f = some true := by
  rw [catamaranlaw07_PlaceBack.j0, Int.tmod_eq_emod_of_nonneg h0, w64 (x := j % 4) (by omega) (by omega)]
  by_cases h3 : (trackR a b c d e f x y).2 = 0
  · obtain ⟨hw, hb1, hb2⟩ := track_what h3 (j := j % 4) (by omega) (by omega)
    rw [w64 (by omega) (by omega)]
    have hT : place_What.f a b c d e f ((trackR a b c d e f x y).1 + j % 4) = some (4, x, y, 0) := by unfold place_What.f; rw [if_pos (by omega), hw]
    rw [hT]
    by_cases h2 : (pageR a b c d e f x y).2 = 0
    · obtain ⟨hw2, hb3, hb4⟩ := page_what h2
      have hP : place_What.f a b c d e f (pageR a b c d e f x y).1 = some (3, x, y, 0) := by unfold place_What.f; rw [if_pos (by omega), hw2]
      rw [hP]
      simp [h2, h3]
    · simp [h2, h3]
  · by_cases h2 : (pageR a b c d e f x y).2 = 0
    · obtain ⟨hw2, hb3, hb4⟩ := page_what h2
      have hP : place_What.f a b c d e f (pageR a b c d e f x y).1 = some (3, x, y, 0) := by unfold place_What.f; rw [if_pos (by omega), hw2]
      rw [hP]
      simp [h2, h3]
    · simp [h2, h3]
theorem placeBack : catamaranlaw07_PlaceBack.Pure := by
  intro a b c d e f x y j _ _ _ _ _ _ _ _ hj
  obtain ⟨h0, _⟩ := wf_u8 hj
  refine ⟨1, ?_⟩
  unfold catamaranlaw07_PlaceBack.f
  have hb := back 0 a b c d e f x y j h0
  rw [alive_ok, Option.bind_some]
  unfold place_Area.f place_Page.f place_Track.f
  simp only [Option.bind_some]
  by_cases h : (areaR a b c d e f x y).2 = 0
  · obtain ⟨hw, hb1, hb2⟩ := area_what h
    have hP : place_What.f a b c d e f (areaR a b c d e f x y).1 = some (2, x, y, 0) := by unfold place_What.f; rw [if_pos (by omega), hw]
    rw [if_pos h, hP, Option.bind_some, if_pos rfl, if_pos rfl, if_pos rfl, if_pos trivial]
    simpa using hb
  · rw [if_neg h]
    exact hb
end Go.Proofs.Ytammdlgpelljmaa.PlPlaceLib
