/- More words for the functions that are told by hand: nil tests of slices, copies. -/
import Derived.Test.YtnnfcebnmogdmaaOurs
import Derived.Lib.SliceRun
import Derived.Laws.CopyOwn
namespace Go.Proofs.YtnnfcebnmogdmaaW.PrintWords
open Go.RowKit
theorem C_none {α : Type} {d : Kd α} {w : World} {n : Nat} {xs : List α} (h : d.C w none n xs) (hn : n = xs.length) : xs = [] := by
  obtain ⟨_, _, hA⟩ := h
  cases xs with
  | nil => rfl
  | cons x t => exact absurd (hA (by rw [hn]; simp)) (by simp)
/-- A block known whole is a row of the call's own. -/
theorem row_whole {k : IntKind} {e G base : Nat} {xs : List Int} {w' : World} {D : Array Value} (hD : w'.heap[G]? = some (.cells D e (0, 0))) (hd : D.toList = xs.map (fun x => Value.int k x)) (hb : base ≤ G) (hm : xs.length < 140737488355328) :
    Kd.R (Kd.int k) e w' base (fun _ => True) (.slice (some ⟨G, 0, none⟩) xs.length xs.length) xs := by
  have hs : D.size = xs.length := by rw [← Array.length_toList, hd, List.length_map]
  refine Kd.R_of_own (h1 := fun _ => rfl) ⟨by simp [encs], .inr ⟨G, xs.length, D, rfl, hb, hD, Nat.le_refl _, by unfold maxLen; omega, by omega, ?_⟩⟩ (fun _ _ => trivial)
  rw [hd, List.take_of_length_le (by simp)]
  rfl
theorem int_cells {k : IntKind} {w : World} {ad : Addr} {xs : List Int} (h : (Kd.int k).C w (some ad) xs.length xs) : ∀ j v, (xs.map (fun x => Value.int k x))[j]? = some v → w.cell? (ad.add j) = some v := by
  intro j v hv
  rw [List.getElem?_map] at hv
  obtain ⟨x, hx, rfl⟩ := Option.map_eq_some_iff.1 hv
  obtain ⟨hj, rfl⟩ := List.getElem?_eq_some_iff.1 hx
  obtain ⟨ad1, e1, hx1⟩ := Kd.at_int h (j : Int) (by omega) (by omega)
  cases e1
  rw [Int.toNat_natCast] at hx1
  rw [hx1]
  simp [rd, hj]
end Go.Proofs.YtnnfcebnmogdmaaW.PrintWords
