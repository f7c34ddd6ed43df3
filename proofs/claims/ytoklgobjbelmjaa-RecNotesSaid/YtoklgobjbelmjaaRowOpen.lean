/- A law's arguments opened: what is read as data by a type is what the print's kinds tell. -/
import Derived.Test.YtoklgobjbelmjaaWMore
import Derived.ChangeArms
import Derived.DataReads
import Derived.Deep.Slices
import Derived.WideShapes
namespace Go.Proofs.Ytoklgobjbelmjaa.RowOpen
open Go.RowKit Go.Proofs.YtoklgobjbelmjaaW.PrintWords
/-- What reads by type t is of kind d, and good. -/
def Opens {α : Type} (P : Program) (t : TypeId) (d : Kd α) (G : α → Prop) : Prop :=
  d.sz = P.cellsOf t ∧ ∀ (H : Type) (enc : TypeId × Value → H) (W : World) (fuel : Nat) (cs : List Value) (x : DataW H × List MemPlace), DataW.trod enc P W 0 (fun _ => true) true fuel t cs = some x → ∃ a : α, d.K W a cs ∧ G a
theorem opens_int {P : Program} {t : TypeId} {k : IntKind} (ht : P.underlying t = some (.int k)) (hc : P.cellsOf t = 1) : Opens P t (Kd.int k) (fun n => (Lit.int k n).wf = true) := by
  refine ⟨hc.symm, fun H enc W fuel cs x h => ?_⟩
  obtain ⟨n, rfl, _, hw⟩ := DataW.trod_int ht h
  exact ⟨n, rfl, hw⟩
theorem opens_bool {P : Program} {t : TypeId} (ht : P.underlying t = some .bool) (hc : P.cellsOf t = 1) : Opens P t Kd.bool (fun _ => True) := by
  refine ⟨hc.symm, fun H enc W fuel cs x h => ?_⟩
  obtain ⟨n, rfl, _⟩ := DataW.trod_bool ht h
  exact ⟨n, rfl, trivial⟩
theorem opens_string {P : Program} {t : TypeId} (ht : P.underlying t = some .string) (hc : P.cellsOf t = 1) : Opens P t Kd.string (fun s => s.size ≤ maxLen) := by
  refine ⟨hc.symm, fun H enc W fuel cs x h => ?_⟩
  obtain ⟨n, rfl, _, hm⟩ := DataW.trod_string ht h
  exact ⟨n, rfl, hm⟩
theorem list_of {α : Type} {R : Nat → α → Prop} : ∀ n, (∀ i, i < n → ∃ a, R i a) → ∃ l : List α, l.length = n ∧ ∀ i p, l[i]? = some p → R i p
  | 0, _ => ⟨[], rfl, fun i p h => by simp at h⟩
  | n + 1, h => by
    obtain ⟨l, hl, hr⟩ := list_of n fun i hi => h i (by omega)
    obtain ⟨a, ha⟩ := h n (by omega)
    refine ⟨l ++ [a], by simp [hl], fun i p hp => ?_⟩
    by_cases hi : i < n
    · rw [List.getElem?_append_left (by omega)] at hp
      exact hr i p hp
    · rw [List.getElem?_append_right (by omega)] at hp
      have h0 : i - l.length = 0 := by
        by_cases h0 : i - l.length = 0
        · exact h0
        · rw [List.getElem?_eq_none (by simp; omega)] at hp
          cases hp
      rw [h0] at hp
      injection hp with hp
      subst hp
      rw [show i = n by omega]
      exact ha
/-- A slice that reads as data. -/
theorem slice_opens {α : Type} {P : Program} {t e : TypeId} {d : Kd α} {G : α → Prop} (ht : P.underlying t = some (.slice e)) (he : Opens P e d G) {H : Type} {enc : TypeId × Value → H} {W : World} {fuel : Nat} {cs : List Value} {x : DataW H × List MemPlace}
    (h : DataW.trod enc P W 0 (fun _ => true) true fuel t cs = some x) : ∃ (xs : List α) (A : Option Addr) (c : Nat), cs = [.slice A xs.length c] ∧ xs.length ≤ c ∧ d.C W A xs.length xs ∧ xs.length ≤ maxLen ∧ ∀ y ∈ xs, G y := by
  rcases DataW.trod_slice ht h with ⟨rfl, _⟩ | ⟨a, len, cap, elems, rest, n, _, rfl, _, _, hl, hm, hel, hi, _, _⟩
  · exact ⟨[], none, 0, rfl, Nat.le_refl _, Kd.C_nil _ _, Nat.zero_le _, fun _ h => by cases h⟩
  · have each : ∀ i, i < len → ∃ y : α, (∃ c, c.length = d.sz ∧ d.K W y c ∧ ∀ j u, c[j]? = some u → W.cell? (a.add (i * d.sz + j)) = some u) ∧ G y := by
      intro i hil
      have h1 := hi i hil
      have h2 : elems[i]? = some elems[i] := List.getElem?_eq_getElem (by omega)
      rw [h2] at h1
      obtain ⟨cs, hcs, htr⟩ := Option.bind_eq_some_iff.1 h1
      obtain ⟨y, hK, hG⟩ := he.2 H enc W n cs _ htr
      obtain ⟨_, hcl, hat⟩ := World.cells?_some hcs
      refine ⟨y, ⟨cs, hcl.trans he.1.symm, hK, fun j u hj => ?_⟩, hG⟩
      have hjl := (List.getElem?_eq_some_iff.1 hj).1
      rw [he.1, ← Go.Deep.add_add, hat j (by omega), hj]
    obtain ⟨xs, hxl, hxs⟩ := list_of len each
    refine ⟨xs, some a, cap, by rw [hxl], by omega, ⟨rfl, by unfold maxLen at hm; omega, fun _ => ⟨a, rfl, fun j p hj => (hxs j p hj).1⟩⟩, by omega, fun y hy => ?_⟩
    obtain ⟨i, hil, hiy⟩ := List.getElem_of_mem hy
    exact (hxs i y (by rw [List.getElem?_eq_getElem hil, hiy])).2
theorem opens_slice {α : Type} {P : Program} {t e : TypeId} {d : Kd α} {G : α → Prop} (ht : P.underlying t = some (.slice e)) (hc : P.cellsOf t = 1) (he : Opens P e d G) : Opens P t (Kd.slice e d) (fun xs => xs.length ≤ maxLen ∧ ∀ y ∈ xs, G y) := by
  refine ⟨hc.symm, fun H enc W fuel cs x h => ?_⟩
  obtain ⟨xs, A, c, rfl, hl, hC, hm, hg⟩ := slice_opens ht he h
  exact ⟨xs, ⟨A, c, rfl, hl, hC⟩, hm, hg⟩
/-- Fields in line. -/
def OpensF {α : Type} (P : Program) (ts : List TypeId) (d : Kd α) (G : α → Prop) : Prop :=
  d.sz = (ts.map P.cellsOf).sum ∧ ∀ (H : Type) (enc : TypeId × Value → H) (W : World) (n : Nat) (cs : List Value), cs.length = (ts.map P.cellsOf).sum →
    (∀ (j : Nat) (t : TypeId), ts[j]? = some t → ∃ x, DataW.trod enc P W 0 (fun _ => true) true n t ((cs.drop ((ts.take j).map P.cellsOf).sum).take (P.cellsOf t)) = some x) → ∃ a : α, d.K W a cs ∧ G a
theorem opensF_one {α : Type} {P : Program} {t : TypeId} {d : Kd α} {G : α → Prop} (h : Opens P t d G) : OpensF P [t] d G := by
  refine ⟨by simpa using h.1, fun H enc W n cs hl hf => ?_⟩
  obtain ⟨x, hx⟩ := hf 0 t rfl
  simp only [List.map_cons, List.map_nil, List.sum_cons, List.sum_nil, Nat.add_zero] at hl
  simp only [List.take_zero, List.map_nil, List.sum_nil, List.drop_zero] at hx
  rw [List.take_of_length_le (by omega)] at hx
  exact h.2 H enc W n cs x hx
theorem opensF_cons {α β : Type} {P : Program} {t : TypeId} {ts : List TypeId} {d : Kd α} {d' : Kd β} {G : α → Prop} {G' : β → Prop} (h : Opens P t d G) (h' : OpensF P ts d' G') : OpensF P (t :: ts) (Kd.pair d d') (fun p => G p.1 ∧ G' p.2) := by
  refine ⟨by show d.sz + d'.sz = _; rw [h.1, h'.1]; simp, fun H enc W n cs hl hf => ?_⟩
  simp only [List.map_cons, List.sum_cons] at hl
  obtain ⟨x, hx⟩ := hf 0 t rfl
  simp only [List.take_zero, List.map_nil, List.sum_nil, List.drop_zero] at hx
  obtain ⟨a, ha, hg⟩ := h.2 H enc W n _ x hx
  obtain ⟨b, hb, hg'⟩ := h'.2 H enc W n (cs.drop (P.cellsOf t)) (by rw [List.length_drop]; omega) (fun j t' hj => by
    obtain ⟨y, hy⟩ := hf (j + 1) t' hj
    refine ⟨y, ?_⟩
    rw [List.drop_drop]
    simpa using hy)
  exact ⟨(a, b), ⟨_, _, (List.take_append_drop _ _).symm, ha, hb⟩, hg, hg'⟩
theorem opens_struct {α β : Type} {P : Program} {t : TypeId} {fs : Array Field} {ts : List TypeId} {d : Kd α} {G : α → Prop} (ht : P.underlying t = some (.struct fs)) (hts : fs.toList.map (·.type) = ts) (ho : fs.toList.map (·.offset) = (List.range ts.length).map fun j => ((ts.take j).map P.cellsOf).sum) (hc : P.cellsOf t = (ts.map P.cellsOf).sum)
    (h : OpensF P ts d G) (f : β → α) (g : α → β) (hfg : ∀ a, f (g a) = a) : Opens P t (Kd.iso d f) (fun b => G (f b)) := by
  refine ⟨h.1.trans hc.symm, fun H enc W fuel cs x hx => ?_⟩
  obtain ⟨xs, n, _, _, hl, hxl, hf⟩ := DataW.trod_struct ht hx
  obtain ⟨a, ha, hg⟩ := h.2 H enc W n cs (hl.trans hc) (fun j t' hj => by
    have hjl : j < ts.length := (List.getElem?_eq_some_iff.1 hj).1
    have hfl : j < fs.size := by rw [← hts] at hjl; simpa using hjl
    have h1 : fs[j]? = some fs[j] := Array.getElem?_eq_getElem hfl
    have h2 := hf j _ h1
    have h3 : fs[j].type = t' := by
      rw [← hts, List.getElem?_map, Array.getElem?_toList, h1] at hj
      simpa using hj
    have h4 : fs[j].offset = ((ts.take j).map P.cellsOf).sum := by
      have := congrArg (fun l => l[j]?) ho
      simp only [List.getElem?_map, Array.getElem?_toList, h1, List.getElem?_range hjl] at this
      simpa using this
    rw [h3, h4] at h2
    exact ⟨xs[j]'(by omega), h2.trans (List.getElem?_eq_getElem (by omega))⟩)
  exact ⟨g a, by show d.K W (f (g a)) cs; rw [hfg]; exact ha, by show G (f (g a)); rw [hfg]; exact hg⟩
/-- A struct that comes by value. -/
theorem struct_opens {α : Type} {P : Program} {t : TypeId} {fs : Array Field} {d : Kd α} {G : α → Prop} {H : Type} {enc : TypeId × Value → H} {W : World} {v : Value} {dd : DataW H} {ps : List MemPlace} {r : Reach} {b0 : Nat} (ht : P.underlying t = some (.struct fs)) (ho : Opens P t d G)
    (hv : Value.okWide P W r b0 t v) (h : DataW.Trod enc P W 0 (fun _ => true) true t v dd ps) : ∃ (a : α) (cs : List Value), v = .agg cs.toArray ∧ d.K W a cs ∧ G a := by
  obtain ⟨cs, rfl, _⟩ := Go.WideShapes.okWide_struct ht hv
  obtain ⟨fuel, hf⟩ := h
  obtain ⟨a, hK, hG⟩ := ho.2 H enc W fuel _ _ hf
  exact ⟨a, cs.toList, by simp, hK, hG⟩
end Go.Proofs.Ytoklgobjbelmjaa.RowOpen
