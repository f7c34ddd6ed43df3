/- Values with labels: what a law is handed, and what it answers. No conditions. -/
import Derived.Test.YtifgifhbefhkmaaSVr
import Derived.ChangeArms
import Derived.DataReads
import Derived.WideShapes
namespace Go.Proofs.Ytifgifhbefhkmaa.VM
set_option linter.unusedSimpArgs false
set_option linter.unusedVariables false
open Go Go.RowKit
noncomputable section

def lawE (W : World) : Env := ⟨W, fun _ => none, fun _ => none, W.heap.size, fun _ => True⟩
/-- Labels for cells of the memory that was there. -/
def KL (W : World) (l : List SV) (cs : List Value) : Prop := ∃ vs : List V, RL noE l vs ∧ RelL (lawE W) vs cs
theorem KL.append {W : World} {l m : List SV} {cs ds : List Value} (h : KL W l cs) (k : KL W m ds) : KL W (l ++ m) (cs ++ ds) := by
  obtain ⟨vs, h1, h2⟩ := h
  obtain ⟨us, k1, k2⟩ := k
  exact ⟨vs ++ us, h1.append k1, h2.append k2⟩
/-- What reads as data by type t has these labels, and is good. -/
def LO {α : Type} (P : Program) (t : TypeId) (k : Nat) (e : α → List SV) (G : α → Prop) : Prop :=
  k = P.cellsOf t ∧ ∀ (H : Type) (enc : TypeId × Value → H) (W : World) (fuel : Nat) (cs : List Value) (x : DataW H × List MemPlace), DataW.trod enc P W 0 (fun _ => true) true fuel t cs = some x → ∃ a : α, KL W (e a) cs ∧ G a
def eI (k : IntKind) (n : Int) : List SV := [.int k (.sym n)]
def eO (b : Bool) : List SV := [.bool (.sym (b = true))]
theorem lo_int {P : Program} {t : TypeId} {k : IntKind} (ht : P.underlying t = some (.int k)) (hc : P.cellsOf t = 1) : LO P t 1 (eI k) (fun n => k.min ≤ n ∧ n ≤ k.max) := by
  refine ⟨hc.symm, fun H enc W fuel cs x h => ?_⟩
  obtain ⟨n, rfl, _, hw⟩ := DataW.trod_int ht h
  exact ⟨n, ⟨[.int k n], .cons (.int _ _ _ rfl) .nil, .cons (.int k n) .nil⟩, by simpa [Lit.wf] using hw⟩
theorem lo_bool {P : Program} {t : TypeId} (ht : P.underlying t = some .bool) (hc : P.cellsOf t = 1) : LO P t 1 eO (fun _ => True) := by
  refine ⟨hc.symm, fun H enc W fuel cs x h => ?_⟩
  obtain ⟨n, rfl, _⟩ := DataW.trod_bool ht h
  exact ⟨n, ⟨[.bool n], .cons (.bool _ _ Iff.rfl) .nil, .cons (.bool n) .nil⟩, trivial⟩
def eC (b : Bool) : List SV := [.bool (.lit b)]
theorem lo_bit {P : Program} {t : TypeId} (ht : P.underlying t = some .bool) (hc : P.cellsOf t = 1) : LO P t 1 eC (fun _ => True) := by
  refine ⟨hc.symm, fun H enc W fuel cs x h => ?_⟩
  obtain ⟨n, rfl, _⟩ := DataW.trod_bool ht h
  exact ⟨n, ⟨[.bool n], .cons (.bool _ _ Iff.rfl) .nil, .cons (.bool n) .nil⟩, trivial⟩
theorem kl_list {W : World} {α : Type} {e : α → List SV} {k : Nat} {G : α → Prop} (a : Addr) : ∀ n, (∀ i, i < n → ∃ y : α, (∃ c : List Value, c.length = k ∧ KL W (e y) c ∧ ∀ j u, c[j]? = some u → W.cell? (a.add (i * k + j)) = some u) ∧ G y) →
    ∃ (xs : List α) (cs : List Value), xs.length = n ∧ cs.length = n * k ∧ KL W (xs.flatMap e) cs ∧ (∀ j u, cs[j]? = some u → W.cell? (a.add j) = some u) ∧ ∀ y ∈ xs, G y
  | 0, _ => ⟨[], [], rfl, by simp, ⟨[], .nil, .nil⟩, fun j u h => by simp at h, fun y h => by cases h⟩
  | n + 1, h => by
    obtain ⟨xs, cs, h1, h2, h3, h4, h5⟩ := kl_list a n fun i hi => h i (by omega)
    obtain ⟨y, ⟨c, g1, g2, g3⟩, g4⟩ := h n (by omega)
    refine ⟨xs ++ [y], cs ++ c, by simp [h1], by rw [List.length_append, h2, g1, Nat.add_mul]; omega, ?_, fun j u hj => ?_, fun z hz => ?_⟩
    · rw [List.flatMap_append]
      refine h3.append ?_
      simpa using g2
    · by_cases q : j < cs.length
      · rw [List.getElem?_append_left q] at hj
        exact h4 j u hj
      · rw [List.getElem?_append_right (by omega)] at hj
        have := g3 _ u hj
        rwa [show n * k + (j - cs.length) = j by omega] at this
    · rcases List.mem_append.1 hz with q | q
      · exact h5 z q
      · rw [List.mem_singleton.1 q]; exact g4
theorem cell_spot {W : World} {a : Addr} {v : Value} (h : W.cell? a = some v) : a.spot = none ∧ a.block < W.heap.size := by
  unfold World.cell? at h
  split at h
  · rename_i hh
    split at h
    · cases h
    · rename_i hs
      exact ⟨by simpa using hs, lt_of_heap hh⟩
  · cases h
/-- A slice of things. -/
def eR {α : Type} (e : α → List SV) (k d : Nat) (fl : Bool) (xs : List α) : List SV := [.slI false (.rows e k d fl xs) (.sym xs.length) false]
theorem lo_slice {α : Type} {P : Program} {t el : TypeId} {e : α → List SV} {k d : Nat} {fl : Bool} {G : α → Prop} (ht : P.underlying t = some (.slice el)) (hc : P.cellsOf t = 1) (he : LO P el k e G) (hk : 1 ≤ k) (hr : ROK e k d fl) :
    LO P t 1 (eR e k d fl) (fun xs => xs.length ≤ 9223372036854775807 ∧ ∀ y ∈ xs, G y) := by
  refine ⟨hc.symm, fun H enc W fuel cs x h => ?_⟩
  rcases DataW.trod_slice ht h with ⟨rfl, _⟩ | ⟨a, len, cap, elems, rest, n, _, rfl, _, _, hl, hm, hel, hi, _, _⟩
  · exact ⟨[], ⟨[.nilSl], .cons (.slIn rfl hr) .nil, .cons .nilSl .nil⟩, Nat.zero_le _, fun _ h => by cases h⟩
  · have each : ∀ i, i < len → ∃ y : α, (∃ c : List Value, c.length = k ∧ KL W (e y) c ∧ ∀ j u, c[j]? = some u → W.cell? (a.add (i * k + j)) = some u) ∧ G y := by
      intro i hil
      have h1 := hi i hil
      have h2 : elems[i]? = some elems[i] := List.getElem?_eq_getElem (by omega)
      rw [h2] at h1
      obtain ⟨cs, hcs, htr⟩ := Option.bind_eq_some_iff.1 h1
      obtain ⟨y, hK, hG⟩ := he.2 H enc W n cs _ htr
      obtain ⟨_, hcl, hat⟩ := World.cells?_some hcs
      refine ⟨y, ⟨cs, hcl.trans he.1.symm, hK, fun j u hj => ?_⟩, hG⟩
      have hjl := (List.getElem?_eq_some_iff.1 hj).1
      rw [he.1, ← show (a.add (i * P.cellsOf el)).add j = a.add (i * P.cellsOf el + j) by unfold Addr.add; split <;> split <;> split <;> simp_all <;> omega, hat j (by omega), hj]
    obtain ⟨xs, cs, g1, g2, ⟨vs, g3, g4⟩, g5, g6⟩ := kl_list a len each
    refine ⟨xs, ?_, by unfold maxLen at hm; omega, g6⟩
    by_cases h0 : len = 0
    · have hx : xs = [] := List.length_eq_zero_iff.1 (g1.trans h0)
      subst hx
      refine ⟨[.slI false [] 0 false], .cons (.slI0 id id rfl hr) .nil, .cons ?_ .nil⟩
      rw [h0]
      exact .slI0 (fun q => by cases q)
    · have hlen : 0 < cs.length := by rw [g2]; exact Nat.mul_pos (by omega) (by omega)
      have hc0 := g5 0 _ (List.getElem?_eq_getElem hlen)
      obtain ⟨hs, hb⟩ := cell_spot hc0
      have ha : a = ⟨a.block, a.off, none⟩ := by
        have : (a.add 0) = a := by unfold Addr.add; simp
        rw [this] at hs
        cases a; simp at hs; simp [hs]
      have hb' : a.block < W.heap.size := by
        have : (a.add 0) = a := by unfold Addr.add; simp
        rwa [this] at hb
      rw [ha]
      refine ⟨[.slI false vs len false], .cons (.slI id id g1.symm g3 hr) .nil, .cons (.slI ⟨hb', fun _ => trivial, fun b blk e o q => by cases q⟩ (fun q => by cases q) hl (fun q => by cases q) g4 fun i v hv => ?_) .nil⟩
      have := g5 i v hv
      rw [ha, Addr.add_lit] at this
      exact this
/-- Fields in line. -/
def LF {α : Type} (P : Program) (ts : List TypeId) (k : Nat) (e : α → List SV) (G : α → Prop) : Prop :=
  k = (ts.map P.cellsOf).sum ∧ ∀ (H : Type) (enc : TypeId × Value → H) (W : World) (n : Nat) (cs : List Value), cs.length = (ts.map P.cellsOf).sum →
    (∀ (j : Nat) (t : TypeId), ts[j]? = some t → ∃ x, DataW.trod enc P W 0 (fun _ => true) true n t ((cs.drop ((ts.take j).map P.cellsOf).sum).take (P.cellsOf t)) = some x) → ∃ a : α, KL W (e a) cs ∧ G a
theorem lf_one {α : Type} {P : Program} {t : TypeId} {k : Nat} {e : α → List SV} {G : α → Prop} (h : LO P t k e G) : LF P [t] k e G := by
  refine ⟨by simpa using h.1, fun H enc W n cs hl hf => ?_⟩
  obtain ⟨x, hx⟩ := hf 0 t rfl
  simp only [List.map_cons, List.map_nil, List.sum_cons, List.sum_nil, Nat.add_zero] at hl
  simp only [List.take_zero, List.map_nil, List.sum_nil, List.drop_zero] at hx
  rw [List.take_of_length_le (by omega)] at hx
  exact h.2 H enc W n cs x hx
def eP {α β : Type} (e : α → List SV) (e' : β → List SV) (p : α × β) : List SV := e p.1 ++ e' p.2
theorem lf_cons {α β : Type} {P : Program} {t : TypeId} {ts : List TypeId} {k k' : Nat} {e : α → List SV} {e' : β → List SV} {G : α → Prop} {G' : β → Prop} (h : LO P t k e G) (h' : LF P ts k' e' G') : LF P (t :: ts) (k + k') (eP e e') (fun p => G p.1 ∧ G' p.2) := by
  refine ⟨by rw [h.1, h'.1]; simp, fun H enc W n cs hl hf => ?_⟩
  simp only [List.map_cons, List.sum_cons] at hl
  obtain ⟨x, hx⟩ := hf 0 t rfl
  simp only [List.take_zero, List.map_nil, List.sum_nil, List.drop_zero] at hx
  obtain ⟨a, ha, hg⟩ := h.2 H enc W n _ x hx
  obtain ⟨b, hb, hg'⟩ := h'.2 H enc W n (cs.drop (P.cellsOf t)) (by rw [List.length_drop]; omega) (fun j t' hj => by
    obtain ⟨y, hy⟩ := hf (j + 1) t' hj
    refine ⟨y, ?_⟩
    rw [List.drop_drop]
    simpa using hy)
  refine ⟨(a, b), ?_, hg, hg'⟩
  have := ha.append hb
  rwa [List.take_append_drop] at this
theorem lo_struct {α β : Type} {P : Program} {t : TypeId} {fs : Array Field} {ts : List TypeId} {k : Nat} {e : α → List SV} {G : α → Prop} (ht : P.underlying t = some (.struct fs)) (hts : fs.toList.map (·.type) = ts) (ho : fs.toList.map (·.offset) = (List.range ts.length).map fun j => ((ts.take j).map P.cellsOf).sum) (hc : P.cellsOf t = (ts.map P.cellsOf).sum)
    (h : LF P ts k e G) (g : α → β) (e' : β → List SV) (G' : β → Prop) (he : ∀ a, e' (g a) = e a) (hG : ∀ a, G a → G' (g a)) : LO P t k e' G' := by
  refine ⟨h.1.trans hc.symm, fun H enc W fuel cs x hx => ?_⟩
  obtain ⟨xs, n, _, _, hl, hxl, hf⟩ := DataW.trod_struct ht hx
  obtain ⟨a, ha, hg⟩ := h.2 H enc W n cs (hl.trans hc) (fun j t' hj => by
    have hjl : j < ts.length := (List.getElem?_eq_some_iff.1 hj).1
    have hfl : j < fs.size := by rw [← hts] at hjl; simpa using hjl
    have h1 : fs[j]? = some fs[j] := Array.getElem?_eq_getElem hfl
    have h2 := hf j _ h1
    have h3 : fs[j].type = t' := by
      rw [← hts, List.getElem?_map, Array.getElem?_toList, h1] at hj
      simpa using hj
    have h4 : fs[j].offset = ((ts.take j).map P.cellsOf).sum := by
      have := congrArg (fun l => l[j]?) ho
      simp only [List.getElem?_map, Array.getElem?_toList, h1, List.getElem?_range hjl] at this
      simpa using this
    rw [h3, h4] at h2
    exact ⟨xs[j]'(by omega), h2.trans (List.getElem?_eq_getElem (by omega))⟩)
  exact ⟨g a, by rw [he]; exact ha, hG a hg⟩
/-- An argument of one cell. -/
theorem arg_one {α : Type} {P : Program} {t : TypeId} {e : α → List SV} {s : α → SV} {G : α → Prop} {H : Type} {enc : TypeId × Value → H} {W : World} {v : Value} {dd : DataW H} {ps : List MemPlace} (ho : LO P t 1 e G) (hs : ∀ a, e a = [s a])
    (hv : v.cells = #[v]) (h : DataW.Trod enc P W 0 (fun _ => true) true t v dd ps) : ∃ a : α, (∃ c, RV noE (s a) c ∧ Rel (lawE W) c v) ∧ G a := by
  obtain ⟨fuel, hf⟩ := h
  obtain ⟨a, ⟨vs, h1, h2⟩, hg⟩ := ho.2 H enc W fuel _ _ hf
  rw [hs] at h1
  rw [hv] at h2
  cases h1 with
  | cons r q =>
    cases q
    cases h2 with
    | cons r2 q2 => exact ⟨a, ⟨_, r, r2⟩, hg⟩
/-- A struct that comes by value. -/
theorem arg_agg {α : Type} {P : Program} {t : TypeId} {fs : Array Field} {k : Nat} {e : α → List SV} {G : α → Prop} {H : Type} {enc : TypeId × Value → H} {W : World} {v : Value} {dd : DataW H} {ps : List MemPlace} {r : Reach} {b0 : Nat} (ht : P.underlying t = some (.struct fs)) (ho : LO P t k e G)
    (hv : Value.okWide P W r b0 t v) (h : DataW.Trod enc P W 0 (fun _ => true) true t v dd ps) : ∃ a : α, (∃ c, RV noE (.agg (e a)) c ∧ Rel (lawE W) c v) ∧ G a := by
  obtain ⟨cs, rfl, _⟩ := Go.WideShapes.okWide_struct ht hv
  obtain ⟨fuel, hf⟩ := h
  obtain ⟨a, ⟨vs, h1, h2⟩, hG⟩ := ho.2 H enc W fuel _ _ hf
  refine ⟨a, ⟨.agg vs, .agg h1, ?_⟩, hG⟩
  have := Rel.agg (E := lawE W) h2
  simpa [Value.cells] using this

/-- What is asked of a call's answer. -/
def post (r v : SV) (bs : List SBlk) : Prop := match bs with | [] => sle 12 v r | _ => Stuck 300
theorem post_of {r v : SV} {bs : List SBlk} (h : post r v bs) : bs = [] ∧ sle 12 v r := by
  cases bs with
  | nil => exact ⟨rfl, h⟩
  | cons b bs => cases h
/-- A law that answers true. -/
theorem law_true {P : Program} {cf : Cfg} {sx : SX} (hm : P.follows .mixedOrders = true) (hext : ExtOK P cf) (hsx : SXOK P cf sx) {m : Nat} {f : FuncId} {as : List SV} (h : scallI sx P cf (sexec sx P cf m) f 0 as (post (.bool (.lit true)))) {W : World} {vs : List V} {cs : List Value}
    (has : RL noE as vs) (hvs : RelL (lawE W) vs cs) : Calls P f cs.toArray W (fun e w' => e = .returned (.bool true) ∧ Below W.heap.size W w') := by
  obtain ⟨rv, blks, srv, sblks, ⟨N, hN⟩, h1, h2, h3⟩ := scallI_of hsx (sexec_of hsx m) f 0 as _ h vs has 0
  obtain ⟨h4, h5⟩ := post_of h1
  subst h4
  cases h2
  have h6 := sle_rel 12 _ _ _ h5 h3
  cases h6 with
  | bool _ c hc =>
    have : c = true := hc.2 rfl
    subst this
    exact calls_true hm hext (hN N (Nat.le_refl _)) hvs
theorem sxok_none {P : Program} {cf : Cfg} {row : TypeId → Option SRow} : SXOK P cf ⟨row, fun _ => none, fun _ => none⟩ := ⟨fun f C h => (by cases h), fun i L h => (by cases h)⟩
end
end Go.Proofs.Ytifgifhbefhkmaa.VM
