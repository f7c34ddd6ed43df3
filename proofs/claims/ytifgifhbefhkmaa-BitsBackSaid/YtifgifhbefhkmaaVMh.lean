/- The machine of values: slices. No conditions. -/
import Derived.Test.YtifgifhbefhkmaaVMg
namespace Go.Proofs.Ytifgifhbefhkmaa.VM
set_option linter.unusedSimpArgs false
set_option linter.unusedVariables false
open Go Go.RowKit
noncomputable section

def zerosC (z : List Value) : Nat → List Value
  | 0 => []
  | n + 1 => z ++ zerosC z n
theorem zerosV_rel {E : Env} {z : List V} {zc : List Value} (h : RelL E z zc) : ∀ n, RelL E (zerosV z n) (zerosC zc n)
  | 0 => .nil
  | n + 1 => h.append (zerosV_rel h n)
theorem zerosC_length (z : List Value) : ∀ n, (zerosC z n).length = n * z.length
  | 0 => by simp [zerosC]
  | n + 1 => by rw [zerosC, List.length_append, zerosC_length z n, Nat.add_mul]; omega
theorem zerosV_length (z : List V) : ∀ n, (zerosV z n).length = n * z.length
  | 0 => by simp [zerosV]
  | n + 1 => by rw [zerosV, List.length_append, zerosV_length z n, Nat.add_mul]; omega
theorem zerosC_get (z : List Value) (hz : 0 < z.length) : ∀ (n i : Nat), i < n * z.length → (zerosC z n)[i]? = z[i % z.length]?
  | 0, i, h => by simp at h
  | n + 1, i, h => by
    rw [zerosC, List.getElem?_append]
    split
    · rename_i hlt
      rw [Nat.mod_eq_of_lt hlt]
    · rename_i hge
      rw [zerosC_get z hz n (i - z.length) (by rw [Nat.add_mul, Nat.one_mul] at h; omega)]
      congr 1
      exact (Nat.mod_eq_sub_mod (Nat.le_of_not_lt hge)).symm
theorem range_zeros (z : Array Value) (n : Nat) : ((Array.range (n * z.size)).map fun i => z[i % z.size]!).toList = zerosC z.toList n := by
  apply List.ext_getElem?
  intro i
  by_cases h0 : z.size = 0
  · have hz : z.toList = [] := by
      have : z.toList.length = 0 := by simpa using h0
      exact List.length_eq_zero_iff.1 this
    have : zerosC z.toList n = [] := by
      rw [hz]
      clear h0 hz
      induction n with
      | zero => rfl
      | succ n ih => rw [zerosC, ih]; rfl
    rw [this]
    simp [h0]
  · by_cases hi : i < n * z.size
    · rw [zerosC_get z.toList (by simp; omega) n i (by simpa using hi)]
      have hm : i % z.size < z.size := Nat.mod_lt _ (by omega)
      simp [hi, hm]
    · have hl := zerosC_length z.toList n
      rw [List.getElem?_eq_none (by simp; omega), List.getElem?_eq_none (by rw [hl]; simp; omega)]
theorem zerosC_take (z : List Value) (n m : Nat) (h : n ≤ m) : (zerosC z m).take (n * z.length) = zerosC z n := by
  obtain ⟨d, rfl⟩ := Nat.exists_eq_add_of_le h
  clear h
  induction n with
  | zero => simp [zerosC]
  | succ n ih =>
    rw [show n + 1 + d = (n + d) + 1 from by omega, zerosC, zerosC, List.take_append, Nat.add_mul, Nat.one_mul]
    rw [List.take_of_length_le (by omega), show n * z.length + z.length - z.length = n * z.length from by omega, ih]

section
variable {P : Program} {E : Env} {a : Act} {o : Oper} {base : Nat} {t : List V} {L : Heap}

theorem makeSlice_sound (hR : HRel E) (ht : RelL E t a.tmps.toList) {ty e : TypeId} {x y : Operand} (ho : o.op = .makeSlice ty x y) {l c : Int} {kl kc : IntKind} (hl : evalV t x = some (.int kl l)) (hc : evalV t y = some (.int kc c))
    (hu : P.underlying ty = some (.slice e)) {z : List V} {i : TypeInfo} (hz : zeroV P e = some z) (hi : P.info? e = some i) (h0 : 0 ≤ l) (h1 : l ≤ c) (h2 : c ≤ 1099511627776) (hb : i.bytes ≤ 256) (hfresh : E.ρ base = none) :
    OpSound P E a o base ⟨.slB base 0 0 l.toNat, [], [⟨zerosV z l.toNat, z.length, 0, false⟩]⟩ := by
  obtain ⟨zv, n, g1, g2, g3, g4⟩ := zeroV_run hz
  have rl := evalV_rel ht hl
  have rc := evalV_rel ht hc
  generalize hcl : a.eval x = cl at rl
  generalize hcc : a.eval y = cc at rc
  cases rl
  cases rc
  have hzl := (g2 E).length
  have hzs : zv.cells.size = z.length := by simp at hzl; omega
  have hsz : i.size = z.length := by
    have := g4 E.w
    simp [sizeOf, typeInfo, hi] at this
    omega
  have hwl : IntKind.i64.wrap l = l := by simp [IntKind.wrap, IntKind.bits, IntKind.signed]; omega
  have hwc : IntKind.i64.wrap c = c := by simp [IntKind.wrap, IntKind.bits, IntKind.signed]; omega
  have hmul : (i.bytes : Int) * c ≤ 281474976710656 := by
    have h3 : (i.bytes : Int) * c ≤ 256 * c := Int.mul_le_mul_of_nonneg_right (by omega) (by omega)
    omega
  have hrz := range_zeros zv.cells c.toNat
  rw [hzs] at hrz
  refine opSound_new (cells := zerosV z l.toNat) (k := z.length) (arr := (Array.range (c.toNat * z.length)).map (fun i => zv.cells[i % z.length]!)) (el := e) (lo := 0) (hi := 0)
    (w' := { E.w with heap := E.w.heap.push (.cells ((Array.range (c.toNat * z.length)).map (fun i => zv.cells[i % z.length]!)) e (0, 0)) }) (cv := .slice (some ⟨E.w.heap.size, 0, none⟩) l.toNat c.toNat) hR ?_ rfl rfl rfl rfl hfresh (by omega) ?_ ?_ ?_
  · rw [execOp, ho]
    have q1 : ¬ ((c < 0 ∨ 281474976710656 < (i.bytes : Int) * c) ∨ l < 0 ∨ c < l) := by omega
    have q2 : ¬ (c < 0) := by omega
    have q3 : ¬ (281474976710656 < (i.bytes : Int) * c) := by omega
    have q4 : ¬ (l < 0) := by omega
    have q5 : ¬ (c < l) := by omega
    by_cases hn : c.toNat * z.length = 0
    · simp [Instr.makeSlice, run_underlying hu, hcl, hcc, asInt, asIntOf, typeInfo, hi, hwl, hwc, q2, q3, q4, q5, askRoom, sizeOf, hsz, hn, newRow]
      simp only [Array.range_zero', Array.map_empty]
    · simp [Instr.makeSlice, run_underlying hu, hcl, hcc, asInt, asIntOf, typeInfo, hi, hwl, hwc, q2, q3, q4, q5, askRoom, sizeOf, hsz, hn, newRow, g1, hzs]
  · rw [zerosV_length]
    simp
    exact Nat.mul_le_mul_right _ (by omega)
  · rw [hrz, zerosV_length, hzl, zerosC_take _ _ _ (by omega)]
    exact zerosV_rel (g2 E) _
  · refine .slB (e := ⟨some (E.w.heap.size, 0), z.length, 0, _⟩) (by simp [updF]; rfl) (Nat.le_refl _) (fun _ => ⟨rfl, .inl ⟨_, _, rfl, rfl, by omega, ?_⟩⟩)
    simp

def evalParts (t : List V) : List (Nat × Operand) → Option (List (Nat × V))
  | [] => some []
  | (i, x) :: r => match evalV t x, evalParts t r with
    | some v, some vs => some ((i, v) :: vs)
    | _, _ => none
inductive PRel (E : Env) : List (Nat × V) → List (Nat × Value) → Prop
  | nil : PRel E [] []
  | cons {i : Nat} {v : V} {c : Value} {vs : List (Nat × V)} {cs : List (Nat × Value)} : Rel E v c → PRel E vs cs → PRel E ((i, v) :: vs) ((i, c) :: cs)
theorem evalParts_rel (ht : RelL E t a.tmps.toList) : ∀ {ps : List (Nat × Operand)} {vs : List (Nat × V)}, evalParts t ps = some vs → PRel E vs (ps.map fun (i, x) => (i, a.eval x))
  | [], vs, h => by cases h; exact .nil
  | (i, x) :: r, vs, h => by
    simp only [evalParts] at h
    cases h1 : evalV t x with
    | none => simp [h1] at h
    | some v =>
      cases h2 : evalParts t r with
      | none => simp [h1, h2] at h
      | some ws =>
        simp [h1, h2] at h
        subst h
        exact .cons (evalV_rel ht h1) (evalParts_rel ht h2)
theorem fill_list (off : Nat) : ∀ (l : List Value) (k : Nat) (arr : Array Value), ((l.zipIdx k).foldl (fun cs (c, j) => cs.setIfInBounds (off + j) c) arr).toList = setC arr.toList (off + k) l
  | [], k, arr => rfl
  | v :: r, k, arr => by
    rw [List.zipIdx_cons, List.foldl_cons, fill_list off r (k + 1)]
    simp [setC, Nat.add_assoc]
theorem fill_one (off : Nat) (vs : Array Value) (arr : Array Value) : (vs.zipIdx.foldl (fun cs (c, j) => cs.setIfInBounds (off + j) c) arr).toList = setC arr.toList off vs.toList := by
  rw [← Array.foldl_toList, Array.toList_zipIdx]
  exact fill_list off vs.toList 0 arr
theorem fill_rel {place : Nat → Option (Nat × Nat)} : ∀ {vs : List (Nat × V)} {cs : List (Nat × Value)} {cells out : List V} {arr : Array Value}, PRel E vs cs → RelL E cells arr.toList → fillV place cells vs = some out →
    ∃ arr', Instr.fill place arr cs = some arr' ∧ RelL E out arr'.toList
  | _, _, cells, out, arr, .nil, hr, h => by cases h; exact ⟨arr, rfl, hr⟩
  | _, _, cells, out, arr, .cons (i := i) (v := v) (c := c) r s, hr, h => by
    simp only [fillV] at h
    split at h
    · cases h
    · rename_i off size hp
      split at h
      · rename_i hcond
        obtain ⟨h1, h2, h3⟩ := hcond
        have rc := cells_rel r h3
        have hl := rc.length
        have hcl := hr.length
        have hr' : RelL E (setCells cells off v.cells) (c.cells.zipIdx.foldl (fun cs (c, j) => cs.setIfInBounds (off + j) c) arr).toList := by
          rw [fill_one]
          exact setCells_rel off rc hr
        obtain ⟨arr', g1, g2⟩ := fill_rel s hr' h
        refine ⟨arr', ?_, g2⟩
        have hs : c.cells.size = size := by simp at hl; omega
        have hfit : ¬ (arr.size < off + size) := by simp at hcl; omega
        simp only [Instr.fill, hp, hs, ne_eq, not_true_eq_false, decide_false, Bool.false_or, gt_iff_lt, hfit, Bool.false_eq_true, if_false]
        exact g1
      · cases h

/-- A new row that is not written any more. -/
theorem imm_env (hR : HRel E) {w' : World} {arr : Array Value} {el : TypeId} {fr : Nat × Nat} (hw : w'.heap = E.w.heap.push (.cells arr el fr))
    (h5 : w'.os = E.w.os) (h6 : w'.tape = E.w.tape) (h7 : w'.output = E.w.output) {cells : List V} (hr : RelL E cells arr.toList) (n : Nat) :
    Ext E { E with w := w' } ∧ HRel { E with w := w' } ∧ Below E.B E.w w' ∧ Rel { E with w := w' } (.slI true cells n true) (.slice (some ⟨E.w.heap.size, 0, none⟩) n n) := by
  have hold : ∀ c, c < E.w.heap.size → w'.heap[c]? = E.w.heap[c]? := by
    intro c hc
    rw [hw, Array.getElem?_push, if_neg (by omega)]
  have hz : E.w.heap.size ≤ w'.heap.size := by rw [hw]; simp
  have hx := ext_world hold hz
  refine ⟨hx, hrel_world hR hold hz, ⟨h5, h6, h7, hz, fun c hc => hold c (Nat.lt_of_lt_of_le hc hR.le)⟩, ?_⟩
  refine .slI ⟨by rw [hw]; simp, fun h => ?_, fun b blk e o h1 h2 h3 h4 => ?_⟩ (fun _ => hR.le) (Nat.le_refl _) (fun _ => rfl) (hr.mono hx) fun i v hv => ?_
  · have := hR.le; exact absurd h (by simp; omega)
  · obtain ⟨e', h5, h6⟩ := hR.at_ b blk h1
    have h3' : E.ρ b = some e := h3
    rw [h5] at h3'
    cases h3'
    have := (h6.lt h4).2
    omega
  · have hh : w'.heap[E.w.heap.size]? = some (.cells arr el fr) := by rw [hw]; simp
    rw [cell_at hh]
    simpa using hv

def buildSliceV (P : Program) (t : List V) (ty : TypeId) (len : Nat) (parts : Array (Nat × Operand)) : Option Eff :=
  match P.underlying ty with
  | some (.slice e) => match zeroV P e, evalParts t parts.toList with
    | some z, some vs => if len * z.length ≤ 16777216 then match fillV (fun i => some (i * z.length, z.length)) (zerosV z len) vs with
      | some cells => some (Eff.pure (.slI true cells len true))
      | none => none else none
    | _, _ => none
  | _ => none
theorem buildSlice_sound (hR : HRel E) (ht : RelL E t a.tmps.toList) {ty : TypeId} {len : Nat} {parts : Array (Nat × Operand)} (ho : o.op = .buildSlice ty len parts) {eff : Eff}
    (h : buildSliceV P t ty len parts = some eff) : OpSound P E a o base eff := by
  unfold buildSliceV at h
  split at h
  · rename_i e hu
    split at h
    · rename_i z vs hz hvs
      split at h
      · rename_i hlen
        split at h
        · rename_i cells hf
          cases h
          obtain ⟨zv, n, g1, g2, g3, g4⟩ := zeroV_run hz
          have hzl := (g2 E).length
          have hzs : zv.cells.size = z.length := by simp at hzl; omega
          have hrz := range_zeros zv.cells len
          rw [hzs] at hrz
          have hr0 : RelL E (zerosV z len) ((Array.range (len * z.length)).map (fun i => zv.cells[i % z.length]!)).toList := by rw [hrz]; exact zerosV_rel (g2 E) _
          obtain ⟨arr, k1, k2⟩ := fill_rel (evalParts_rel ht hvs) hr0 hf
          obtain ⟨x1, x2, x3, x4⟩ := imm_env (w' := { E.w with heap := E.w.heap.push (.cells arr e (0, 0)) }) hR rfl rfl rfl rfl k2 len
          refine opSound_of_run (E' := { E with w := { E.w with heap := E.w.heap.push (.cells arr e (0, 0)) } }) (.inl ?_) rfl rfl rfl x1 x2 x4 x3 (fun _ h _ => h)
          rw [execOp, ho]
          have hsz : ∀ w, (sizeOf e).run P w = .ok z.length w := fun w => by rw [g4, g3]
          have k1' : Instr.fill (fun i => some (i * z.length, z.length)) ((Array.range (len * z.length)).map (fun i => zv.cells[i % z.length]!)) (List.map (fun x => (x.fst, a.eval x.snd)) parts.toList) = some arr := k1
          have hn : ¬ (16777216 < len * z.length) := by omega
          by_cases h0 : len * z.length = 0
          · rw [h0] at k1'
            simp only [Array.range_zero', Array.map_empty] at k1'
            simp [Instr.buildSlice, run_underlying hu, hsz, h0, newRow]
            simp only [Array.range_zero', Array.map_empty]
            rw [k1']
            simp
          · simp [Instr.buildSlice, run_underlying hu, hsz, h0, hn, newRow, g1, hzs]
            rw [k1']
            simp
        · cases h
      · cases h
    · cases h
  · cases h
end
end
end Go.Proofs.Ytifgifhbefhkmaa.VM
