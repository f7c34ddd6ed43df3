/- Values with labels: less is known; loads, stores and addresses. No conditions. -/
import Derived.Test.YtifgifhbefhkmaaSVd
namespace Go.Proofs.Ytifgifhbefhkmaa.VM
set_option linter.unusedSimpArgs false
set_option linter.unusedVariables false
open Go Go.RowKit
noncomputable section

theorem pairL_rel {ε : Nat → Option BE} {f : SV → SV → Prop} (hf : ∀ a b v, f a b → RV ε a v → RV ε b v) : ∀ {l m : List SV} {vs : List V}, pairL f l m → RL ε l vs → RL ε m vs
  | [], [], _, _, .nil => .nil
  | a :: l, b :: m, _, h, .cons r s => .cons (hf a b _ h.1 r) (pairL_rel hf h.2 s)
  | [], _ :: _, _, h, _ => by cases h
  | _ :: _, [], _, h, _ => by cases h
theorem SB.iff_holds {a b : SB} (h : a.iff b) : a.holds ↔ b.holds := by
  cases a <;> cases b <;> simp only [SB.iff] at h <;> first | exact h | (subst h; exact Iff.rfl)
def cle (n : Nat) (c d : SC) : Prop :=
  match c, d with
  | .lit l, .lit l' => pairL (sle n) l l'
  | .lit l, .rows e k d fl xs => ROK e k d fl ∧ pairL (sle n) l (xs.flatMap e)
  | .rows e k d fl xs, .lit l => pairL (sle n) (xs.flatMap e) l
  | a, b => a = b
theorem cle_rel {ε : Nat → Option BE} {n : Nat} (hf : ∀ a b v, sle n a b → RV ε a v → RV ε b v) {c d : SC} (h : cle n c d) : (COK c → COK d) ∧ ∀ vs, RL ε c.list vs → RL ε d.list vs := by
  unfold cle at h
  split at h
  · exact ⟨fun _ => trivial, fun vs r => pairL_rel hf h r⟩
  · exact ⟨fun _ => h.1, fun vs r => pairL_rel hf h.2 r⟩
  · exact ⟨fun _ => trivial, fun vs r => pairL_rel hf h r⟩
  · rw [h]; exact ⟨id, fun _ r => r⟩
theorem bb {a b c d : Bool} (h : ((!a || b) && (!c || d)) = true) : (a = true → b = true) ∧ (c = true → d = true) := by
  revert h; cases a <;> cases b <;> cases c <;> cases d <;> simp
theorem bif_of {b : Bool} {K : Prop} {n : Nat} (h : bif b then K else Stuck n) : b = true ∧ K := by
  cases b with
  | true => exact ⟨rfl, h⟩
  | false => cases h
theorem if_of {c : Prop} [Decidable c] {K : Prop} {n : Nat} (h : if c then K else Stuck n) : c ∧ K := by
  split at h
  · exact ⟨by assumption, h⟩
  · cases h
theorem sle_rel {ε : Nat → Option BE} : ∀ (n : Nat) (a b : SV) (v : V), sle n a b → RV ε a v → RV ε b v
  | 0, _, _, _, h, _ => by cases h
  | n + 1, a, b, v, h, r => by
    have ih := sle_rel (ε := ε) n
    have ihl := fun {l m : List SV} {vs : List V} => pairL_rel (ε := ε) ih (l := l) (m := m) (vs := vs)
    cases b
    case any => exact .any v
    case int l y =>
      cases a <;> simp only [sle] at h <;> try cases h
      obtain ⟨hk, h'⟩ := if_of h
      clear h
      subst hk
      cases r with
      | int _ _ m hm => exact .int _ _ _ (hm.trans h')
    case bool y =>
      cases a <;> simp only [sle] at h <;> try cases h
      cases r with
      | bool _ c hc => exact .bool _ _ (hc.trans (SB.iff_holds h))
    case str y =>
      cases a <;> simp only [sle] at h <;> try cases h
      exact r
    case strS y =>
      cases a <;> simp only [sle] at h <;> try cases h
      · cases r; exact .strS _
      · exact r
    case agg y =>
      cases a <;> simp only [sle] at h <;> try cases h
      cases r with
      | agg s => exact .agg (ihl h s)
    case tup y =>
      cases a <;> simp only [sle] at h <;> try cases h
      cases r with
      | tup s => exact .tup (ihl h s)
    case iface t y =>
      cases a <;> simp only [sle] at h <;> try cases h
      obtain ⟨hk, h'⟩ := if_of h
      clear h
      subst hk
      cases r with
      | iface _ s => exact .iface _ (ih _ _ _ h' s)
    case nilIface => cases a <;> simp only [sle] at h <;> try cases h
                     exact r
    case func f x y =>
      cases a <;> simp only [sle] at h <;> try cases h
      rename_i h1 h2
      subst h1
      cases r with
      | func _ s1 s2 => exact .func _ (ihl h2.1 s1) (ihl h2.2 s2)
    case nilFunc => cases a <;> simp only [sle] at h <;> try cases h
                    exact r
    case nilPtr => cases a <;> simp only [sle] at h <;> try cases h
                   exact r
    case nilSl => cases a <;> simp only [sle] at h <;> try cases h
                  exact r
    case ptrI fr' ex' cs' =>
      cases a <;> simp only [sle] at h <;> try cases h
      rename_i fr ex cs
      obtain ⟨hb, h⟩ := bif_of h
      obtain ⟨h1, h2⟩ := bb hb
      obtain ⟨g1, g2⟩ := cle_rel ih (c := cs) (d := cs') h
      cases r with
      | ptrI q1 q2 q3 q4 => exact .ptrI (fun q => q1 (h1 q)) (g2 _ q2) (g1 q3) (fun q => q4 (h2 q))
    case ptrB b' e' k' f' v' =>
      cases a <;> simp only [sle] at h <;> try cases h
      rename_i b e k f v0
      obtain ⟨⟨k1, k2, k3, k4⟩, h'⟩ := if_of h
      clear h
      subst k1 k2 k3 k4
      cases r with
      | ptrB q1 q2 q3 q4 => exact .ptrB q1 q2 (by rw [← h']; exact q3) q4
    case slI fr' cs' m' tt' =>
      cases a <;> simp only [sle] at h <;> try cases h
      · rename_i h1 h2
        cases r
        exact .slIn h1 h2
      · rename_i fr cs m tt
        obtain ⟨hb, h0, h⟩ := bif_of h
        obtain ⟨h1, h2⟩ := bb hb
        obtain ⟨g1, g2⟩ := cle_rel ih (c := cs) (d := cs') h
        cases r with
        | slI q1 q2 q3 q4 q5 => exact .slI (fun q => q1 (h1 q)) (fun q => q2 (h2 q)) (q3.trans h0) (g2 _ q4) (g1 q5)
        | slIn q1 q2 => exact .slIn (h0 ▸ q1) (g1 q2)
        | slI0 q1 q2 q3 q4 => exact .slI0 (fun q => q1 (h1 q)) (fun q => q2 (h2 q)) (h0 ▸ q3) (g1 q4)
    case slB b' e' k' v' m' =>
      cases a <;> simp only [sle] at h <;> try cases h
      rename_i b e k v0 m
      obtain ⟨⟨k1, k2, k3⟩, h1, h2⟩ := if_of h
      subst k1 k2 k3
      cases r with
      | slB q1 q2 q3 q4 => exact .slB q1 q2 (by rw [← h1, ← h2]; exact q3) q4
theorem sles_rel {ε : Nat → Option BE} {l m : List SV} {vs : List V} (h : sles l m) (r : RL ε l vs) : RL ε m vs := pairL_rel (sle_rel 12) h r

section
variable {P : Program} {ε : Nat → Option BE} {H : SHeap} {L : Heap} {t : List SV} {tv : List V} {base vbase : Nat}

theorem bleT {a b : Nat} (h : Nat.ble a b = true) : a ≤ b := Nat.le_of_ble_eq_true h
theorem beqT {a b : Nat} (h : Nat.beq a b = true) : a = b := Nat.eq_of_beq_eq_true h
theorem andT {a b : Bool} (h : (a && b) = true) : a = true ∧ b = true := by simpa using h

/-- A pointer into a block that may be looked at. -/
theorem ptrB_at (hH : RH ε H L) {b k f ver : Nat} {e : SN} {v : V} {blk : SBlk} (hb : sget H b = some blk) (hv : Nat.beq blk.ver ver = true) (r : RV ε (.ptrB b e k f ver) v) :
    ∃ e0 b' v0 ablk, ε b = some e0 ∧ e0.act = some (b', v0) ∧ e0.sv = blk.ver ∧ v = .ptrB b' (e.val * k + f) v0 ∧ hget L b' = some ablk ∧ ablk.ver = v0 ∧ ablk.k = blk.k ∧ (blk.fz = false → ablk.fz = false) ∧ RL ε blk.cells.list ablk.cells ∧ COK blk.cells := by
  cases r with
  | ptrB h1 h2 h3 h4 =>
    obtain ⟨e0, q1, q2, q3, q4⟩ := hH.at_ b blk hb
    rw [h1] at q1; cases q1
    obtain ⟨b', v', g1, g2⟩ := h3 (q2.trans (beqT hv))
    rcases q4 with ⟨_, q5, _⟩ | ⟨b2, v2, ablk, q5, q6, q7, q8, q9, q10⟩
    · rw [g1] at q5; cases q5
    · rw [g1] at q5; cases q5
      exact ⟨_, b', v', ablk, h1, g1, q2, g2, q6, q7, q8, q9, q10, q3⟩
/-- A slice of a block. -/
theorem slB_at' (hH : RH ε H L) {b k ver : Nat} {e n : SN} {v : V} {blk : SBlk} (hb : sget H b = some blk) (hv : Nat.beq blk.ver ver = true) (r : RV ε (.slB b e k ver n) v) :
    ∃ e0, ε b = some e0 ∧ e0.sv = blk.ver ∧ COK blk.cells ∧ ((∃ b' v0 ablk, e0.act = some (b', v0) ∧ v = .slB b' (e.val * k) v0 n.val ∧ hget L b' = some ablk ∧ ablk.ver = v0 ∧ ablk.k = blk.k ∧ (blk.fz = false → ablk.fz = false) ∧ RL ε blk.cells.list ablk.cells) ∨
      (blk.lz = true ∧ e0.act = none ∧ v = .nilSl ∧ n.val = 0 ∧ e.val = 0 ∧ blk.cells.list = [])) := by
  cases r with
  | slB h1 h2 h3 h4 =>
    obtain ⟨e0, q1, q2, q3, q4⟩ := hH.at_ b blk hb
    rw [h1] at q1; cases q1
    refine ⟨_, h1, q2, q3, ?_⟩
    rcases h3 (q2.trans (beqT hv)) with ⟨b', v', g1, g2⟩ | ⟨g1, g2, g3, g4⟩
    · rcases q4 with ⟨_, q5, _⟩ | ⟨b2, v2, ablk, q5, q6, q7, q8, q9, q10⟩
      · rw [g1] at q5; cases q5
      · rw [g1] at q5; cases q5
        exact .inl ⟨b', v', ablk, g1, g2, q6, q7, q8, q9, q10⟩
    · rcases q4 with ⟨q5, _, q6⟩ | ⟨b2, v2, ablk, q5, _⟩
      · exact .inr ⟨q5, g1, g2, g3, g4, q6⟩
      · rw [g1] at q5; cases q5

theorem COK.len {α : Type} {e : α → List SV} {k d : Nat} {fl : Bool} {xs : List α} (h : COK (.rows e k d fl xs)) : ∀ x, (e x).length = k := fun x => (h x).1
/-- Rows' cells, from one thing on. -/
theorem rows_at {α : Type} {r : α → List SV} {k d : Nat} {fl : Bool} {xs : List α} (hc : COK (.rows r k d fl xs)) {vs : List V} (hr : RL ε (xs.flatMap r) vs) {i : Nat} {x : α} (hx : xs[i]? = some x) :
    ∃ as bs, vs.drop (i * k) = as ++ bs ∧ RL ε (r x) as ∧ as.length = k := by
  have h1 := hr.drop (i * k)
  rw [flat_drop hc.len] at h1
  have hi : i < xs.length := by
    rcases Nat.lt_or_ge i xs.length with q | q
    · exact q
    · rw [List.getElem?_eq_none q] at hx; cases hx
  rw [List.drop_eq_getElem_cons hi, List.flatMap_cons] at h1
  have hxi : xs[i] = x := by rw [List.getElem?_eq_getElem hi] at hx; exact Option.some.inj hx
  rw [hxi] at h1
  obtain ⟨as, bs, e1, e2, e3⟩ := h1.split
  exact ⟨as, bs, e1, e2, by rw [← e2.length]; exact hc.len x⟩

/-- The cells from a pointer's on. -/
theorem cellsS_of (hH : RH ε H L) {n : Nat} {p : SV} {v : V} (r : RV ε p v) {K : List SV → Prop} (h : cellsS H n p K) :
    ∃ cs as rest, K cs ∧ cellsAt L v = some (as ++ rest) ∧ RL ε cs as ∧ n ≤ cs.length := by
  unfold cellsS at h
  split at h
  · obtain ⟨h1, h2⟩ := bif_of h
    cases r with
    | ptrI q1 q2 q3 q4 => exact ⟨_, _, _, h2, rfl, q2, by have := bleT h1; rwa [slen_eq] at this⟩
  · rename_i b e k f ver
    split at h
    · rename_i blk hb
      obtain ⟨h1, h2⟩ := bif_of h
      obtain ⟨e0, b', v0, ablk, g1, g2, g3, rfl, g5, g6, g7, g8, g9, g10⟩ := ptrB_at hH hb h1 r
      split at h2
      · rename_i cs hcs
        obtain ⟨h3, h4⟩ := caseN_of h2
        obtain ⟨h5, h6⟩ := bif_of h4
        have h7 := bleT h5
        rw [slen_eq] at h7
        rw [hcs] at g9
        have hl := g9.length
        rw [sdrop_eq] at h6
        refine ⟨_, ablk.cells.drop (e.val * k + f), [], h6, ?_, g9.drop _, by simp; omega⟩
        simp only [cellsAt, g5]
        have hl2 : cs.length = ablk.cells.length := hl
        rw [if_pos ⟨g6, by omega⟩, List.append_nil]
      · rename_i α rr k' d fl xs hcs
        obtain ⟨h3, h4, h5⟩ := bif_of h2
        have hkk := beqT h3
        subst hkk
        obtain ⟨x, hx⟩ : ∃ x, xs[e.val]? = some x := ⟨_, List.getElem?_eq_getElem h4⟩
        obtain ⟨h6, h7⟩ := bif_of (h5 x hx)
        have h8 := bleT h6
        rw [slen_eq] at h8
        rw [hcs] at g9 g10
        obtain ⟨as, bs, e1, e2, e3⟩ := rows_at g10 g9 hx
        have hl := e2.length
        have hlen : ablk.cells.length = xs.length * k' := by rw [← g9.length]; exact flat_len g10.len
        have hle : e.val * k' + k' ≤ xs.length * k' := by rw [← Nat.succ_mul]; exact Nat.mul_le_mul_right _ h4
        rw [sdrop_eq] at h7
        refine ⟨_, as.drop f, bs, h7, ?_, e2.drop f, by simp; omega⟩
        simp only [cellsAt, g5]
        rw [if_pos ⟨g6, by omega⟩, ← List.drop_drop, e1, List.drop_append_of_le_length (by omega)]
    · cases h
  · cases h
theorem loadS_of (hH : RH ε H L) {ty : TypeId} {p : SV} {v : V} (r : RV ε p v) {K : SV → Prop} (h : loadS P H ty p K) : ∃ s w, K s ∧ loadV P L ty v = some w ∧ RV ε s w := by
  unfold loadS at h
  split at h
  · rename_i g n hz
    obtain ⟨cs, as, rest, h1, h2, h3, h4⟩ := cellsS_of hH r h
    have hl := h3.length
    cases g with
    | true =>
      simp only [cond_true] at h1 h4
      rw [stake_eq] at h1
      refine ⟨_, .agg ((as ++ rest).take n), h1, ?_, ?_⟩
      · simp only [loadV, hz, h2]
        rw [if_pos (by simp; omega)]
      · rw [List.take_append_of_le_length (by omega)]
        exact .agg (h3.take n)
    | false =>
      simp only [cond_false] at h1 h4
      cases h3 with
      | nil => simp at h4
      | cons q s => exact ⟨_, _, h1, by simp [loadV, hz, h2], q⟩
  · cases h

theorem setCells_eq : ∀ (vs l : List V) (p : Nat), p + vs.length ≤ l.length → setCells l p vs = l.take p ++ vs ++ l.drop (p + vs.length)
  | [], l, p, h => by simp [setCells]
  | v :: r, l, p, h => by
    simp only [List.length_cons] at h
    rw [setCells, setCells_eq r _ (p + 1) (by simp; omega)]
    have hp : p < l.length := by omega
    rw [List.take_succ_eq_append_getElem (by simpa using hp), List.take_set_of_le (Nat.le_refl _), List.getElem_set_self, List.drop_set_of_lt (by omega), List.length_cons]
    simp [Nat.add_assoc, Nat.add_comm 1]

end
end
end Go.Proofs.Ytifgifhbefhkmaa.VM
