/- A machine of values for the program: values, and how they stand to the model's. No conditions. -/
import Derived.Calls
import Derived.Orders
import Derived.LoopN
import Derived.Scope
import Derived.Below
import Derived.Tactics
import Derived.Laws.Entries
import Derived.Laws.Cells
import Derived.Laws.Rows
namespace Go.Proofs.Ytifgifhbefhkmaa.VM
set_option linter.unusedSimpArgs false
set_option linter.unusedVariables false
open Go Go.RowKit

/-- Values: those of memory that is not written any more bear what they lead to. -/
inductive V where
  | int (k : IntKind) (n : Int)
  | bool (b : Bool)
  | str (s : ByteArray)
  | agg (cs : List V)
  | tup (vs : List V)
  | iface (t : TypeId) (v : V)
  | nilIface
  | func (fn : Fn) (first captured : List V)
  | nilFunc
  | nilPtr
  | ptrI (fr : Bool) (cs : List V)
  | ptrB (b off ver : Nat)
  | nilSl
  | slI (fr : Bool) (cs : List V) (n : Nat) (tight : Bool)
  | slB (b off ver n : Nat)
  deriving Inhabited

/-- A block of the call's own that may be written. -/
structure Blk where
  cells : List V
  k : Nat
  ver : Nat
  fz : Bool
  deriving Inhabited

/-- Where a block lies: the model's block and cell; the cells of an element; its version; the cells of the model's block. -/
structure RE where
  pos : Option (Nat × Nat)
  k : Nat
  ver : Nat
  asz : Nat

structure Env where
  w : World
  H : Nat → Option Blk
  ρ : Nat → Option RE
  B : Nat
  O : Nat → Prop

/-- Blocks that what is not written any more may lie in. -/
def Env.S (E : Env) (c : Nat) : Prop :=
  c < E.w.heap.size ∧ (c < E.B → E.O c) ∧ ∀ b blk e o, E.H b = some blk → blk.fz = false → E.ρ b = some e → e.pos ≠ some (c, o)

mutual
inductive Rel (E : Env) : V → Value → Prop
  | int (k : IntKind) (n : Int) : Rel E (.int k n) (.int k n)
  | bool (b : Bool) : Rel E (.bool b) (.bool b)
  | str (s : ByteArray) : Rel E (.str s) (.string s)
  | agg {cs : List V} {cvs : List Value} : RelL E cs cvs → Rel E (.agg cs) (.agg cvs.toArray)
  | tup {cs : List V} {cvs : List Value} : RelL E cs cvs → Rel E (.tup cs) (.tuple cvs.toArray)
  | iface (t : TypeId) {v : V} {cv : Value} : Rel E v cv → Rel E (.iface t v) (.iface t cv)
  | nilIface : Rel E .nilIface .nilIface
  | func (fn : Fn) {f c : List V} {cf cc : List Value} : RelL E f cf → RelL E c cc → Rel E (.func fn f c) (.func fn cf.toArray cc.toArray)
  | nilFunc : Rel E .nilFunc .nilFunc
  | nilPtr : Rel E .nilPtr (.pointer none)
  | ptrI {fr : Bool} {cs : List V} {cvs : List Value} {c o : Nat} : E.S c → (fr = true → E.B ≤ c) → RelL E cs cvs →
      (∀ (i : Nat) (v : Value), cvs[i]? = some v → E.w.cell? ⟨c, o + i, none⟩ = some v) → Rel E (.ptrI fr cs) (.pointer (some ⟨c, o, none⟩))
  | ptrB {b off ver : Nat} {A : Option Addr} {e : RE} : E.ρ b = some e → ver ≤ e.ver →
      (e.ver = ver → ∃ c o, e.pos = some (c, o) ∧ A = some ⟨c, o + off, none⟩) → Rel E (.ptrB b off ver) (.pointer A)
  | nilSl : Rel E .nilSl (.slice none 0 0)
  | slI0 {fr tight : Bool} {A : Option Addr} {cap : Nat} : (tight = true → cap = 0) → Rel E (.slI fr [] 0 tight) (.slice A 0 cap)
  | slI {fr tight : Bool} {cs : List V} {cvs : List Value} {n cap c o : Nat} : E.S c → (fr = true → E.B ≤ c) → n ≤ cap → (tight = true → cap = n) → RelL E cs cvs →
      (∀ (i : Nat) (v : Value), cvs[i]? = some v → E.w.cell? ⟨c, o + i, none⟩ = some v) → Rel E (.slI fr cs n tight) (.slice (some ⟨c, o, none⟩) n cap)
  | slB {b off ver n cap : Nat} {A : Option Addr} {e : RE} : E.ρ b = some e → ver ≤ e.ver →
      (e.ver = ver → n = n ∧ ((∃ c o, e.pos = some (c, o) ∧ A = some ⟨c, o + off, none⟩ ∧ n ≤ cap ∧ o + off + cap * e.k ≤ e.asz) ∨ (e.pos = none ∧ n = 0 ∧ off = 0 ∧ cap = 0))) →
      Rel E (.slB b off ver n) (.slice A n cap)
inductive RelL (E : Env) : List V → List Value → Prop
  | nil : RelL E [] []
  | cons {v : V} {vs : List V} {c : Value} {cs : List Value} : Rel E v c → RelL E vs cs → RelL E (v :: vs) (c :: cs)
end

/-- What an environment keeps that comes behind another. -/
structure Ext (E E' : Env) : Prop where
  B : E'.B = E.B
  cell : ∀ c o v, E.S c → E.w.cell? ⟨c, o, none⟩ = some v → E'.w.cell? ⟨c, o, none⟩ = some v
  S : ∀ c, E.S c → E'.S c
  ρ : ∀ b e, E.ρ b = some e → ∃ e', E'.ρ b = some e' ∧ (e' = e ∨ e.ver < e'.ver)

theorem Ext.refl (E : Env) : Ext E E := ⟨rfl, fun _ _ _ _ h => h, fun _ h => h, fun _ e h => ⟨e, h, .inl rfl⟩⟩
theorem Ext.trans {E E' E'' : Env} (h : Ext E E') (k : Ext E' E'') : Ext E E'' :=
  ⟨k.B.trans h.B, fun c o v hs hv => k.cell c o v (h.S c hs) (h.cell c o v hs hv), fun c hs => k.S c (h.S c hs), fun b e he => by
    obtain ⟨e', h1, h2⟩ := h.ρ b e he
    obtain ⟨e'', h3, h4⟩ := k.ρ b e' h1
    refine ⟨e'', h3, ?_⟩
    rcases h2 with rfl | h2
    · exact h4
    · rcases h4 with rfl | h4
      · exact .inr h2
      · exact .inr (Nat.lt_trans h2 h4)⟩

mutual
theorem Rel.mono {E E' : Env} (h : Ext E E') : ∀ {v : V} {c : Value}, Rel E v c → Rel E' v c
  | _, _, .int k n => .int k n
  | _, _, .bool b => .bool b
  | _, _, .str s => .str s
  | _, _, .agg r => .agg (RelL.mono h r)
  | _, _, .tup r => .tup (RelL.mono h r)
  | _, _, .iface t r => .iface t (Rel.mono h r)
  | _, _, .nilIface => .nilIface
  | _, _, .func fn r s => .func fn (RelL.mono h r) (RelL.mono h s)
  | _, _, .nilFunc => .nilFunc
  | _, _, .nilPtr => .nilPtr
  | _, _, .ptrI hs hf r hc => .ptrI (h.S _ hs) (fun q => h.B ▸ hf q) (RelL.mono h r) (fun i v q => h.cell _ _ _ hs (hc i v q))
  | _, _, .ptrB (e := e) he hv hp => by
    obtain ⟨e', h1, h2⟩ := h.ρ _ _ he
    rcases h2 with rfl | h2
    · exact .ptrB h1 hv hp
    · exact .ptrB h1 (by omega) (fun q => by omega)
  | _, _, .nilSl => .nilSl
  | _, _, .slI0 q => .slI0 q
  | _, _, .slI hs hf hn ht r hc => .slI (h.S _ hs) (fun q => h.B ▸ hf q) hn ht (RelL.mono h r) (fun i v q => h.cell _ _ _ hs (hc i v q))
  | _, _, .slB (e := e) he hv hp => by
    obtain ⟨e', h1, h2⟩ := h.ρ _ _ he
    rcases h2 with rfl | h2
    · exact .slB h1 hv hp
    · exact .slB h1 (by omega) (fun q => by omega)
theorem RelL.mono {E E' : Env} (h : Ext E E') : ∀ {v : List V} {c : List Value}, RelL E v c → RelL E' v c
  | _, _, .nil => .nil
  | _, _, .cons r s => .cons (Rel.mono h r) (RelL.mono h s)
end

theorem RelL.length {E : Env} : ∀ {v : List V} {c : List Value}, RelL E v c → v.length = c.length
  | _, _, .nil => rfl
  | _, _, .cons _ s => by simp [RelL.length s]
theorem RelL.get {E : Env} : ∀ {v : List V} {c : List Value}, RelL E v c → ∀ (i : Nat) (x : V), v[i]? = some x → ∃ y, c[i]? = some y ∧ Rel E x y
  | _, _, .nil, i, x, h => by simp at h
  | _, _, .cons r s, 0, x, h => by simp at h; subst h; exact ⟨_, rfl, r⟩
  | _, _, .cons r s, i + 1, x, h => by simp at h; obtain ⟨y, h1, h2⟩ := s.get i x h; exact ⟨y, by simpa using h1, h2⟩
theorem RelL.getC {E : Env} {v : List V} {c : List Value} (h : RelL E v c) (i : Nat) (y : Value) (hy : c[i]? = some y) : ∃ x, v[i]? = some x ∧ Rel E x y := by
  have hl := h.length
  have hlt : i < v.length := by
    rcases Nat.lt_or_ge i c.length with q | q
    · omega
    · simp [List.getElem?_eq_none q] at hy
  obtain ⟨y', h1, h2⟩ := h.get i v[i] (List.getElem?_eq_getElem hlt)
  rw [hy] at h1
  cases h1
  exact ⟨_, List.getElem?_eq_getElem hlt, h2⟩
theorem RelL.of_get {E : Env} : ∀ {v : List V} {c : List Value}, v.length = c.length → (∀ (i : Nat) (x : V) (y : Value), v[i]? = some x → c[i]? = some y → Rel E x y) → RelL E v c
  | [], [], _, _ => .nil
  | x :: v, y :: c, hl, h => .cons (h 0 x y rfl rfl) (RelL.of_get (by simpa using hl) fun i a b ha hb => h (i + 1) a b (by simpa using ha) (by simpa using hb))
theorem RelL.set {E : Env} {v : List V} {c : List Value} (h : RelL E v c) (i : Nat) {x : V} {y : Value} (r : Rel E x y) : RelL E (v.set i x) (c.set i y) := by
  refine RelL.of_get (by simp [h.length]) fun j a b ha hb => ?_
  rw [List.getElem?_set] at ha hb
  have hl := h.length
  by_cases hij : i = j
  · subst hij
    simp only [if_true] at ha hb
    split at ha
    · split at hb
      · cases ha; cases hb; exact r
      · cases hb
    · cases ha
  · rw [if_neg hij] at ha hb
    obtain ⟨y', h1, h2⟩ := h.get j a ha
    rw [hb] at h1
    cases h1
    exact h2
theorem RelL.append {E : Env} : ∀ {v v' : List V} {c c' : List Value}, RelL E v c → RelL E v' c' → RelL E (v ++ v') (c ++ c')
  | _, _, _, _, .nil, k => k
  | _, _, _, _, .cons r s, k => .cons r (RelL.append s k)
theorem RelL.take {E : Env} {v : List V} {c : List Value} (h : RelL E v c) (n : Nat) : RelL E (v.take n) (c.take n) := by
  refine RelL.of_get (by simp [h.length]) fun j a b ha hb => ?_
  rw [List.getElem?_take] at ha hb
  split at ha
  · obtain ⟨y', h1, h2⟩ := h.get j a ha
    rw [if_pos ‹_›] at hb
    rw [hb] at h1
    cases h1
    exact h2
  · cases ha
theorem RelL.drop {E : Env} {v : List V} {c : List Value} (h : RelL E v c) (n : Nat) : RelL E (v.drop n) (c.drop n) := by
  refine RelL.of_get (by simp [h.length]) fun j a b ha hb => ?_
  rw [List.getElem?_drop] at ha hb
  obtain ⟨y', h1, h2⟩ := h.get _ a ha
  rw [hb] at h1
  cases h1
  exact h2

/-- How the call's own blocks lie in the world. -/
def Lies (E : Env) (blk : Blk) (e : RE) : Prop :=
  e.ver = blk.ver ∧ e.k = blk.k ∧ match e.pos with
    | none => blk.cells = [] ∧ e.asz = 0
    | some (c, o) => E.B ≤ c ∧ ∃ arr el lo hi, E.w.heap[c]? = some (.cells arr el (lo, hi)) ∧ arr.size = e.asz ∧ o + blk.cells.length ≤ e.asz ∧ (lo = hi ∨ e.asz ≤ lo) ∧
        RelL E blk.cells ((arr.toList.drop o).take blk.cells.length)

structure HRel (E : Env) : Prop where
  at_ : ∀ b blk, E.H b = some blk → ∃ e, E.ρ b = some e ∧ Lies E blk e
  inj : ∀ b b' blk blk' e e' c o o', E.H b = some blk → E.H b' = some blk' → E.ρ b = some e → E.ρ b' = some e' → e.pos = some (c, o) → e'.pos = some (c, o') → b = b'
  le : E.B ≤ E.w.heap.size

end Go.Proofs.Ytifgifhbefhkmaa.VM
