/- A machine of values for the program: values, and how they stand to the model's. No conditions. -/
import Derived.Calls
import Derived.Orders
import Derived.LoopN
import Derived.Scope
import Derived.Below
import Derived.Tactics
import Derived.Laws.Entries
import Derived.Laws.Cells
import Derived.Laws.Rows
import Derived.Laws.IdiomStrings
import Derived.Laws.BytesArg
import Derived.Laws.Tables
/- A machine of values for the program: values, and how they stand to the model's. No conditions. -/
namespace Go.Proofs.Ytnnfcebnmogdmaa.VM
set_option linter.unusedSimpArgs false
set_option linter.unusedVariables false
open Go Go.RowKit

/-- Values: those of memory that is not written any more bear what they lead to. -/
inductive V where
  | int (k : IntKind) (n : Int)
  | bool (b : Bool)
  | str (s : ByteArray)
  | agg (cs : List V)
  | tup (vs : List V)
  | iface (t : TypeId) (v : V)
  | nilIface
  | func (fn : Fn) (first captured : List V)
  | nilFunc
  | nilPtr
  | ptrI (fr : Bool) (cs : List V)
  | ptrB (b off ver : Nat)
  | nilSl
  | slI (fr : Bool) (cs : List V) (n : Nat) (tight : Bool)
  | slB (b off ver n : Nat)
  deriving Inhabited

/-- A block of the call's own that may be written. -/
structure Blk where
  cells : List V
  k : Nat
  ver : Nat
  fz : Bool
  deriving Inhabited

/-- Where a block lies: the model's block and cell; the cells of an element; its version; the cells of the model's block. -/
structure RE where
  pos : Option (Nat × Nat)
  k : Nat
  ver : Nat
  asz : Nat

structure Env where
  w : World
  H : Nat → Option Blk
  ρ : Nat → Option RE
  B : Nat
  O : Nat → Prop

/-- Blocks that what is not written any more may lie in. -/
def Env.S (E : Env) (c : Nat) : Prop :=
  c < E.w.heap.size ∧ (c < E.B → E.O c) ∧ ∀ b blk e o, E.H b = some blk → blk.fz = false → E.ρ b = some e → e.pos ≠ some (c, o)

mutual
inductive Rel (E : Env) : V → Value → Prop
  | int (k : IntKind) (n : Int) : Rel E (.int k n) (.int k n)
  | bool (b : Bool) : Rel E (.bool b) (.bool b)
  | str (s : ByteArray) : Rel E (.str s) (.string s)
  | agg {cs : List V} {cvs : List Value} : RelL E cs cvs → Rel E (.agg cs) (.agg cvs.toArray)
  | tup {cs : List V} {cvs : List Value} : RelL E cs cvs → Rel E (.tup cs) (.tuple cvs.toArray)
  | iface (t : TypeId) {v : V} {cv : Value} : Rel E v cv → Rel E (.iface t v) (.iface t cv)
  | nilIface : Rel E .nilIface .nilIface
  | func (fn : Fn) {f c : List V} {cf cc : List Value} : RelL E f cf → RelL E c cc → Rel E (.func fn f c) (.func fn cf.toArray cc.toArray)
  | nilFunc : Rel E .nilFunc .nilFunc
  | nilPtr : Rel E .nilPtr (.pointer none)
  | ptrI {fr : Bool} {cs : List V} {cvs : List Value} {c o : Nat} : E.S c → (fr = true → E.B ≤ c) → RelL E cs cvs →
      (∀ (i : Nat) (v : Value), cvs[i]? = some v → E.w.cell? ⟨c, o + i, none⟩ = some v) → Rel E (.ptrI fr cs) (.pointer (some ⟨c, o, none⟩))
  | ptrB {b off ver : Nat} {A : Option Addr} {e : RE} : E.ρ b = some e → ver ≤ e.ver →
      (e.ver = ver → ∃ c o, e.pos = some (c, o) ∧ A = some ⟨c, o + off, none⟩) → Rel E (.ptrB b off ver) (.pointer A)
  | nilSl : Rel E .nilSl (.slice none 0 0)
  | slI0 {fr tight : Bool} {A : Option Addr} {cap : Nat} : (tight = true → cap = 0) → Rel E (.slI fr [] 0 tight) (.slice A 0 cap)
  | slI {fr tight : Bool} {cs : List V} {cvs : List Value} {n cap c o : Nat} : E.S c → (fr = true → E.B ≤ c) → n ≤ cap → (tight = true → cap = n) → RelL E cs cvs →
      (∀ (i : Nat) (v : Value), cvs[i]? = some v → E.w.cell? ⟨c, o + i, none⟩ = some v) → Rel E (.slI fr cs n tight) (.slice (some ⟨c, o, none⟩) n cap)
  | slB {b off ver n cap : Nat} {A : Option Addr} {e : RE} : E.ρ b = some e → ver ≤ e.ver →
      (e.ver = ver → n = n ∧ ((∃ c o, e.pos = some (c, o) ∧ A = some ⟨c, o + off, none⟩ ∧ n ≤ cap ∧ o + off + cap * e.k ≤ e.asz) ∨ (e.pos = none ∧ n = 0 ∧ off = 0 ∧ cap = 0))) →
      Rel E (.slB b off ver n) (.slice A n cap)
inductive RelL (E : Env) : List V → List Value → Prop
  | nil : RelL E [] []
  | cons {v : V} {vs : List V} {c : Value} {cs : List Value} : Rel E v c → RelL E vs cs → RelL E (v :: vs) (c :: cs)
end

/-- What an environment keeps that comes behind another. -/
structure Ext (E E' : Env) : Prop where
  B : E'.B = E.B
  cell : ∀ c o v, E.S c → E.w.cell? ⟨c, o, none⟩ = some v → E'.w.cell? ⟨c, o, none⟩ = some v
  S : ∀ c, E.S c → E'.S c
  ρ : ∀ b e, E.ρ b = some e → ∃ e', E'.ρ b = some e' ∧ (e' = e ∨ e.ver < e'.ver)

theorem Ext.refl (E : Env) : Ext E E := ⟨rfl, fun _ _ _ _ h => h, fun _ h => h, fun _ e h => ⟨e, h, .inl rfl⟩⟩
theorem Ext.trans {E E' E'' : Env} (h : Ext E E') (k : Ext E' E'') : Ext E E'' :=
  ⟨k.B.trans h.B, fun c o v hs hv => k.cell c o v (h.S c hs) (h.cell c o v hs hv), fun c hs => k.S c (h.S c hs), fun b e he => by
    obtain ⟨e', h1, h2⟩ := h.ρ b e he
    obtain ⟨e'', h3, h4⟩ := k.ρ b e' h1
    refine ⟨e'', h3, ?_⟩
    rcases h2 with rfl | h2
    · exact h4
    · rcases h4 with rfl | h4
      · exact .inr h2
      · exact .inr (Nat.lt_trans h2 h4)⟩

mutual
theorem Rel.mono {E E' : Env} (h : Ext E E') : ∀ {v : V} {c : Value}, Rel E v c → Rel E' v c
  | _, _, .int k n => .int k n
  | _, _, .bool b => .bool b
  | _, _, .str s => .str s
  | _, _, .agg r => .agg (RelL.mono h r)
  | _, _, .tup r => .tup (RelL.mono h r)
  | _, _, .iface t r => .iface t (Rel.mono h r)
  | _, _, .nilIface => .nilIface
  | _, _, .func fn r s => .func fn (RelL.mono h r) (RelL.mono h s)
  | _, _, .nilFunc => .nilFunc
  | _, _, .nilPtr => .nilPtr
  | _, _, .ptrI hs hf r hc => .ptrI (h.S _ hs) (fun q => h.B ▸ hf q) (RelL.mono h r) (fun i v q => h.cell _ _ _ hs (hc i v q))
  | _, _, .ptrB (e := e) he hv hp => by
    obtain ⟨e', h1, h2⟩ := h.ρ _ _ he
    rcases h2 with rfl | h2
    · exact .ptrB h1 hv hp
    · exact .ptrB h1 (by omega) (fun q => by omega)
  | _, _, .nilSl => .nilSl
  | _, _, .slI0 q => .slI0 q
  | _, _, .slI hs hf hn ht r hc => .slI (h.S _ hs) (fun q => h.B ▸ hf q) hn ht (RelL.mono h r) (fun i v q => h.cell _ _ _ hs (hc i v q))
  | _, _, .slB (e := e) he hv hp => by
    obtain ⟨e', h1, h2⟩ := h.ρ _ _ he
    rcases h2 with rfl | h2
    · exact .slB h1 hv hp
    · exact .slB h1 (by omega) (fun q => by omega)
theorem RelL.mono {E E' : Env} (h : Ext E E') : ∀ {v : List V} {c : List Value}, RelL E v c → RelL E' v c
  | _, _, .nil => .nil
  | _, _, .cons r s => .cons (Rel.mono h r) (RelL.mono h s)
end

theorem RelL.length {E : Env} : ∀ {v : List V} {c : List Value}, RelL E v c → v.length = c.length
  | _, _, .nil => rfl
  | _, _, .cons _ s => by simp [RelL.length s]
theorem RelL.get {E : Env} : ∀ {v : List V} {c : List Value}, RelL E v c → ∀ (i : Nat) (x : V), v[i]? = some x → ∃ y, c[i]? = some y ∧ Rel E x y
  | _, _, .nil, i, x, h => by simp at h
  | _, _, .cons r s, 0, x, h => by simp at h; subst h; exact ⟨_, rfl, r⟩
  | _, _, .cons r s, i + 1, x, h => by simp at h; obtain ⟨y, h1, h2⟩ := s.get i x h; exact ⟨y, by simpa using h1, h2⟩
theorem RelL.getC {E : Env} {v : List V} {c : List Value} (h : RelL E v c) (i : Nat) (y : Value) (hy : c[i]? = some y) : ∃ x, v[i]? = some x ∧ Rel E x y := by
  have hl := h.length
  have hlt : i < v.length := by
    rcases Nat.lt_or_ge i c.length with q | q
    · omega
    · simp [List.getElem?_eq_none q] at hy
  obtain ⟨y', h1, h2⟩ := h.get i v[i] (List.getElem?_eq_getElem hlt)
  rw [hy] at h1
  cases h1
  exact ⟨_, List.getElem?_eq_getElem hlt, h2⟩
theorem RelL.of_get {E : Env} : ∀ {v : List V} {c : List Value}, v.length = c.length → (∀ (i : Nat) (x : V) (y : Value), v[i]? = some x → c[i]? = some y → Rel E x y) → RelL E v c
  | [], [], _, _ => .nil
  | x :: v, y :: c, hl, h => .cons (h 0 x y rfl rfl) (RelL.of_get (by simpa using hl) fun i a b ha hb => h (i + 1) a b (by simpa using ha) (by simpa using hb))
theorem RelL.set {E : Env} {v : List V} {c : List Value} (h : RelL E v c) (i : Nat) {x : V} {y : Value} (r : Rel E x y) : RelL E (v.set i x) (c.set i y) := by
  refine RelL.of_get (by simp [h.length]) fun j a b ha hb => ?_
  rw [List.getElem?_set] at ha hb
  have hl := h.length
  by_cases hij : i = j
  · subst hij
    simp only [if_true] at ha hb
    split at ha
    · split at hb
      · cases ha; cases hb; exact r
      · cases hb
    · cases ha
  · rw [if_neg hij] at ha hb
    obtain ⟨y', h1, h2⟩ := h.get j a ha
    rw [hb] at h1
    cases h1
    exact h2
theorem RelL.append {E : Env} : ∀ {v v' : List V} {c c' : List Value}, RelL E v c → RelL E v' c' → RelL E (v ++ v') (c ++ c')
  | _, _, _, _, .nil, k => k
  | _, _, _, _, .cons r s, k => .cons r (RelL.append s k)
theorem RelL.take {E : Env} {v : List V} {c : List Value} (h : RelL E v c) (n : Nat) : RelL E (v.take n) (c.take n) := by
  refine RelL.of_get (by simp [h.length]) fun j a b ha hb => ?_
  rw [List.getElem?_take] at ha hb
  split at ha
  · obtain ⟨y', h1, h2⟩ := h.get j a ha
    rw [if_pos ‹_›] at hb
    rw [hb] at h1
    cases h1
    exact h2
  · cases ha
theorem RelL.drop {E : Env} {v : List V} {c : List Value} (h : RelL E v c) (n : Nat) : RelL E (v.drop n) (c.drop n) := by
  refine RelL.of_get (by simp [h.length]) fun j a b ha hb => ?_
  rw [List.getElem?_drop] at ha hb
  obtain ⟨y', h1, h2⟩ := h.get _ a ha
  rw [hb] at h1
  cases h1
  exact h2

/-- How the call's own blocks lie in the world. -/
def Lies (E : Env) (blk : Blk) (e : RE) : Prop :=
  e.ver = blk.ver ∧ e.k = blk.k ∧ match e.pos with
    | none => blk.cells = [] ∧ e.asz = 0
    | some (c, o) => E.B ≤ c ∧ ∃ arr el lo hi, E.w.heap[c]? = some (.cells arr el (lo, hi)) ∧ arr.size = e.asz ∧ o + blk.cells.length ≤ e.asz ∧ (lo = hi ∨ e.asz ≤ lo) ∧
        RelL E blk.cells ((arr.toList.drop o).take blk.cells.length)

structure HRel (E : Env) : Prop where
  at_ : ∀ b blk, E.H b = some blk → ∃ e, E.ρ b = some e ∧ Lies E blk e
  inj : ∀ b b' blk blk' e e' c o o', E.H b = some blk → E.H b' = some blk' → E.ρ b = some e → E.ρ b' = some e' → e.pos = some (c, o) → e'.pos = some (c, o') → b = b'
  le : E.B ≤ E.w.heap.size

end Go.Proofs.Ytnnfcebnmogdmaa.VM
/- The machine of values: what each operation does. No conditions. -/
namespace Go.Proofs.Ytnnfcebnmogdmaa.VM
set_option linter.unusedSimpArgs false
set_option linter.unusedVariables false
open Go Go.RowKit
noncomputable section

abbrev Heap := List (Nat × Blk)
def hget (L : Heap) (j : Nat) : Option Blk :=
  List.rec (motive := fun _ => Option Blk) none (fun p _ ih => bif Nat.beq p.1 j then some p.2 else ih) L
def hset : Heap → Nat → Blk → Heap
  | [], j, x => [(j, x)]
  | (i, b) :: r, j, x => bif Nat.beq i j then (i, x) :: r else (i, b) :: hset r j x
def hnews : List Blk → Nat → Heap → Heap
  | [], _, L => L
  | b :: r, j, L => hnews r (j + 1) ((j, b) :: L)
def hsets : List (Nat × Blk) → Heap → Heap
  | [], L => L
  | (j, x) :: r, L => hsets r (hset L j x)

/-- What an operation does: its value, the blocks that it writes, the new ones. -/
structure Eff where
  v : V
  wr : List (Nat × Blk)
  new : List Blk

def Eff.pure (v : V) : Eff := ⟨v, [], []⟩
def applyL (L : Heap) (base : Nat) (e : Eff) : Heap := hnews e.new base (hsets e.wr L)

def nth (l : List V) (i : Nat) : V :=
  List.rec (motive := fun _ => Nat → V) (fun _ => .tup []) (fun v _ ih n => Nat.rec (motive := fun _ => V) v (fun m _ => ih m) n) l i
def setn (l : List V) (i : Nat) (x : V) : List V :=
  List.rec (motive := fun _ => Nat → List V) (fun _ => []) (fun v r ih n => Nat.rec (motive := fun _ => List V) (x :: r) (fun m _ => v :: ih m) n) l i

def mapO {α β : Type} (f : α → Option β) : List α → Option (List β)
  | [] => some []
  | a :: r => match f a, mapO f r with
    | some b, some bs => some (b :: bs)
    | _, _ => none

/-- Values without memory, of one cell. -/
def ofSc : Value → Option V
  | .int k n => some (.int k n)
  | .bool b => some (.bool b)
  | .string s => some (.str s)
  | .pointer none => some .nilPtr
  | .slice none 0 0 => some .nilSl
  | .nilIface => some .nilIface
  | .nilFunc => some .nilFunc
  | _ => none
def ofAg : Value → Option V
  | .agg cs => (mapO ofSc cs.toList).map .agg
  | v => ofSc v
def ofVal : Value → Option V
  | .iface t v => (ofAg v).map (.iface t)
  | .tuple vs => (mapO ofAg vs.toList).map .tup
  | .func fn f c => match mapO ofSc f.toList, mapO ofSc c.toList with
    | some f, some c => some (.func fn f c)
    | _, _ => none
  | v => ofAg v
def toSc : V → Option Value
  | .int k n => some (.int k n)
  | .bool b => some (.bool b)
  | .str s => some (.string s)
  | .nilPtr => some (.pointer none)
  | .nilSl => some (.slice none 0 0)
  | .nilIface => some .nilIface
  | .nilFunc => some .nilFunc
  | _ => none
def toAg : V → Option Value
  | .agg cs => (mapO toSc cs).map fun l => .agg l.toArray
  | v => toSc v
def toVal : V → Option Value
  | .iface t v => (toAg v).map (.iface t)
  | v => toAg v

def evalV (t : List V) : Operand → Option V
  | .tmp i => some (nth t i)
  | .const v => ofVal v
  | .func f => some (.func (.func f) [] [])
  | .global _ => none

/-- A computation of the model's that looks at no memory. -/
def pureRun {α : Type} (P : Program) : Sem α → Option α
  | .pure a => some a
  | .program k => pureRun P (k P)
  | .mark _ k => pureRun P k
  | _ => none

def V.cells : V → List V
  | .agg cs => cs
  | v => [v]
def V.one : V → Bool
  | .agg _ | .tup _ => false
  | _ => true

/-- Is it a struct or an array; how many cells it has. -/
def tySz (P : Program) (t : TypeId) : Option (Bool × Nat) :=
  match P.underlying t, P.info? t with
  | some d, some i => some (match d with | .struct _ | .array _ _ => true | _ => false, i.size)
  | _, _ => none
def partV (P : Program) (t : TypeId) (cs : List V) (off : Nat) : Option V :=
  match tySz P t with
  | some (true, n) => some (.agg ((cs.drop off).take n))
  | some (false, _) => cs[off]?
  | none => none

/-- The cells that a pointer leads to. -/
def cellsAt (L : Heap) : V → Option (List V)
  | .ptrI _ cs => some cs
  | .ptrB b off ver => match hget L b with
    | some blk => if blk.ver = ver ∧ off ≤ blk.cells.length then some (blk.cells.drop off) else none
    | none => none
  | _ => none
def loadV (P : Program) (L : Heap) (t : TypeId) (p : V) : Option V :=
  match tySz P t, cellsAt L p with
  | some (true, n), some cs => if n ≤ cs.length then some (.agg (cs.take n)) else none
  | some (false, _), some cs => cs[0]?
  | _, _ => none
def setCells : List V → Nat → List V → List V
  | l, _, [] => l
  | l, i, v :: r => setCells (l.set i v) (i + 1) r
def storeV (P : Program) (L : Heap) (t : TypeId) (p v : V) : Option Eff :=
  match tySz P t, p with
  | some (_, n), .ptrB b off ver => match hget L b with
    | some blk => if blk.ver = ver ∧ blk.fz = false ∧ v.cells.length = n ∧ off + n ≤ blk.cells.length ∧ v.cells.all V.one = true then
        some ⟨.tup [], [(b, { blk with cells := setCells blk.cells off v.cells })], []⟩ else none
    | none => none
  | _, _ => none
def ptrAdd (L : Heap) (p : V) (k : Nat) : Option V :=
  match p with
  | .ptrI fr cs => some (.ptrI fr (cs.drop k))
  | .ptrB b off ver => match hget L b with
    | some blk => if blk.ver = ver then some (.ptrB b (off + k) ver) else none
    | none => none
  | _ => none
def fieldOff (P : Program) (s : TypeId) (f : Nat) : Option (Nat × TypeId) :=
  match P.underlying s with
  | some (.struct fs) => match fs[f]? with
    | some fl => match tySz P fl.type with
      | some (_, n) => if n = 0 then none else some (fl.offset, fl.type)
      | none => none
    | none => none
  | _ => none
def idxAddr (P : Program) (L : Heap) (t : TypeId) (x : V) (i : Int) : Option V :=
  match P.underlying t with
  | some (.slice e) => match tySz P e, x with
    | some (_, k), .slI fr cs n _ => if 0 ≤ i ∧ i < n then some (.ptrI fr (cs.drop (i.toNat * k))) else none
    | some (_, k), .slB b off ver n => match hget L b with
      | some blk => if blk.ver = ver ∧ 0 ≤ i ∧ i < n then some (.ptrB b (off + i.toNat * k) ver) else none
      | none => none
    | _, _ => none
  | some (.array n e) => match tySz P e with
    | some (_, k) => if 0 ≤ i ∧ i < n then ptrAdd L x (i.toNat * k) else none
    | none => none
  | _ => none

/-- The cells of a slice (or a string's bytes), and how many elements. -/
def rowOf (L : Heap) (k : Nat) : V → Option (List V × Nat)
  | .nilSl => some ([], 0)
  | .slI _ cs n _ => if n * k ≤ cs.length then some (cs.take (n * k), n) else none
  | .slB b off ver n => match hget L b with
    | some blk => if blk.ver = ver ∧ off + n * k ≤ blk.cells.length then some ((blk.cells.drop off).take (n * k), n) else none
    | none => none
  | .str s => if k = 1 then some (s.data.toList.map (fun b => V.int .u8 b.toNat), s.size) else none
  | _ => none
def lenV (L : Heap) : V → Option Nat
  | .nilSl => some 0
  | .slI _ _ n _ => some n
  | .slB _ _ _ n => some n
  | .str s => some s.size
  | _ => none

def zerosV (z : List V) : Nat → List V
  | 0 => []
  | n + 1 => z ++ zerosV z n

def fillV (place : Nat → Option (Nat × Nat)) (cells : List V) : List (Nat × V) → Option (List V)
  | [] => some cells
  | (i, v) :: rest =>
    match place i with
    | none => none
    | some (off, size) =>
      if v.cells.length = size ∧ off + size ≤ cells.length ∧ v.cells.all V.one = true then fillV place (setCells cells off v.cells) rest else none

def zeroV (P : Program) (t : TypeId) : Option (List V) :=
  match P.info? t with
  | some i => match i.zero with
    | some z => match ofAg z with
      | some v => if v.cells.length = i.size then some v.cells else none
      | none => none
    | none => none
  | none => none

def intV : V → Option Int
  | .int _ n => some n
  | _ => none
def optV (t : List V) : Option Operand → Option (Option Int)
  | none => some none
  | some x => match evalV t x with
    | some v => (intV v).map some
    | none => none

/-- s[l:h:m] of a slice of n elements: whether it is as long as its room behind. -/
def cutV (L : Heap) (k : Nat) (x : V) (lo hi mx : Option Int) : Option V :=
  let l := (lo.getD 0).toNat
  if lo.getD 0 < 0 then none else
  match x with
  | .nilSl => if l = 0 ∧ hi.getD 0 = 0 ∧ mx.getD 0 = 0 ∧ (mx.isSome → hi.isSome) then some .nilSl else none
  | .slI fr cs n tight =>
    let h := (hi.getD n).toNat
    let m := (mx.getD n).toNat
    if 0 ≤ hi.getD n ∧ 0 ≤ mx.getD n ∧ l ≤ h ∧ h ≤ m ∧ m ≤ n ∧ (mx.isSome → hi.isSome) then
      let tt := match mx with | some _ => decide (m = h) | none => tight && decide (h = n)
      if l = 0 then some (.slI fr cs h tt) else if h = l then some (.slI fr [] 0 tt) else some (.slI fr (cs.drop (l * k)) (h - l) tt)
    else none
  | .slB b off ver n => match hget L b with
    | some blk =>
      let h := (hi.getD n).toNat
      let m := (mx.getD n).toNat
      if blk.ver = ver ∧ blk.k = k ∧ 0 ≤ hi.getD n ∧ 0 ≤ mx.getD n ∧ l ≤ h ∧ h ≤ m ∧ m ≤ n ∧ (mx.isSome → hi.isSome) then
        if h = l ∧ (l ≠ 0 ∨ mx.isSome) then some (.slI true [] 0 (mx.isSome && decide (m = h)))
        else some (.slB b (off + l * k) ver (h - l))
      else none
    | none => none
  | _ => none

def bytesOf : List V → Option (List UInt8)
  | [] => some []
  | .int .u8 n :: r => (bytesOf r).map (UInt8.ofNat n.toNat :: ·)
  | _ :: _ => none

def isInt : TypeDesc → Bool
  | .int _ => true
  | _ => false
/-- What is appended: a row's cells, or zeros. -/
def newRowV (L : Heap) (z : List V) (zeros : Bool) (x : V) : Option (List V × Nat) :=
  if zeros = true then match x with
    | .int _ l => if 0 ≤ l ∧ l ≤ 1099511627776 then some (zerosV z l.toNat, l.toNat) else none
    | _ => none
  else rowOf L z.length x
def appendV (P : Program) (L : Heap) (base : Nat) (e : TypeId) (zeros : Bool) (s x : V) : Option Eff :=
  match zeroV P e, P.info? e with
  | some z, some i => match newRowV L z zeros x with
    | some (new, m) =>
      if i.bytes ≤ 2 ^ 20 ∧ i.bytes ≠ 0 ∧ m ≤ 2 ^ 40 ∧ m * i.bytes ≤ 2 ^ 40 then
        match s with
        | .nilSl => some ⟨.slB base 0 0 m, [], [⟨new, z.length, 0, false⟩]⟩
        | .slI fr cs n true =>
          if (n + m) * i.bytes ≤ 2 ^ 40 ∧ n * z.length ≤ cs.length ∧ n + m ≤ 2 ^ 40 then
            if m = 0 ∧ n ≠ 0 then some (Eff.pure (.slI fr cs n true))
            else some ⟨.slB base 0 0 (n + m), [], [⟨cs.take (n * z.length) ++ new, z.length, 0, false⟩]⟩
          else none
        | .slB b off ver n => match hget L b with
          | some blk =>
            if blk.ver = ver ∧ blk.fz = false ∧ blk.k = z.length ∧ off + n * z.length = blk.cells.length ∧ (n + m) * i.bytes ≤ 2 ^ 40 ∧ n + m ≤ 2 ^ 40 ∧ new.all V.one = true then
              some ⟨.slB b 0 (ver + 1) (n + m), [(b, ⟨blk.cells.drop off ++ new, z.length, ver + 1, false⟩)], []⟩
            else none
          | none => none
        | _ => none
      else none
    | none => none
  | _, _ => none

def copyV (P : Program) (L : Heap) (e : TypeId) (d x : V) : Option Eff :=
  match tySz P e with
  | some (_, k) => match rowOf L k x, lenV L d with
    | some (new, m), some n =>
      match d with
      | .nilSl => some (Eff.pure (.int .i64 0))
      | .slI .. => if min m n = 0 then some (Eff.pure (.int .i64 0)) else none
      | .slB b off ver _ => match hget L b with
        | some blk => if blk.ver = ver ∧ blk.fz = false ∧ off + min m n * k ≤ blk.cells.length ∧ new.all V.one = true then
            some ⟨.int .i64 (min m n : Nat), [(b, { blk with cells := setCells blk.cells off (new.take (min m n * k)) })], []⟩ else none
        | none => none
      | _ => none
    | _, _ => none
  | none => none

def clearV (P : Program) (L : Heap) (e : TypeId) (d : V) : Option Eff :=
  match tySz P e, zeroV P e, lenV L d with
  | some (_, k), some z, some n =>
    match d with
    | .nilSl => some (Eff.pure (.tup []))
    | .slI .. => if n = 0 then some (Eff.pure (.tup [])) else none
    | .slB b off ver _ => match hget L b with
      | some blk => if blk.ver = ver ∧ blk.fz = false ∧ off + n * k ≤ blk.cells.length ∧ z.length = k ∧ z.all V.one = true then
          some ⟨.tup [], [(b, { blk with cells := setCells blk.cells off (zerosV z n) })], []⟩ else none
      | none => none
    | _ => none
  | _, _, _ => none

end
end Go.Proofs.Ytnnfcebnmogdmaa.VM
/- The machine of values: environments that come behind each other. No conditions. -/
namespace Go.Proofs.Ytnnfcebnmogdmaa.VM
set_option linter.unusedSimpArgs false
set_option linter.unusedVariables false
open Go Go.RowKit
noncomputable section

def updF {α : Type} (H : Nat → Option α) (j : Nat) (x : α) : Nat → Option α := fun b => if b = j then some x else H b
def newsF : List Blk → Nat → (Nat → Option Blk) → Nat → Option Blk
  | [], _, H => H
  | b :: r, j, H => newsF r (j + 1) (updF H j b)
def setsF : List (Nat × Blk) → (Nat → Option Blk) → Nat → Option Blk
  | [], H => H
  | (j, x) :: r, H => setsF r (updF H j x)
def applyF (H : Nat → Option Blk) (base : Nat) (e : Eff) : Nat → Option Blk := newsF e.new base (setsF e.wr H)

theorem hget_cons (j : Nat) (b : Blk) (L : Heap) : hget ((j, b) :: L) = updF (hget L) j b := by
  funext i
  unfold updF
  show (bif Nat.beq j i then some b else hget L i) = _
  cases h : Nat.beq j i
  · have : i ≠ j := fun e => by subst e; simp at h
    simp [this]
  · have : i = j := (Nat.eq_of_beq_eq_true h).symm
    simp [this]
theorem hget_hset (L : Heap) (j : Nat) (x : Blk) : hget (hset L j x) = updF (hget L) j x := by
  induction L with
  | nil => exact hget_cons j x []
  | cons p r ih =>
    obtain ⟨i, b⟩ := p
    funext k
    show hget (bif Nat.beq i j then (i, x) :: r else (i, b) :: hset r j x) k = _
    cases h : Nat.beq i j
    · simp only [cond_false]
      rw [hget_cons, ih, hget_cons]
      have hne : i ≠ j := fun e => by subst e; simp at h
      unfold updF
      by_cases h1 : k = i
      · have h2 : k ≠ j := by omega
        rw [if_pos h1, if_neg h2, if_pos h1]
      · rw [if_neg h1, if_neg h1]
    · have he : i = j := Nat.eq_of_beq_eq_true h
      subst he
      simp only [cond_true]
      rw [hget_cons, hget_cons]
      unfold updF
      by_cases h1 : k = i <;> simp [h1]
theorem hget_hnews : ∀ (l : List Blk) (j : Nat) (L : Heap), hget (hnews l j L) = newsF l j (hget L)
  | [], _, _ => rfl
  | b :: r, j, L => by rw [hnews, hget_hnews, hget_cons]; rfl
theorem hget_hsets : ∀ (l : List (Nat × Blk)) (L : Heap), hget (hsets l L) = setsF l (hget L)
  | [], _ => rfl
  | (j, x) :: r, L => by rw [hsets, hget_hsets, hget_hset]; rfl
theorem hget_applyL (L : Heap) (base : Nat) (e : Eff) : hget (applyL L base e) = applyF (hget L) base e := by
  rw [applyL, hget_hnews, hget_hsets]; rfl
theorem applyF_pure (H : Nat → Option Blk) (base : Nat) (v : V) : applyF H base (Eff.pure v) = H := rfl

theorem cell_of_heap {w w' : World} {c o : Nat} (h : w'.heap[c]? = w.heap[c]?) : w'.cell? ⟨c, o, none⟩ = w.cell? ⟨c, o, none⟩ := by
  unfold World.cell?
  simp only [h]

/-- The world goes on; blocks that were there stay. -/
theorem ext_world {E : Env} {w' : World} (hb : ∀ c, c < E.w.heap.size → w'.heap[c]? = E.w.heap[c]?) (hz : E.w.heap.size ≤ w'.heap.size) : Ext E { E with w := w' } :=
  ⟨rfl, fun c o v hs hv => by rw [cell_of_heap (hb c hs.1)]; exact hv, fun c hs => ⟨Nat.lt_of_lt_of_le hs.1 hz, hs.2.1, hs.2.2⟩, fun b e he => ⟨e, he, .inl rfl⟩⟩
theorem lt_of_heap {w : World} {c : Nat} {o : Obj} (h : w.heap[c]? = some o) : c < w.heap.size := by
  rcases Nat.lt_or_ge c w.heap.size with q | q
  · exact q
  · simp [Array.getElem?_eq_none q] at h
theorem Lies.mono {E E' : Env} (h : Ext E E') {blk : Blk} {e : RE} (hl : Lies E blk e) (hh : ∀ c o, e.pos = some (c, o) → E'.w.heap[c]? = E.w.heap[c]?) : Lies E' blk e := by
  obtain ⟨h1, h2, h3⟩ := hl
  refine ⟨h1, h2, ?_⟩
  revert h3
  cases hp : e.pos with
  | none => exact fun h3 => h3
  | some p =>
    obtain ⟨c, o⟩ := p
    rintro ⟨h3, arr, el, lo, hi, h4, h5, h6, h7, h8⟩
    exact ⟨h.B ▸ h3, arr, el, lo, hi, (hh c o hp).trans h4, h5, h6, h7, h8.mono h⟩
theorem Lies.lt {E : Env} {blk : Blk} {e : RE} (hl : Lies E blk e) {c o : Nat} (hp : e.pos = some (c, o)) : E.B ≤ c ∧ c < E.w.heap.size := by
  obtain ⟨h1, h2, h3⟩ := hl
  rw [hp] at h3
  obtain ⟨h3, arr, el, lo, hi, h4, _⟩ := h3
  exact ⟨h3, lt_of_heap h4⟩
theorem hrel_world {E : Env} {w' : World} (hR : HRel E) (hb : ∀ c, c < E.w.heap.size → w'.heap[c]? = E.w.heap[c]?) (hz : E.w.heap.size ≤ w'.heap.size) : HRel { E with w := w' } :=
  ⟨fun b blk hblk => by
    obtain ⟨e, he, hl⟩ := hR.at_ b blk hblk
    exact ⟨e, he, hl.mono (ext_world hb hz) fun c o hp => hb c (hl.lt hp).2⟩, hR.inj, Nat.le_trans hR.le hz⟩

/-- One block of the call's own is made or written. -/
theorem ext_upd {E : Env} (hR : HRel E) {w' : World} {b : Nat} {blk' : Blk} {e' : RE}
    (hw : ∀ c, c < E.w.heap.size → (∀ o, e'.pos ≠ some (c, o)) → w'.heap[c]? = E.w.heap[c]?) (hz : E.w.heap.size ≤ w'.heap.size)
    (hn : ∀ c o, e'.pos = some (c, o) → E.w.heap.size ≤ c ∨ ∃ blk e o0, E.H b = some blk ∧ blk.fz = false ∧ E.ρ b = some e ∧ e.pos = some (c, o0))
    (hρ : ∀ e, E.ρ b = some e → e' = e ∨ e.ver < e'.ver)
    (hl : Ext E ⟨w', updF E.H b blk', updF E.ρ b e', E.B, E.O⟩ → Lies ⟨w', updF E.H b blk', updF E.ρ b e', E.B, E.O⟩ blk' e') :
    Ext E ⟨w', updF E.H b blk', updF E.ρ b e', E.B, E.O⟩ ∧ HRel ⟨w', updF E.H b blk', updF E.ρ b e', E.B, E.O⟩ := by
  have hfar : ∀ c, E.S c → ∀ o, e'.pos ≠ some (c, o) := by
    intro c hs o hp
    rcases hn c o hp with h | ⟨blk, e, o0, h1, h2, h3, h4⟩
    · have := hs.1; omega
    · exact hs.2.2 b blk e o0 h1 h2 h3 h4
  have hx : Ext E ⟨w', updF E.H b blk', updF E.ρ b e', E.B, E.O⟩ := by
    refine ⟨rfl, fun c o v hs hv => ?_, fun c hs => ⟨Nat.lt_of_lt_of_le hs.1 hz, hs.2.1, fun b1 blk1 e1 o h1 h2 h3 h4 => ?_⟩, fun b1 e1 h1 => ?_⟩
    · rw [cell_of_heap (hw c hs.1 (hfar c hs))]; exact hv
    · simp only [updF] at h1 h3
      by_cases hb : b1 = b
      · simp only [hb, if_true, Option.some.injEq] at h3
        subst h3
        exact hfar c hs o h4
      · simp only [hb, if_false] at h1 h3
        exact hs.2.2 b1 blk1 e1 o h1 h2 h3 h4
    · simp only [updF]
      by_cases hb : b1 = b
      · subst hb; exact ⟨e', by simp, hρ e1 h1⟩
      · exact ⟨e1, by simp [hb, h1], .inl rfl⟩
  refine ⟨hx, ⟨fun b1 blk1 h1 => ?_, fun b1 b2 blk1 blk2 e1 e2 c o o2 h1 h2 h3 h4 h5 h6 => ?_, Nat.le_trans hR.le hz⟩⟩
  · simp only [updF] at h1
    by_cases hb : b1 = b
    · simp only [hb, if_true, Option.some.injEq] at h1
      subst h1
      exact ⟨e', by simp [updF, hb], hl hx⟩
    · simp only [hb, if_false] at h1
      obtain ⟨e1, h2, h3⟩ := hR.at_ b1 blk1 h1
      refine ⟨e1, by simp [updF, hb, h2], h3.mono hx fun c o hp => ?_⟩
      refine hw c (h3.lt hp).2 fun o' hp' => ?_
      rcases hn c o' hp' with h | ⟨blk, e, o0, g1, g2, g3, g4⟩
      · have := (h3.lt hp).2; omega
      · exact hb (hR.inj b1 b blk1 blk e1 e c o o0 h1 g1 h2 g3 hp g4)
  · simp only [updF] at h1 h2 h3 h4
    have one : ∀ b1 blk1 e1 o, b1 ≠ b → E.H b1 = some blk1 → E.ρ b1 = some e1 → e1.pos = some (c, o) → ∀ o', e'.pos ≠ some (c, o') := by
      intro b1 blk1 e1 o hb g1 g2 g3 o' hp'
      rcases hn c o' hp' with h | ⟨blk, e, o0, k1, k2, k3, k4⟩
      · obtain ⟨e0, q1, q2⟩ := hR.at_ b1 blk1 g1
        rw [g2] at q1; cases q1
        have := (q2.lt g3).2; omega
      · exact hb (hR.inj b1 b blk1 blk e1 e c o o0 g1 k1 g2 k3 g3 k4)
    by_cases hb1 : b1 = b <;> by_cases hb2 : b2 = b
    · rw [hb1, hb2]
    · simp only [hb1, if_true, Option.some.injEq] at h3
      simp only [hb2, if_false] at h2 h4
      subst h3
      exact absurd h5 (one b2 blk2 e2 o2 hb2 h2 h4 h6 o)
    · simp only [hb2, if_true, Option.some.injEq] at h4
      simp only [hb1, if_false] at h1 h3
      subst h4
      exact absurd h6 (one b1 blk1 e1 o hb1 h1 h3 h5 o2)
    · simp only [hb1, hb2, if_false] at h1 h2 h3 h4
      exact hR.inj b1 b2 blk1 blk2 e1 e2 c o o2 h1 h2 h3 h4 h5 h6

/-- One block is written no more. -/
theorem ext_freeze {E : Env} (hR : HRel E) {b : Nat} {blk : Blk} (hb : E.H b = some blk) :
    Ext E { E with H := updF E.H b { blk with fz := true } } ∧ HRel { E with H := updF E.H b { blk with fz := true } } := by
  have hx : Ext E { E with H := updF E.H b { blk with fz := true } } := by
    refine ⟨rfl, fun c o v hs hv => hv, fun c hs => ⟨hs.1, hs.2.1, fun b1 blk1 e1 o h1 h2 h3 h4 => ?_⟩, fun b1 e1 h1 => ⟨e1, h1, .inl rfl⟩⟩
    simp only [updF] at h1
    by_cases h : b1 = b
    · simp only [h, if_true, Option.some.injEq] at h1
      subst h1
      cases h2
    · simp only [h, if_false] at h1
      exact hs.2.2 b1 blk1 e1 o h1 h2 h3 h4
  have hold : ∀ b1 blk1, updF E.H b { blk with fz := true } b1 = some blk1 → ∃ blk2, E.H b1 = some blk2 ∧ blk1.cells = blk2.cells ∧ blk1.k = blk2.k ∧ blk1.ver = blk2.ver := by
    intro b1 blk1 h1
    simp only [updF] at h1
    by_cases h : b1 = b
    · simp only [h, if_true, Option.some.injEq] at h1
      subst h1
      exact ⟨blk, h ▸ hb, rfl, rfl, rfl⟩
    · simp only [h, if_false] at h1
      exact ⟨blk1, h1, rfl, rfl, rfl⟩
  refine ⟨hx, ⟨fun b1 blk1 h1 => ?_, fun b1 b2 blk1 blk2 e1 e2 c o o2 h1 h2 h3 h4 h5 h6 => ?_, hR.le⟩⟩
  · obtain ⟨blk2, g1, g2, g3, g4⟩ := hold b1 blk1 h1
    obtain ⟨e, g5, g6⟩ := hR.at_ b1 blk2 g1
    refine ⟨e, g5, ?_⟩
    have g7 := g6.mono hx (fun _ _ _ => rfl)
    unfold Lies at g7 ⊢
    rw [g2, g3, g4]
    exact g7
  · obtain ⟨k1, g1, _⟩ := hold b1 blk1 h1
    obtain ⟨k2, g2, _⟩ := hold b2 blk2 h2
    exact hR.inj b1 b2 k1 k2 e1 e2 c o o2 g1 g2 h3 h4 h5 h6

end
end Go.Proofs.Ytnnfcebnmogdmaa.VM
/- The machine of values: operations without memory. No conditions. -/
namespace Go.Proofs.Ytnnfcebnmogdmaa.VM
set_option linter.unusedSimpArgs false
set_option linter.unusedVariables false
open Go Go.RowKit
noncomputable section

theorem RelL.mapO_of {E : Env} {f : Value → Option V} (hf : ∀ c v, f c = some v → Rel E v c) : ∀ {cs : List Value} {vs : List V}, mapO f cs = some vs → RelL E vs cs
  | [], vs, h => by cases h; exact .nil
  | c :: cs, vs, h => by
    simp only [mapO] at h
    cases h1 : f c with
    | none => simp [h1] at h
    | some v =>
      cases h2 : mapO f cs with
      | none => simp [h1, h2] at h
      | some r =>
        simp [h1, h2] at h
        subst h
        exact .cons (hf _ _ h1) (RelL.mapO_of hf h2)
theorem ofSc_rel {E : Env} {c : Value} {v : V} (h : ofSc c = some v) : Rel E v c := by
  unfold ofSc at h
  split at h <;> first | (cases h; constructor) | cases h
theorem ofAg_rel {E : Env} {c : Value} {v : V} (h : ofAg c = some v) : Rel E v c := by
  unfold ofAg at h
  split at h
  · rename_i cs
    cases h1 : mapO ofSc cs.toList with
    | none => simp [h1] at h
    | some r =>
      simp [h1] at h
      subst h
      have := Rel.agg (RelL.mapO_of (E := E) (fun c v => ofSc_rel) h1)
      simpa using this
  · exact ofSc_rel h
theorem ofVal_rel {E : Env} {c : Value} {v : V} (h : ofVal c = some v) : Rel E v c := by
  unfold ofVal at h
  split at h
  · rename_i t v'
    cases h1 : ofAg v' with
    | none => simp [h1] at h
    | some r => simp [h1] at h; subst h; exact .iface t (ofAg_rel h1)
  · rename_i vs
    cases h1 : mapO ofAg vs.toList with
    | none => simp [h1] at h
    | some r =>
      simp [h1] at h
      subst h
      have := Rel.tup (RelL.mapO_of (E := E) (fun c v => ofAg_rel) h1)
      simpa using this
  · rename_i fn f c
    cases h1 : mapO ofSc f.toList with
    | none => simp [h1] at h
    | some r =>
      cases h2 : mapO ofSc c.toList with
      | none => simp [h1, h2] at h
      | some r2 =>
        simp [h1, h2] at h
        subst h
        have := Rel.func fn (RelL.mapO_of (E := E) (fun c v => ofSc_rel) h1) (RelL.mapO_of (E := E) (fun c v => ofSc_rel) h2)
        simpa using this
  · exact ofAg_rel h
theorem toSc_eq {E : Env} {v : V} {c c' : Value} (h : toSc v = some c') (r : Rel E v c) : c = c' := by
  cases r <;> simp only [toSc] at h <;> first | (cases h; rfl) | cases h
theorem mapO_toSc_eq {E : Env} : ∀ {vs : List V} {cs cs' : List Value}, mapO toSc vs = some cs' → RelL E vs cs → cs = cs'
  | _, _, cs', h, .nil => by cases h; rfl
  | v :: vs, c :: cs, cs', h, .cons r s => by
    simp only [mapO] at h
    cases h1 : toSc v with
    | none => simp [h1] at h
    | some x =>
      cases h2 : mapO toSc vs with
      | none => simp [h1, h2] at h
      | some y =>
        simp [h1, h2] at h
        subst h
        rw [toSc_eq h1 r, mapO_toSc_eq h2 s]
theorem toAg_eq {E : Env} {v : V} {c c' : Value} (h : toAg v = some c') (r : Rel E v c) : c = c' := by
  unfold toAg at h
  split at h
  · rename_i cs
    cases r with
    | agg s =>
      cases h1 : mapO toSc cs with
      | none => simp [h1] at h
      | some y => simp [h1] at h; subst h; rw [mapO_toSc_eq h1 s]
  · exact toSc_eq h r
theorem toVal_eq {E : Env} {v : V} {c c' : Value} (h : toVal v = some c') (r : Rel E v c) : c = c' := by
  unfold toVal at h
  split at h
  · rename_i t v'
    cases r with
    | iface t s =>
      cases h1 : toAg v' with
      | none => simp [h1] at h
      | some y => simp [h1] at h; subst h; rw [toAg_eq h1 s]
  · exact toAg_eq h r

theorem pureRun_run {α : Type} {P : Program} : ∀ {s : Sem α} {a : α}, pureRun P s = some a → ∀ w, s.run P w = .ok a w
  | .pure b, a, h, w => by simp only [pureRun] at h; cases h; rfl
  | .program k, a, h, w => by simp only [pureRun] at h; exact pureRun_run h w
  | .mark m k, a, h, w => by simp only [pureRun] at h; exact pureRun_run (s := k) h w
  | .load .., a, h, w => by simp only [pureRun] at h; cases h
  | .store .., a, h, w => by simp only [pureRun] at h; cases h
  | .new .., a, h, w => by simp only [pureRun] at h; cases h
  | .shape .., a, h, w => by simp only [pureRun] at h; cases h
  | .freeze .., a, h, w => by simp only [pureRun] at h; cases h
  | .frozen .., a, h, w => by simp only [pureRun] at h; cases h
  | .getObj .., a, h, w => by simp only [pureRun] at h; cases h
  | .setObj .., a, h, w => by simp only [pureRun] at h; cases h
  | .choose .., a, h, w => by simp only [pureRun] at h; cases h
  | .sys .., a, h, w => by simp only [pureRun] at h; cases h
  | .halt .., a, h, w => by simp only [pureRun] at h; cases h

theorem nth_eq : ∀ (t : List V) (i : Nat), nth t i = t.getD i (.tup [])
  | [], i => by simp; rfl
  | v :: r, 0 => rfl
  | v :: r, i + 1 => by have := nth_eq r i; exact this
theorem setn_eq : ∀ (t : List V) (i : Nat) (x : V), setn t i x = t.set i x
  | [], i, x => rfl
  | v :: r, 0, x => rfl
  | v :: r, i + 1, x => by have := setn_eq r i x; exact congrArg (v :: ·) this

theorem undef_rel {E : Env} : Rel E (.tup []) undef := by
  have := Rel.tup (E := E) .nil
  simpa [undef] using this
theorem nth_rel {E : Env} {t : List V} {a : Act} (h : RelL E t a.tmps.toList) (i : Nat) : Rel E (nth t i) (a.tmps.getD i undef) := by
  rw [nth_eq]
  by_cases hi : i < t.length
  · obtain ⟨y, h1, h2⟩ := h.get i t[i] (List.getElem?_eq_getElem hi)
    have h3 : a.tmps[i]? = some y := by simpa using h1
    have h4 : a.tmps.getD i undef = y := by rw [Array.getD_eq_getD_getElem?, h3]; rfl
    rw [h4, List.getD_eq_getElem?_getD, List.getElem?_eq_getElem hi]
    exact h2
  · have hl := h.length
    have h3 : a.tmps[i]? = none := by
      rw [Array.getElem?_eq_none]
      have : a.tmps.toList.length = a.tmps.size := by simp
      omega
    have h4 : a.tmps.getD i undef = undef := by rw [Array.getD_eq_getD_getElem?, h3]; rfl
    rw [h4, List.getD_eq_getElem?_getD, List.getElem?_eq_none (by omega)]
    exact undef_rel
theorem evalV_rel {E : Env} {t : List V} {a : Act} (h : RelL E t a.tmps.toList) {x : Operand} {v : V} (hv : evalV t x = some v) : Rel E v (a.eval x) := by
  cases x with
  | tmp i => simp only [evalV] at hv; cases hv; exact nth_rel h i
  | const c => simp only [evalV] at hv; exact ofVal_rel hv
  | global g => simp only [evalV] at hv; cases hv
  | func f =>
    simp only [evalV] at hv
    cases hv
    have := Rel.func (E := E) (.func f) .nil .nil
    simpa [Act.eval] using this
theorem put_rel {E : Env} {t : List V} {a : Act} (h : RelL E t a.tmps.toList) (d : Option Tmp) {v : V} {c : Value} (r : Rel E v c) :
    RelL E (match d with | some d => setn t d v | none => t) (a.put d c).tmps.toList := by
  cases d with
  | none => exact h
  | some d =>
    simp only [setn_eq, Act.put, Array.toList_setIfInBounds]
    exact h.set d r

/-- What an operation owes: it goes on, with its value, in an environment behind. -/
def OpSound (P : Program) (E : Env) (a : Act) (o : Oper) (base : Nat) (eff : Eff) : Prop :=
  ∀ (next : Act → World → Prop) (Q : Exit → Act → World → Prop),
    (∀ cv E', E'.B = E.B → E'.O = E.O → E'.H = applyF E.H base eff → Ext E E' → HRel E' → Rel E' eff.v cv → Below E.B E.w E'.w →
      (∀ b, E.ρ b = none → ¬ (base ≤ b ∧ b < base + eff.new.length) → E'.ρ b = none) → next (a.put o.dst cv) E'.w) → o.wp P a E.w next Q

theorem opSound_of_run {P : Program} {E : Env} {a : Act} {o : Oper} {base : Nat} {eff : Eff} {cv : Value} {E' : Env}
    (hrun : (execOp a.eval o).run P E.w = .ok (.value cv) E'.w ∨ ((execOp a.eval o).run P E.w = .ok .skip E'.w ∧ cv = undef))
    (h1 : E'.B = E.B) (h2 : E'.O = E.O) (h3 : E'.H = applyF E.H base eff) (h4 : Ext E E') (h5 : HRel E') (h6 : Rel E' eff.v cv) (h7 : Below E.B E.w E'.w)
    (h8 : ∀ b, E.ρ b = none → ¬ (base ≤ b ∧ b < base + eff.new.length) → E'.ρ b = none) : OpSound P E a o base eff := by
  intro next Q hn
  have := hn cv E' h1 h2 h3 h4 h5 h6 h7 h8
  unfold Oper.wp
  rcases hrun with h | ⟨h, rfl⟩
  · rw [h]; exact this
  · rw [h]; exact this
theorem opSound_pure {P : Program} {E : Env} {a : Act} {o : Oper} {base : Nat} {v : V} {cv : Value} (hR : HRel E)
    (hrun : (execOp a.eval o).run P E.w = .ok (.value cv) E.w) (hv : Rel E v cv) : OpSound P E a o base (Eff.pure v) :=
  opSound_of_run (E' := E) (.inl hrun) rfl rfl (applyF_pure _ _ _).symm (Ext.refl E) hR hv (Below.refl _ _) (fun _ h _ => h)

/-- The operands as values without memory. -/
def ρOf (t : List V) (x : Operand) : Value := ((evalV t x).bind toVal).getD undef
def pureOp (P : Program) (t : List V) (o : Oper) : Option Eff :=
  if o.op.operands.toList.all (fun x => ((evalV t x).bind toVal).isSome) = true then
    match o.op with
    | .select .. => none
    | _ => match pureRun P (execOp (ρOf t) o) with
      | some (.value c) => (ofVal c).map Eff.pure
      | _ => none
  else none
theorem pureOp_sound {P : Program} {E : Env} {a : Act} {o : Oper} {base : Nat} {t : List V} {eff : Eff} (hR : HRel E) (ht : RelL E t a.tmps.toList)
    (h : pureOp P t o = some eff) : OpSound P E a o base eff := by
  unfold pureOp at h
  split at h
  · rename_i hall
    have hs : ∀ cs b, o.op ≠ .select cs b := by
      intro cs b e
      rw [e] at h
      cases h
    have hx : ∀ x ∈ o.op.operands, ρOf t x = a.eval x := by
      intro x hx
      have := List.all_eq_true.1 hall x (by simpa using hx)
      unfold ρOf
      cases h1 : evalV t x with
      | none => simp [h1] at this
      | some v =>
        cases h2 : toVal v with
        | none => simp [h1, h2] at this
        | some c => simp [h2, toVal_eq h2 (evalV_rel ht h1)]
    rw [execOp_congr o hs hx] at h
    split at h
    · cases h
    · split at h
      · rename_i c hc
        cases hv : ofVal c with
        | none => simp [hv] at h
        | some v =>
          simp [hv] at h
          subst h
          exact opSound_pure hR (pureRun_run hc E.w) (ofVal_rel hv)
      · cases h
  · cases h

end
end Go.Proofs.Ytnnfcebnmogdmaa.VM
/- The machine of values: pointers, loads and stores. No conditions. -/
namespace Go.Proofs.Ytnnfcebnmogdmaa.VM
set_option linter.unusedSimpArgs false
set_option linter.unusedVariables false
open Go Go.RowKit
noncomputable section

def Sub (L : Heap) (E : Env) : Prop := ∀ b blk, hget L b = some blk → E.H b = some blk

theorem tySz_run {P : Program} {t : TypeId} {g : Bool} {n : Nat} (h : tySz P t = some (g, n)) : (∀ w, (isAgg t).run P w = .ok g w) ∧ (∀ w, (sizeOf t).run P w = .ok n w) := by
  unfold tySz at h
  cases h1 : P.underlying t with
  | none => simp [h1] at h
  | some d =>
    cases h2 : P.info? t with
    | none => simp [h1, h2] at h
    | some i =>
      simp only [h1, h2, Option.some.injEq, Prod.mk.injEq] at h
      obtain ⟨rfl, rfl⟩ := h
      constructor
      · intro w
        cases d <;> simp [isAgg, run_underlying h1]
      · intro w
        simp [sizeOf, typeInfo, h2]
theorem cell_at {w : World} {c : Nat} {arr : Array Value} {el : TypeId} {fr : Nat × Nat} (h : w.heap[c]? = some (.cells arr el fr)) (i : Nat) : w.cell? ⟨c, i, none⟩ = arr[i]? := by
  unfold World.cell?
  simp [h]
theorem run_loadCells_at {P : Program} {w : World} {c o : Nat} {cvs : List Value} (h : ∀ (i : Nat) (v : Value), cvs[i]? = some v → w.cell? ⟨c, o + i, none⟩ = some v) (n : Nat) (hn : n ≤ cvs.length) :
    (loadCells ⟨c, o, none⟩ n).run P w = .ok (cvs.take n).toArray w := by
  have := run_loadCells_list (P := P) w ⟨c, o, none⟩ (cvs.take n) (fun j v hj => by
    rw [List.getElem?_take] at hj
    split at hj
    · rw [Addr.add_lit]; exact h j v hj
    · cases hj)
  rwa [List.length_take, Nat.min_eq_left hn] at this

theorem block_cells {E : Env} {blk : Blk} {e : RE} {c o : Nat} (hl : Lies E blk e) (hp : e.pos = some (c, o)) :
    ∃ cvs, RelL E blk.cells cvs ∧ ∀ (i : Nat) (v : Value), cvs[i]? = some v → E.w.cell? ⟨c, o + i, none⟩ = some v := by
  obtain ⟨h1, h2, h3⟩ := hl
  rw [hp] at h3
  obtain ⟨h3, arr, el, lo, hi, h4, h5, h6, h7, h8⟩ := h3
  refine ⟨_, h8, fun i v hv => ?_⟩
  rw [cell_at h4]
  rw [List.getElem?_take] at hv
  split at hv
  · rw [List.getElem?_drop] at hv
    simpa using hv
  · cases hv

/-- A pointer whose cells can be read. -/
theorem cellsAt_rel {E : Env} {L : Heap} (hR : HRel E) (hL : Sub L E) {p : V} {c : Value} {cs : List V} (h : cellsAt L p = some cs) (r : Rel E p c) :
    ∃ b o cvs, c = .pointer (some ⟨b, o, none⟩) ∧ RelL E cs cvs ∧ ∀ (i : Nat) (v : Value), cvs[i]? = some v → E.w.cell? ⟨b, o + i, none⟩ = some v := by
  cases r <;> simp only [cellsAt] at h <;> try cases h
  · rename_i hs hf hc hr
    exact ⟨_, _, _, rfl, hr, hc⟩
  · rename_i b off ver A e he hv hp
    split at h
    · rename_i blk hb
      split at h
      · rename_i hcond
        cases h
        obtain ⟨e', he', hl⟩ := hR.at_ b blk (hL b blk hb)
        rw [he] at he'
        cases he'
        obtain ⟨c', o', hpos, rfl⟩ := hp (hl.1.trans hcond.1)
        obtain ⟨cvs, h1, h2⟩ := block_cells hl hpos
        refine ⟨c', o' + off, cvs.drop off, rfl, h1.drop off, fun i v hv => ?_⟩
        rw [List.getElem?_drop] at hv
        have := h2 _ v hv
        rwa [← Nat.add_assoc] at this
      · cases h
    · cases h

theorem load_sound {P : Program} {E : Env} {a : Act} {o : Oper} {base : Nat} {t : List V} {L : Heap} (hR : HRel E) (hL : Sub L E) (ht : RelL E t a.tmps.toList)
    {ty : TypeId} {x : Operand} (ho : o.op = .load ty x) {p v : V} (hp : evalV t x = some p) (hv : loadV P L ty p = some v) : OpSound P E a o base (Eff.pure v) := by
  have r := evalV_rel ht hp
  unfold loadV at hv
  split at hv
  · rename_i n cs hz hc
    obtain ⟨h1, h2⟩ := tySz_run hz
    obtain ⟨b, o', cvs, e1, e2, e3⟩ := cellsAt_rel hR hL hc r
    split at hv
    · rename_i hn
      cases hv
      have hl := run_loadCells_at (P := P) e3 n (by rw [← e2.length]; exact hn)
      refine opSound_pure hR (cv := .agg (cvs.take n).toArray) ?_ (.agg (e2.take n))
      rw [execOp, ho]
      simp [e1, Instr.loadAt, Instr.sureAddr, loadVar, h1, h2, hl]
    · cases hv
  · rename_i n cs hz hc
    obtain ⟨h1, h2⟩ := tySz_run hz
    obtain ⟨b, o', cvs, e1, e2, e3⟩ := cellsAt_rel hR hL hc r
    obtain ⟨y, g1, g2⟩ := e2.get 0 v hv
    have g3 := e3 0 y g1
    refine opSound_pure hR (cv := y) ?_ g2
    rw [execOp, ho]
    simp only [Nat.add_zero] at g3
    simp [e1, Instr.loadAt, Instr.sureAddr, loadVar, h1, g3]
  · cases hv

theorem rel_one {E : Env} {v : V} {c : Value} (r : Rel E v c) (h : v.one = true) : c.oneCell' = true ∧ c.cells = #[c] := by
  cases r <;> simp_all [V.one, Value.cells, Value.oneCell']
end
end Go.Proofs.Ytnnfcebnmogdmaa.VM
/- The machine of values: stores. No conditions. -/
namespace Go.Proofs.Ytnnfcebnmogdmaa.VM
set_option linter.unusedSimpArgs false
set_option linter.unusedVariables false
open Go Go.RowKit
noncomputable section

def setC : List Value → Nat → List Value → List Value
  | l, _, [] => l
  | l, i, v :: r => setC (l.set i v) (i + 1) r
theorem setC_length : ∀ (vs : List Value) (l : List Value) (i : Nat), (setC l i vs).length = l.length
  | [], _, _ => rfl
  | v :: r, l, i => by rw [setC, setC_length]; simp
theorem setCells_length : ∀ (vs : List V) (l : List V) (i : Nat), (setCells l i vs).length = l.length
  | [], _, _ => rfl
  | v :: r, l, i => by rw [setCells, setCells_length]; simp
theorem setCells_rel {E : Env} : ∀ {vs : List V} {cvs : List Value} {l : List V} {cl : List Value} (i : Nat), RelL E vs cvs → RelL E l cl → RelL E (setCells l i vs) (setC cl i cvs)
  | _, _, _, _, _, .nil, h => h
  | _, _, _, _, i, .cons r s, h => setCells_rel (i + 1) s (h.set i r)
theorem setC_window : ∀ (vs : List Value) (l : List Value) (o off m : Nat), ((setC l (o + off) vs).drop o).take m = setC ((l.drop o).take m) off vs
  | [], _, _, _, _ => rfl
  | v :: r, l, o, off, m => by
    rw [setC, setC, Nat.add_assoc, setC_window r]
    congr 1
    rw [List.drop_set, if_neg (by omega), List.take_set, Nat.add_sub_cancel_left]

theorem store_run {P : Program} {c o : Nat} {el : TypeId} {lo hi : Nat} : ∀ (vs : List Value) (i : Nat) (w : World) (arr : Array Value), w.heap[c]? = some (.cells arr el (lo, hi)) → (lo < hi → arr.size ≤ lo) →
    o + i + vs.length ≤ arr.size → (∀ v ∈ vs, v.oneCell' = true) →
    ∃ w', (storeCells ⟨c, o, none⟩ vs i).run P w = .ok () w' ∧ w'.heap[c]? = some (.cells (setC arr.toList (o + i) vs).toArray el (lo, hi)) ∧
      (∀ d, d ≠ c → w'.heap[d]? = w.heap[d]?) ∧ w'.heap.size = w.heap.size ∧ w'.os = w.os ∧ w'.tape = w.tape ∧ w'.output = w.output
  | [], i, w, arr, h, _, _, _ => ⟨w, by simp [storeCells], by simpa [setC] using h, fun _ _ => rfl, rfl, rfl, rfl, rfl⟩
  | v :: r, i, w, arr, h, hf, hs, h1 => by
    have hlen : o + i < arr.size := by simp at hs; omega
    have hc : w.cell? ⟨c, o + i, none⟩ = some arr[o + i] := by rw [cell_at h, Array.getElem?_eq_getElem hlen]
    have hfz : w.frozen? ⟨c, o + i, none⟩ = false := by
      unfold World.frozen?
      simp only [h]
      by_cases q : lo < hi
      · have := hf q
        simp; omega
      · simp; omega
    have hh : (w.setCell ⟨c, o + i, none⟩ v).heap[c]? = some (.cells (arr.setIfInBounds (o + i) v) el (lo, hi)) := by
      simp [World.setCell, Array.getElem?_modify, h]
    obtain ⟨w', g1, g2, g3, g4, g5, g6, g7⟩ := store_run (P := P) (c := c) (o := o) r (i + 1) (w.setCell ⟨c, o + i, none⟩ v) (arr.setIfInBounds (o + i) v) hh (by simpa using hf) (by simp at hs ⊢; omega) (fun x hx => h1 x (by simp [hx]))
    refine ⟨w', ?_, ?_, fun d hd => ?_, ?_, g5, g6, g7⟩
    · rw [storeCells, Sem.run_bind, Addr.add_lit, run_store P w _ v _ (h1 v (by simp)), hc]
      simp only [hfz, Bool.false_eq_true, if_false, Result.andThen_ok]
      exact g1
    · rw [g2, setC]
      simp [Nat.add_assoc]
    · rw [g3 d hd]
      exact Below.heap_setCell w _ v d hd
    · rw [g4]; simp [World.setCell]

theorem relL_one {E : Env} : ∀ {vs : List V} {cs : List Value}, RelL E vs cs → vs.all V.one = true → ∀ c ∈ cs, c.oneCell' = true
  | _, _, .nil, _, c, hc => by cases hc
  | v :: vs, _, .cons r s, h, c, hc => by
    simp only [List.all_cons, Bool.and_eq_true] at h
    cases hc with
    | head => exact (rel_one r h.1).1
    | tail _ hc => exact relL_one s h.2 c hc
theorem cells_rel {E : Env} {v : V} {c : Value} (r : Rel E v c) (h : v.cells.all V.one = true) : RelL E v.cells c.cells.toList := by
  cases hv : v with
  | agg cs =>
    subst hv
    cases r with
    | agg s => simpa [V.cells, Value.cells] using s
  | _ =>
    subst hv
    simp only [V.cells, List.all_cons, List.all_nil, Bool.and_true] at h
    have h2 := (rel_one r h).2
    rw [h2]
    exact .cons r .nil

theorem updF_self {α : Type} {ρ : Nat → Option α} {b : Nat} {e : α} (h : ρ b = some e) : updF ρ b e = ρ := by
  funext i
  unfold updF
  by_cases q : i = b
  · rw [if_pos q, q, h]
  · rw [if_neg q]

/-- Cells of a block of the call's own are written. -/
theorem write_env {P : Program} {E : Env} (hR : HRel E) {b : Nat} {blk : Blk} {e : RE} {c o off : Nat} (hb : E.H b = some blk) (hfz : blk.fz = false) (he : E.ρ b = some e) (hp : e.pos = some (c, o))
    {vs : List V} {cvs : List Value} (hv : RelL E vs cvs) (h1 : vs.all V.one = true) (hfit : off + vs.length ≤ blk.cells.length) :
    ∃ w', (storeCells ⟨c, o + off, none⟩ cvs).run P E.w = .ok () w' ∧
      Ext E ⟨w', updF E.H b { blk with cells := setCells blk.cells off vs }, E.ρ, E.B, E.O⟩ ∧ HRel ⟨w', updF E.H b { blk with cells := setCells blk.cells off vs }, E.ρ, E.B, E.O⟩ ∧ Below E.B E.w w' := by
  obtain ⟨e0, he0, hl⟩ := hR.at_ b blk hb
  rw [he] at he0
  cases he0
  have hl' := hl
  obtain ⟨hver, hk, h3⟩ := hl
  rw [hp] at h3
  obtain ⟨h3, arr, el, lo, hi, h4, h5, h6, h7, h8⟩ := h3
  have hlen := hv.length
  obtain ⟨w', g1, g2, g3, g4, g5, g6, g7⟩ := store_run (P := P) (c := c) (o := o + off) cvs 0 E.w arr h4 (by omega) (by omega) (relL_one hv h1)
  have hx := ext_upd (w' := w') (b := b) (blk' := { blk with cells := setCells blk.cells off vs }) (e' := e) hR
    (fun d hd hne => g3 d (fun q => hne o (q ▸ hp))) (by omega) (fun c' o' hp' => .inr ⟨blk, e, o, hb, hfz, he, by rw [hp] at hp' ⊢; cases hp'; rfl⟩)
    (fun e1 he1 => by rw [he] at he1; cases he1; exact .inl rfl)
    (fun hx => by
      refine ⟨hver, hk, ?_⟩
      rw [hp]
      refine ⟨h3, _, el, lo, hi, g2, by simp [setC_length, h5], by simpa [setCells_length] using h6, h7, ?_⟩
      simp only [setCells_length, Nat.add_zero]
      rw [setC_window]
      exact setCells_rel off (hv.mono hx) (h8.mono hx))
  rw [updF_self he] at hx
  refine ⟨w', g1, hx.1, hx.2, g5, g6, g7, by omega, fun d hd => g3 d (by omega)⟩

theorem store_sound {P : Program} {E : Env} {a : Act} {o : Oper} {base : Nat} {t : List V} {L : Heap} (hR : HRel E) (hL : Sub L E) (ht : RelL E t a.tmps.toList)
    {ty : TypeId} {x y : Operand} (ho : o.op = .store ty x y) {p v : V} {eff : Eff} (hp : evalV t x = some p) (hy : evalV t y = some v) (hv : storeV P L ty p v = some eff) : OpSound P E a o base eff := by
  have r := evalV_rel ht hp
  have rv := evalV_rel ht hy
  unfold storeV at hv
  split at hv
  · rename_i g n b off ver hz
    obtain ⟨h1, h2⟩ := tySz_run hz
    split at hv
    · rename_i blk hb
      split at hv
      · rename_i hcond
        obtain ⟨hver, hfz, hn, hfit, hone⟩ := hcond
        cases hv
        have hH := hL b blk hb
        obtain ⟨e, he, hl⟩ := hR.at_ b blk hH
        generalize hcx : a.eval x = cx at r
        cases r with
        | ptrB he' hle hpos =>
          rw [he] at he'
          cases he'
          obtain ⟨c, o', hp', rfl⟩ := hpos (hl.1.trans hver)
          have rc := cells_rel rv hone
          obtain ⟨w', g1, g2, g3, g4⟩ := write_env (P := P) (off := off) hR hH hfz he hp' rc hone (by omega)
          refine opSound_of_run (cv := undef) (E' := ⟨w', _, E.ρ, E.B, E.O⟩) (.inr ⟨?_, rfl⟩) rfl rfl rfl g2 g3 undef_rel g4 (fun _ h _ => h)
          have hsz : (a.eval y).cells.size = n := by
            have := rc.length
            simp at this
            omega
          rw [execOp, ho]
          simp [hcx, Instr.storeAt, Instr.sureAddr, storeVar, h2, hsz, g1]
      · cases hv
    · cases hv
  · cases hv
end
end Go.Proofs.Ytnnfcebnmogdmaa.VM
/- The machine of values: addresses, new blocks. No conditions. -/
namespace Go.Proofs.Ytnnfcebnmogdmaa.VM
set_option linter.unusedSimpArgs false
set_option linter.unusedVariables false
open Go Go.RowKit
noncomputable section

theorem ptrAdd_rel {E : Env} {L : Heap} (hR : HRel E) (hL : Sub L E) {p v : V} {c : Value} {k : Nat} (h : ptrAdd L p k = some v) (r : Rel E p c) :
    ∃ ad, c = .pointer (some ad) ∧ Rel E v (.pointer (some (ad.add k))) := by
  cases r <;> simp only [ptrAdd] at h <;> try cases h
  · rename_i hs hf hr hc
    refine ⟨_, rfl, ?_⟩
    rw [Addr.add_lit]
    refine .ptrI hs hf (hr.drop k) fun i v hv => ?_
    rw [List.getElem?_drop] at hv
    have := hc _ v hv
    rwa [← Nat.add_assoc] at this
  · rename_i b off ver A e he hv hp
    split at h
    · rename_i blk hb
      split at h
      · rename_i hver
        cases h
        obtain ⟨e', he', hl⟩ := hR.at_ b blk (hL b blk hb)
        rw [he] at he'
        cases he'
        obtain ⟨c', o', hpos, rfl⟩ := hp (hl.1.trans hver)
        refine ⟨_, rfl, ?_⟩
        rw [Addr.add_lit]
        exact .ptrB he hv fun _ => ⟨c', o', hpos, by rw [Nat.add_assoc]⟩
      · cases h
    · cases h

theorem fieldOff_run {P : Program} {s : TypeId} {f off : Nat} {ft : TypeId} (h : fieldOff P s f = some (off, ft)) :
    ∃ fs fl n, P.underlying s = some (.struct fs) ∧ fs[f]? = some fl ∧ fl.offset = off ∧ fl.type = ft ∧ n ≠ 0 ∧ (∀ w, (sizeOf ft).run P w = .ok n w) := by
  unfold fieldOff at h
  split at h
  · rename_i fs hfs
    split at h
    · rename_i fl hfl
      split at h
      · rename_i g n hz
        split at h
        · cases h
        · rename_i hn
          simp only [Option.some.injEq, Prod.mk.injEq] at h
          obtain ⟨rfl, rfl⟩ := h
          exact ⟨fs, fl, n, hfs, hfl, rfl, rfl, hn, (tySz_run hz).2⟩
      · cases h
    · cases h
  · cases h

section
variable {P : Program} {E : Env} {a : Act} {o : Oper} {base : Nat} {t : List V} {L : Heap}

theorem fieldAddr_sound (hR : HRel E) (hL : Sub L E) (ht : RelL E t a.tmps.toList) {s : TypeId} {x : Operand} {f : Nat} (ho : o.op = .fieldAddr s x f) {p v : V} {off : Nat} {ft : TypeId}
    (hp : evalV t x = some p) (hf : fieldOff P s f = some (off, ft)) (hv : ptrAdd L p off = some v) : OpSound P E a o base (Eff.pure v) := by
  obtain ⟨ad, e1, e2⟩ := ptrAdd_rel hR hL hv (evalV_rel ht hp)
  obtain ⟨fs, fl, n, h1, h2, rfl, rfl, h3, h4⟩ := fieldOff_run hf
  refine opSound_pure hR (cv := .pointer (some (ad.add fl.offset))) ?_ e2
  rw [execOp, ho]
  simp [Instr.fieldAt, run_underlying h1, h2, e1, Instr.sureAddr, fieldPlace, h4, h3]

theorem idxAddr_sound (hR : HRel E) (hL : Sub L E) (ht : RelL E t a.tmps.toList) {s : TypeId} {x ix : Operand} (ho : o.op = .indexAddr s x ix) {p v : V} {k : IntKind} {i : Int}
    (hp : evalV t x = some p) (hi : evalV t ix = some (.int k i)) (hv : idxAddr P L s p i = some v) : OpSound P E a o base (Eff.pure v) := by
  have r := evalV_rel ht hp
  have ri := evalV_rel ht hi
  generalize hci : a.eval ix = ci at ri
  cases ri
  unfold idxAddr at hv
  split at hv
  · rename_i e hu
    split at hv
    · rename_i g kk fr cs n tt hz
      obtain ⟨_, h2⟩ := tySz_run hz
      split at hv
      · rename_i hb
        cases hv
        generalize hcx : a.eval x = cx at r
        cases r with
        | slI0 _ => omega
        | slI hs hf hn htt hr hc =>
          rename_i cvs cap c o'
          refine opSound_pure hR (cv := .pointer (some ⟨c, o' + i.toNat * kk, none⟩)) ?_ ?_
          · rw [execOp, ho]
            simp [Instr.indexAt, run_underlying hu, asIntOf, hcx, hci, hb, h2, Addr.add_lit]
          · refine .ptrI hs hf (hr.drop _) fun j v hv => ?_
            rw [List.getElem?_drop] at hv
            have := hc _ v hv
            rwa [← Nat.add_assoc] at this
      · cases hv
    · rename_i g kk b off ver n hz
      obtain ⟨_, h2⟩ := tySz_run hz
      split at hv
      · rename_i blk hb
        split at hv
        · rename_i hcond
          obtain ⟨hver, hi0, hi1⟩ := hcond
          cases hv
          generalize hcx : a.eval x = cx at r
          cases r with
          | slB he hle hpos =>
            rename_i cap A e'
            obtain ⟨e2, he2, hl⟩ := hR.at_ b blk (hL b blk hb)
            rw [he] at he2
            cases he2
            obtain ⟨_, hq⟩ := hpos (hl.1.trans hver)
            rcases hq with ⟨c, o', hp', rfl, _⟩ | ⟨_, h0, _⟩
            · refine opSound_pure hR (cv := .pointer (some ⟨c, o' + (off + i.toNat * kk), none⟩)) ?_ (.ptrB he hle fun _ => ⟨c, o', hp', rfl⟩)
              rw [execOp, ho]
              simp [Instr.indexAt, run_underlying hu, asIntOf, hcx, hci, hi0, hi1, h2, Addr.add_lit, Nat.add_assoc]
            · omega
        · cases hv
      · cases hv
    · cases hv
  · rename_i n e hu
    split at hv
    · rename_i g kk hz
      obtain ⟨_, h2⟩ := tySz_run hz
      split at hv
      · rename_i hb
        obtain ⟨ad, e1, e2⟩ := ptrAdd_rel hR hL hv r
        refine opSound_pure hR (cv := .pointer (some (ad.add (i.toNat * kk)))) ?_ e2
        rw [execOp, ho]
        simp [Instr.indexAt, run_underlying hu, asIntOf, e1, Instr.sureAddr, hci, hb, h2]
      · cases hv
    · cases hv
  · cases hv

/-- A new block of the call's own. -/
theorem new_env (hR : HRel E) {w' : World} {arr : Array Value} {el : TypeId} {lo hi : Nat} {cells : List V} {k : Nat} (hw : w'.heap = E.w.heap.push (.cells arr el (lo, hi)))
    (h5 : w'.os = E.w.os) (h6 : w'.tape = E.w.tape) (h7 : w'.output = E.w.output) (hfresh : E.ρ base = none) (hf : lo = hi ∨ arr.size ≤ lo) (hlen : cells.length ≤ arr.size)
    (hr : RelL E cells (arr.toList.take cells.length)) :
    Ext E ⟨w', updF E.H base ⟨cells, k, 0, false⟩, updF E.ρ base ⟨some (E.w.heap.size, 0), k, 0, arr.size⟩, E.B, E.O⟩ ∧
    HRel ⟨w', updF E.H base ⟨cells, k, 0, false⟩, updF E.ρ base ⟨some (E.w.heap.size, 0), k, 0, arr.size⟩, E.B, E.O⟩ ∧ Below E.B E.w w' := by
  have hold : ∀ c, c < E.w.heap.size → w'.heap[c]? = E.w.heap[c]? := by
    intro c hc
    rw [hw, Array.getElem?_push, if_neg (by omega)]
  have hnew : w'.heap[E.w.heap.size]? = some (.cells arr el (lo, hi)) := by rw [hw]; simp
  have hx := ext_upd (w' := w') (b := base) (blk' := ⟨cells, k, 0, false⟩) (e' := ⟨some (E.w.heap.size, 0), k, 0, arr.size⟩) hR (fun c hc _ => hold c hc) (by rw [hw]; simp)
    (fun c o hp => by simp only [Option.some.injEq, Prod.mk.injEq] at hp; exact .inl (by omega)) (fun e he => by rw [hfresh] at he; cases he)
    (fun hx => ⟨rfl, rfl, hR.le, arr, el, lo, hi, hnew, rfl, by simpa using hlen, hf, by simpa using hr.mono hx⟩)
  exact ⟨hx.1, hx.2, h5, h6, h7, by rw [hw]; simp, fun c hc => hold c (Nat.lt_of_lt_of_le hc hR.le)⟩
theorem fresh_upd {e : RE} {m : Nat} (hm : 1 ≤ m) : ∀ b, E.ρ b = none → ¬ (base ≤ b ∧ b < base + m) → updF E.ρ base e b = none := by
  intro b h hb
  unfold updF
  rw [if_neg (by omega)]
  exact h

theorem opSound_new (hR : HRel E) {w' : World} {arr : Array Value} {el : TypeId} {lo hi : Nat} {cells : List V} {k : Nat} {v : V} {cv : Value}
    (hrun : (execOp a.eval o).run P E.w = .ok (.value cv) w') (hw : w'.heap = E.w.heap.push (.cells arr el (lo, hi)))
    (h5 : w'.os = E.w.os) (h6 : w'.tape = E.w.tape) (h7 : w'.output = E.w.output) (hfresh : E.ρ base = none) (hf : lo = hi ∨ arr.size ≤ lo) (hlen : cells.length ≤ arr.size)
    (hr : RelL E cells (arr.toList.take cells.length))
    (hv : Rel ⟨w', updF E.H base ⟨cells, k, 0, false⟩, updF E.ρ base ⟨some (E.w.heap.size, 0), k, 0, arr.size⟩, E.B, E.O⟩ v cv) : OpSound P E a o base ⟨v, [], [⟨cells, k, 0, false⟩]⟩ := by
  obtain ⟨g1, g2, g3⟩ := new_env (base := base) (k := k) hR hw h5 h6 h7 hfresh hf hlen hr
  exact opSound_of_run (E' := ⟨w', updF E.H base ⟨cells, k, 0, false⟩, updF E.ρ base ⟨some (E.w.heap.size, 0), k, 0, arr.size⟩, E.B, E.O⟩) (.inl hrun) rfl rfl rfl g1 g2 hv g3 (fresh_upd (Nat.le_refl 1))
theorem zeroV_run {ty : TypeId} {z : List V} (h : zeroV P ty = some z) : ∃ zv n, (∀ w, (zeroValue ty).run P w = .ok zv w) ∧ (∀ E, RelL E z zv.cells.toList) ∧ z.length = n ∧ (∀ w, (sizeOf ty).run P w = .ok n w) := by
  unfold zeroV at h
  split at h
  · rename_i i hi
    split at h
    · rename_i zv hz
      split at h
      · rename_i v hv
        split at h
        · rename_i hl
          cases h
          refine ⟨zv, i.size, fun w => by simp [zeroValue, typeInfo, hi, hz], fun E => ?_, hl, fun w => by simp [sizeOf, typeInfo, hi]⟩
          have r := ofAg_rel (E := E) hv
          cases v with
          | agg cs => cases r with | agg s => simpa [V.cells, Value.cells] using s
          | _ =>
            unfold ofAg at hv
            split at hv
            · rename_i cs
              cases h1 : mapO ofSc cs.toList <;> simp [h1] at hv
            · rename_i hne
              have h2 : zv.cells = #[zv] := by cases zv <;> first | rfl | exact absurd rfl (hne _)
              rw [h2]
              exact .cons r .nil
        · cases h
      · cases h
    · cases h
  · cases h

theorem alloc_sound (hR : HRel E) {ty : TypeId} (ho : o.op = .alloc ty) {z : List V} (hz : zeroV P ty = some z) (hfresh : E.ρ base = none) :
    OpSound P E a o base ⟨.ptrB base 0 0, [], [⟨z, 0, 0, false⟩]⟩ := by
  obtain ⟨zv, n, h1, h2, h3, h4⟩ := zeroV_run hz
  have hl := (h2 E).length
  refine opSound_new (cells := z) (k := 0) (arr := zv.cells) (el := ty) (lo := 0) (hi := 0) (w' := { E.w with heap := E.w.heap.push (.cells zv.cells ty (0, 0)) }) (cv := .pointer (some ⟨E.w.heap.size, 0, none⟩)) hR ?_ rfl rfl rfl rfl hfresh (by omega) (by simp at hl; omega) ?_
    (.ptrB (e := ⟨some (E.w.heap.size, 0), 0, 0, zv.cells.size⟩) (by simp [updF]) (Nat.le_refl _) (fun _ => ⟨_, _, rfl, rfl⟩))
  · rw [execOp, ho]
    simp [Instr.alloc, h1, newVar, newRow]
  · rw [List.take_of_length_le (by omega)]
    exact h2 E

theorem box_sound (hR : HRel E) (ht : RelL E t a.tmps.toList) {ty : TypeId} {x : Operand} (ho : o.op = .box ty x) {v : V} (hv : evalV t x = some v) (h1 : v.cells.all V.one = true) (hfresh : E.ρ base = none) :
    OpSound P E a o base ⟨.ptrB base 0 0, [], [⟨v.cells, 0, 0, false⟩]⟩ := by
  have rc := cells_rel (evalV_rel ht hv) h1
  have hl := rc.length
  refine opSound_new (cells := v.cells) (k := 0) (arr := (a.eval x).cells) (el := ty) (lo := 0) (hi := 0) (w' := { E.w with heap := E.w.heap.push (.cells (a.eval x).cells ty (0, 0)) }) (cv := .pointer (some ⟨E.w.heap.size, 0, none⟩)) hR ?_ rfl rfl rfl rfl hfresh (by omega) (by simp at hl; omega) ?_
    (.ptrB (e := ⟨some (E.w.heap.size, 0), 0, 0, (a.eval x).cells.size⟩) (by simp [updF]) (Nat.le_refl _) (fun _ => ⟨_, _, rfl, rfl⟩))
  · rw [execOp, ho]
    simp [Instr.box, newVar, newRow]
  · rw [List.take_of_length_le (by omega)]
    exact rc

end
end
end Go.Proofs.Ytnnfcebnmogdmaa.VM
/- The machine of values: slices. No conditions. -/
namespace Go.Proofs.Ytnnfcebnmogdmaa.VM
set_option linter.unusedSimpArgs false
set_option linter.unusedVariables false
open Go Go.RowKit
noncomputable section

def zerosC (z : List Value) : Nat → List Value
  | 0 => []
  | n + 1 => z ++ zerosC z n
theorem zerosV_rel {E : Env} {z : List V} {zc : List Value} (h : RelL E z zc) : ∀ n, RelL E (zerosV z n) (zerosC zc n)
  | 0 => .nil
  | n + 1 => h.append (zerosV_rel h n)
theorem zerosC_length (z : List Value) : ∀ n, (zerosC z n).length = n * z.length
  | 0 => by simp [zerosC]
  | n + 1 => by rw [zerosC, List.length_append, zerosC_length z n, Nat.add_mul]; omega
theorem zerosV_length (z : List V) : ∀ n, (zerosV z n).length = n * z.length
  | 0 => by simp [zerosV]
  | n + 1 => by rw [zerosV, List.length_append, zerosV_length z n, Nat.add_mul]; omega
theorem zerosC_get (z : List Value) (hz : 0 < z.length) : ∀ (n i : Nat), i < n * z.length → (zerosC z n)[i]? = z[i % z.length]?
  | 0, i, h => by simp at h
  | n + 1, i, h => by
    rw [zerosC, List.getElem?_append]
    split
    · rename_i hlt
      rw [Nat.mod_eq_of_lt hlt]
    · rename_i hge
      rw [zerosC_get z hz n (i - z.length) (by rw [Nat.add_mul, Nat.one_mul] at h; omega)]
      congr 1
      exact (Nat.mod_eq_sub_mod (Nat.le_of_not_lt hge)).symm
theorem range_zeros (z : Array Value) (n : Nat) : ((Array.range (n * z.size)).map fun i => z[i % z.size]!).toList = zerosC z.toList n := by
  apply List.ext_getElem?
  intro i
  by_cases h0 : z.size = 0
  · have hz : z.toList = [] := by
      have : z.toList.length = 0 := by simpa using h0
      exact List.length_eq_zero_iff.1 this
    have : zerosC z.toList n = [] := by
      rw [hz]
      clear h0 hz
      induction n with
      | zero => rfl
      | succ n ih => rw [zerosC, ih]; rfl
    rw [this]
    simp [h0]
  · by_cases hi : i < n * z.size
    · rw [zerosC_get z.toList (by simp; omega) n i (by simpa using hi)]
      have hm : i % z.size < z.size := Nat.mod_lt _ (by omega)
      simp [hi, hm]
    · have hl := zerosC_length z.toList n
      rw [List.getElem?_eq_none (by simp; omega), List.getElem?_eq_none (by rw [hl]; simp; omega)]
theorem zerosC_take (z : List Value) (n m : Nat) (h : n ≤ m) : (zerosC z m).take (n * z.length) = zerosC z n := by
  obtain ⟨d, rfl⟩ := Nat.exists_eq_add_of_le h
  clear h
  induction n with
  | zero => simp [zerosC]
  | succ n ih =>
    rw [show n + 1 + d = (n + d) + 1 from by omega, zerosC, zerosC, List.take_append, Nat.add_mul, Nat.one_mul]
    rw [List.take_of_length_le (by omega), show n * z.length + z.length - z.length = n * z.length from by omega, ih]

section
variable {P : Program} {E : Env} {a : Act} {o : Oper} {base : Nat} {t : List V} {L : Heap}

theorem makeSlice_sound (hR : HRel E) (ht : RelL E t a.tmps.toList) {ty e : TypeId} {x y : Operand} (ho : o.op = .makeSlice ty x y) {l c : Int} {kl kc : IntKind} (hl : evalV t x = some (.int kl l)) (hc : evalV t y = some (.int kc c))
    (hu : P.underlying ty = some (.slice e)) {z : List V} {i : TypeInfo} (hz : zeroV P e = some z) (hi : P.info? e = some i) (h0 : 0 ≤ l) (h1 : l ≤ c) (h2 : c ≤ 1099511627776) (hb : i.bytes ≤ 256) (hfresh : E.ρ base = none) :
    OpSound P E a o base ⟨.slB base 0 0 l.toNat, [], [⟨zerosV z l.toNat, z.length, 0, false⟩]⟩ := by
  obtain ⟨zv, n, g1, g2, g3, g4⟩ := zeroV_run hz
  have rl := evalV_rel ht hl
  have rc := evalV_rel ht hc
  generalize hcl : a.eval x = cl at rl
  generalize hcc : a.eval y = cc at rc
  cases rl
  cases rc
  have hzl := (g2 E).length
  have hzs : zv.cells.size = z.length := by simp at hzl; omega
  have hsz : i.size = z.length := by
    have := g4 E.w
    simp [sizeOf, typeInfo, hi] at this
    omega
  have hwl : IntKind.i64.wrap l = l := by simp [IntKind.wrap, IntKind.bits, IntKind.signed]; omega
  have hwc : IntKind.i64.wrap c = c := by simp [IntKind.wrap, IntKind.bits, IntKind.signed]; omega
  have hmul : (i.bytes : Int) * c ≤ 281474976710656 := by
    have h3 : (i.bytes : Int) * c ≤ 256 * c := Int.mul_le_mul_of_nonneg_right (by omega) (by omega)
    omega
  have hrz := range_zeros zv.cells c.toNat
  rw [hzs] at hrz
  refine opSound_new (cells := zerosV z l.toNat) (k := z.length) (arr := (Array.range (c.toNat * z.length)).map (fun i => zv.cells[i % z.length]!)) (el := e) (lo := 0) (hi := 0)
    (w' := { E.w with heap := E.w.heap.push (.cells ((Array.range (c.toNat * z.length)).map (fun i => zv.cells[i % z.length]!)) e (0, 0)) }) (cv := .slice (some ⟨E.w.heap.size, 0, none⟩) l.toNat c.toNat) hR ?_ rfl rfl rfl rfl hfresh (by omega) ?_ ?_ ?_
  · rw [execOp, ho]
    have q1 : ¬ ((c < 0 ∨ 281474976710656 < (i.bytes : Int) * c) ∨ l < 0 ∨ c < l) := by omega
    have q2 : ¬ (c < 0) := by omega
    have q3 : ¬ (281474976710656 < (i.bytes : Int) * c) := by omega
    have q4 : ¬ (l < 0) := by omega
    have q5 : ¬ (c < l) := by omega
    by_cases hn : c.toNat * z.length = 0
    · simp [Instr.makeSlice, run_underlying hu, hcl, hcc, asInt, asIntOf, typeInfo, hi, hwl, hwc, q2, q3, q4, q5, askRoom, sizeOf, hsz, hn, newRow]
      simp only [Array.range_zero', Array.map_empty]
    · simp [Instr.makeSlice, run_underlying hu, hcl, hcc, asInt, asIntOf, typeInfo, hi, hwl, hwc, q2, q3, q4, q5, askRoom, sizeOf, hsz, hn, newRow, g1, hzs]
  · rw [zerosV_length]
    simp
    exact Nat.mul_le_mul_right _ (by omega)
  · rw [hrz, zerosV_length, hzl, zerosC_take _ _ _ (by omega)]
    exact zerosV_rel (g2 E) _
  · refine .slB (e := ⟨some (E.w.heap.size, 0), z.length, 0, _⟩) (by simp [updF]; rfl) (Nat.le_refl _) (fun _ => ⟨rfl, .inl ⟨_, _, rfl, rfl, by omega, ?_⟩⟩)
    simp

def evalParts (t : List V) : List (Nat × Operand) → Option (List (Nat × V))
  | [] => some []
  | (i, x) :: r => match evalV t x, evalParts t r with
    | some v, some vs => some ((i, v) :: vs)
    | _, _ => none
inductive PRel (E : Env) : List (Nat × V) → List (Nat × Value) → Prop
  | nil : PRel E [] []
  | cons {i : Nat} {v : V} {c : Value} {vs : List (Nat × V)} {cs : List (Nat × Value)} : Rel E v c → PRel E vs cs → PRel E ((i, v) :: vs) ((i, c) :: cs)
theorem evalParts_rel (ht : RelL E t a.tmps.toList) : ∀ {ps : List (Nat × Operand)} {vs : List (Nat × V)}, evalParts t ps = some vs → PRel E vs (ps.map fun (i, x) => (i, a.eval x))
  | [], vs, h => by cases h; exact .nil
  | (i, x) :: r, vs, h => by
    simp only [evalParts] at h
    cases h1 : evalV t x with
    | none => simp [h1] at h
    | some v =>
      cases h2 : evalParts t r with
      | none => simp [h1, h2] at h
      | some ws =>
        simp [h1, h2] at h
        subst h
        exact .cons (evalV_rel ht h1) (evalParts_rel ht h2)
theorem fill_list (off : Nat) : ∀ (l : List Value) (k : Nat) (arr : Array Value), ((l.zipIdx k).foldl (fun cs (c, j) => cs.setIfInBounds (off + j) c) arr).toList = setC arr.toList (off + k) l
  | [], k, arr => rfl
  | v :: r, k, arr => by
    rw [List.zipIdx_cons, List.foldl_cons, fill_list off r (k + 1)]
    simp [setC, Nat.add_assoc]
theorem fill_one (off : Nat) (vs : Array Value) (arr : Array Value) : (vs.zipIdx.foldl (fun cs (c, j) => cs.setIfInBounds (off + j) c) arr).toList = setC arr.toList off vs.toList := by
  rw [← Array.foldl_toList, Array.toList_zipIdx]
  exact fill_list off vs.toList 0 arr
theorem fill_rel {place : Nat → Option (Nat × Nat)} : ∀ {vs : List (Nat × V)} {cs : List (Nat × Value)} {cells out : List V} {arr : Array Value}, PRel E vs cs → RelL E cells arr.toList → fillV place cells vs = some out →
    ∃ arr', Instr.fill place arr cs = some arr' ∧ RelL E out arr'.toList
  | _, _, cells, out, arr, .nil, hr, h => by cases h; exact ⟨arr, rfl, hr⟩
  | _, _, cells, out, arr, .cons (i := i) (v := v) (c := c) r s, hr, h => by
    simp only [fillV] at h
    split at h
    · cases h
    · rename_i off size hp
      split at h
      · rename_i hcond
        obtain ⟨h1, h2, h3⟩ := hcond
        have rc := cells_rel r h3
        have hl := rc.length
        have hcl := hr.length
        have hr' : RelL E (setCells cells off v.cells) (c.cells.zipIdx.foldl (fun cs (c, j) => cs.setIfInBounds (off + j) c) arr).toList := by
          rw [fill_one]
          exact setCells_rel off rc hr
        obtain ⟨arr', g1, g2⟩ := fill_rel s hr' h
        refine ⟨arr', ?_, g2⟩
        have hs : c.cells.size = size := by simp at hl; omega
        have hfit : ¬ (arr.size < off + size) := by simp at hcl; omega
        simp only [Instr.fill, hp, hs, ne_eq, not_true_eq_false, decide_false, Bool.false_or, gt_iff_lt, hfit, Bool.false_eq_true, if_false]
        exact g1
      · cases h

/-- A new row that is not written any more. -/
theorem imm_env (hR : HRel E) {w' : World} {arr : Array Value} {el : TypeId} {fr : Nat × Nat} (hw : w'.heap = E.w.heap.push (.cells arr el fr))
    (h5 : w'.os = E.w.os) (h6 : w'.tape = E.w.tape) (h7 : w'.output = E.w.output) {cells : List V} (hr : RelL E cells arr.toList) (n : Nat) :
    Ext E { E with w := w' } ∧ HRel { E with w := w' } ∧ Below E.B E.w w' ∧ Rel { E with w := w' } (.slI true cells n true) (.slice (some ⟨E.w.heap.size, 0, none⟩) n n) := by
  have hold : ∀ c, c < E.w.heap.size → w'.heap[c]? = E.w.heap[c]? := by
    intro c hc
    rw [hw, Array.getElem?_push, if_neg (by omega)]
  have hz : E.w.heap.size ≤ w'.heap.size := by rw [hw]; simp
  have hx := ext_world hold hz
  refine ⟨hx, hrel_world hR hold hz, ⟨h5, h6, h7, hz, fun c hc => hold c (Nat.lt_of_lt_of_le hc hR.le)⟩, ?_⟩
  refine .slI ⟨by rw [hw]; simp, fun h => ?_, fun b blk e o h1 h2 h3 h4 => ?_⟩ (fun _ => hR.le) (Nat.le_refl _) (fun _ => rfl) (hr.mono hx) fun i v hv => ?_
  · have := hR.le; exact absurd h (by simp; omega)
  · obtain ⟨e', h5, h6⟩ := hR.at_ b blk h1
    have h3' : E.ρ b = some e := h3
    rw [h5] at h3'
    cases h3'
    have := (h6.lt h4).2
    omega
  · have hh : w'.heap[E.w.heap.size]? = some (.cells arr el fr) := by rw [hw]; simp
    rw [cell_at hh]
    simpa using hv

def buildSliceV (P : Program) (t : List V) (ty : TypeId) (len : Nat) (parts : Array (Nat × Operand)) : Option Eff :=
  match P.underlying ty with
  | some (.slice e) => match zeroV P e, evalParts t parts.toList with
    | some z, some vs => if len * z.length ≤ 16777216 then match fillV (fun i => some (i * z.length, z.length)) (zerosV z len) vs with
      | some cells => some (Eff.pure (.slI true cells len true))
      | none => none else none
    | _, _ => none
  | _ => none
theorem buildSlice_sound (hR : HRel E) (ht : RelL E t a.tmps.toList) {ty : TypeId} {len : Nat} {parts : Array (Nat × Operand)} (ho : o.op = .buildSlice ty len parts) {eff : Eff}
    (h : buildSliceV P t ty len parts = some eff) : OpSound P E a o base eff := by
  unfold buildSliceV at h
  split at h
  · rename_i e hu
    split at h
    · rename_i z vs hz hvs
      split at h
      · rename_i hlen
        split at h
        · rename_i cells hf
          cases h
          obtain ⟨zv, n, g1, g2, g3, g4⟩ := zeroV_run hz
          have hzl := (g2 E).length
          have hzs : zv.cells.size = z.length := by simp at hzl; omega
          have hrz := range_zeros zv.cells len
          rw [hzs] at hrz
          have hr0 : RelL E (zerosV z len) ((Array.range (len * z.length)).map (fun i => zv.cells[i % z.length]!)).toList := by rw [hrz]; exact zerosV_rel (g2 E) _
          obtain ⟨arr, k1, k2⟩ := fill_rel (evalParts_rel ht hvs) hr0 hf
          obtain ⟨x1, x2, x3, x4⟩ := imm_env (w' := { E.w with heap := E.w.heap.push (.cells arr e (0, 0)) }) hR rfl rfl rfl rfl k2 len
          refine opSound_of_run (E' := { E with w := { E.w with heap := E.w.heap.push (.cells arr e (0, 0)) } }) (.inl ?_) rfl rfl rfl x1 x2 x4 x3 (fun _ h _ => h)
          rw [execOp, ho]
          have hsz : ∀ w, (sizeOf e).run P w = .ok z.length w := fun w => by rw [g4, g3]
          have k1' : Instr.fill (fun i => some (i * z.length, z.length)) ((Array.range (len * z.length)).map (fun i => zv.cells[i % z.length]!)) (List.map (fun x => (x.fst, a.eval x.snd)) parts.toList) = some arr := k1
          have hn : ¬ (16777216 < len * z.length) := by omega
          by_cases h0 : len * z.length = 0
          · rw [h0] at k1'
            simp only [Array.range_zero', Array.map_empty] at k1'
            simp [Instr.buildSlice, run_underlying hu, hsz, h0, newRow]
            simp only [Array.range_zero', Array.map_empty]
            rw [k1']
            simp
          · simp [Instr.buildSlice, run_underlying hu, hsz, h0, hn, newRow, g1, hzs]
            rw [k1']
            simp
        · cases h
      · cases h
    · cases h
  · cases h
end
end
end Go.Proofs.Ytnnfcebnmogdmaa.VM
/- The machine of values: append. No conditions. -/
namespace Go.Proofs.Ytnnfcebnmogdmaa.VM
set_option linter.unusedSimpArgs false
set_option linter.unusedVariables false
open Go Go.RowKit
noncomputable section

theorem setC_eq : ∀ (vs l : List Value) (p : Nat), p + vs.length ≤ l.length → setC l p vs = l.take p ++ vs ++ l.drop (p + vs.length)
  | [], l, p, h => by simp [setC]
  | v :: r, l, p, h => by
    simp only [List.length_cons] at h
    rw [setC, setC_eq r _ _ (by simp; omega), List.drop_set, if_pos (by omega)]
    have : (l.set p v).take (p + 1) = l.take p ++ [v] := by
      rw [List.take_set, List.take_succ_eq_append_getElem (by omega), List.set_append, if_neg (by simp; omega), List.length_take, Nat.min_eq_left (by omega), Nat.sub_self]
      rfl
    rw [this]
    simp [Nat.add_comm 1, Nat.add_assoc]
    
section
variable {P : Program} {E : Env} {a : Act} {o : Oper} {base : Nat} {t : List V} {L : Heap}

theorem rowOf_rel2 (hR : HRel E) (hL : Sub L E) {k n : Nat} {v : V} {c : Value} {cs : List V} (h : rowOf L k v = some (cs, n)) (r : Rel E v c) :
    ∃ cvs, RelL E cs cvs ∧ cs.length = n * k ∧ (∀ w, (Builtin.lenOf c).run P w = .ok n w) ∧ ∀ m, m ≤ n → ∀ w', (∀ c i, w'.cell? ⟨c, i, none⟩ = E.w.cell? ⟨c, i, none⟩) → (Builtin.firstCells k m c).run P w' = .ok (cvs.take (m * k)).toArray w' := by
  have imm : ∀ {b o' : Nat} {n' cap : Nat} {xs : List V} {cvs : List Value}, RelL E xs cvs → n * k ≤ xs.length → n' = n → (∀ (i : Nat) (v : Value), cvs[i]? = some v → E.w.cell? ⟨b, o' + i, none⟩ = some v) →
      ∃ cvs', RelL E (xs.take (n * k)) cvs' ∧ (xs.take (n * k)).length = n * k ∧ (∀ w, (Builtin.lenOf (.slice (some ⟨b, o', none⟩) n' cap)).run P w = .ok n w) ∧
        ∀ m, m ≤ n → ∀ w', (∀ c i, w'.cell? ⟨c, i, none⟩ = E.w.cell? ⟨c, i, none⟩) → (Builtin.firstCells k m (.slice (some ⟨b, o', none⟩) n' cap)).run P w' = .ok (cvs'.take (m * k)).toArray w' := by
    intro b o' n' cap xs cvs hr hl hn hc
    subst hn
    refine ⟨cvs.take (n' * k), hr.take _, by rw [List.length_take]; omega, fun w => by simp [Builtin.lenOf], fun m hm w' hw' => ?_⟩
    have hmk : m * k ≤ n' * k := Nat.mul_le_mul_right _ hm
    have := run_loadCells_at (P := P) (w := w') (fun i v hv => by rw [hw']; exact hc i v hv) (m * k) (by rw [← hr.length]; omega)
    rw [List.take_take, Nat.min_eq_left hmk]
    simpa [Builtin.firstCells] using this
  cases r <;> simp only [rowOf] at h <;> try cases h
  · split at h
    · rename_i s hk
      simp only [Option.some.injEq, Prod.mk.injEq] at h
      obtain ⟨rfl, rfl⟩ := h
      subst hk
      refine ⟨s.data.toList.map fun b => Value.int .u8 b.toNat, RelL.of_get (by simp) fun i x y hx hy => ?_, by rw [List.length_map, Nat.mul_one]; rfl, fun w => rfl, fun m hm w' hw' => ?_⟩
      · simp only [List.getElem?_map] at hx hy
        cases hb : s.data.toList[i]? with
        | none => simp [hb] at hx
        | some b => simp [hb] at hx hy; subst hx; subst hy; exact .int _ _
      · simp only [Builtin.firstCells, Sem.run_pure, Nat.mul_one]
        congr 1
        apply Array.ext'
        simp [ByteArray.data_extract, List.extract_eq_take_drop]
    · cases h
  · exact ⟨[], .nil, by simp, fun w => by simp [Builtin.lenOf], fun m hm w' hw' => by simp [Builtin.firstCells]⟩
  · split at h
    · simp only [Option.some.injEq, Prod.mk.injEq] at h
      obtain ⟨rfl, rfl⟩ := h
      rename_i A cap _ _
      refine ⟨[], by simpa using RelL.nil, by simp, fun w => by simp [Builtin.lenOf], fun m hm w' hw' => ?_⟩
      obtain rfl : m = 0 := by omega
      cases A with
      | none => simp [Builtin.firstCells]
      | some ad => simp [Builtin.firstCells, loadCells, loadCellsFrom]
    · cases h
  · split at h
    · rename_i hs hf hn ht hr hc hle
      simp only [Option.some.injEq, Prod.mk.injEq] at h
      obtain ⟨rfl, rfl⟩ := h
      exact imm hr hle rfl hc
    · cases h
  · rename_i b off ver n0 cap A e he hv hp
    split at h
    · rename_i blk hb
      split at h
      · rename_i hcond
        simp only [Option.some.injEq, Prod.mk.injEq] at h
        obtain ⟨rfl, rfl⟩ := h
        obtain ⟨e', he', hl⟩ := hR.at_ b blk (hL b blk hb)
        rw [he] at he'
        cases he'
        obtain ⟨_, hq⟩ := hp (hl.1.trans hcond.1)
        rcases hq with ⟨c', o', hpos, rfl, h1, h2⟩ | ⟨hpos, rfl, rfl, rfl⟩
        · obtain ⟨cvs, g1, g2⟩ := block_cells hl hpos
          refine imm (g1.drop off) (by simp; omega) rfl fun i v hv => ?_
          rw [List.getElem?_drop] at hv
          have := g2 _ v hv
          rwa [← Nat.add_assoc] at this
        · refine ⟨[], by simpa using RelL.nil, by simp, fun w => by simp [Builtin.lenOf], fun m hm w' hw' => ?_⟩
          obtain rfl : m = 0 := by omega
          cases A with
          | none => simp [Builtin.firstCells]
          | some ad => simp [Builtin.firstCells, loadCells, loadCellsFrom]
      · cases h
    · cases h

theorem rowOf_rel (hR : HRel E) (hL : Sub L E) {k n : Nat} {v : V} {c : Value} {cs : List V} (h : rowOf L k v = some (cs, n)) (r : Rel E v c) :
    ∃ cvs, RelL E cs cvs ∧ cs.length = n * k ∧ (∀ w, (Builtin.lenOf c).run P w = .ok n w) ∧ ∀ m, m ≤ n → (Builtin.firstCells k m c).run P E.w = .ok (cvs.take (m * k)).toArray E.w := by
  obtain ⟨cvs, h1, h2, h3, h4⟩ := rowOf_rel2 (P := P) hR hL h r
  exact ⟨cvs, h1, h2, h3, fun m hm => h4 m hm E.w fun _ _ => rfl⟩

theorem growBy_le (n : Nat) : ∀ (r c : Nat), c ≤ 2 * n + 192 → Builtin.growBy n r c ≤ 2 * n + 192
  | 0, c, h => by simpa [Builtin.growBy] using h
  | r + 1, c, h => by
    rw [Builtin.growBy]
    split
    · exact h
    · exact growBy_le n r _ (by omega)
theorem nextslicecap_le (n c : Nat) (h : c < n) : Builtin.nextslicecap n c ≤ 2 * n + 192 := by
  unfold Builtin.nextslicecap
  split
  · omega
  · split
    · omega
    · exact growBy_le n 4 c (by omega)


theorem notInt {d : TypeDesc} (hd : ∀ kk, d ≠ .int kk) : (match (generalizing := false) d with | .int _ => true | _ => false) = false := by cases d <;> first | rfl | exact absurd rfl (hd _)
/-- What is appended: a row's cells, or zeros (of a row that is made for it). -/
def AppSrc (P : Program) (tyx e : TypeId) (c : Value) (k m : Nat) (new : Array Value) (w : World) : Prop :=
  (∃ d, P.underlying tyx = some d ∧ (∀ kk, d ≠ .int kk) ∧ (∀ w, (Builtin.lenOf c).run P w = .ok m w) ∧ (Builtin.firstCells k m c).run P w = .ok new w) ∨
  (∃ kk kd zv i, P.underlying tyx = some (.int kk) ∧ c = .int kd (m : Int) ∧ m ≤ 1099511627776 ∧ m * i.bytes ≤ 1099511627776 ∧ (∀ w, (zeroValue e).run P w = .ok zv w) ∧ zv.cells.size = k ∧ P.info? e = some i ∧ new = Builtin.zeroCells zv.cells m)
theorem wrap_i64 {m : Nat} (h : m ≤ 1099511627776) : IntKind.i64.wrap (m : Int) = m := by
  simp [IntKind.wrap, IntKind.bits, IntKind.signed]; omega
theorem zeroCells_nil {z : Array Value} {m : Nat} (h : m * z.size = 0) : Builtin.zeroCells z m = #[] := by simp [Builtin.zeroCells, h]
theorem append_room {ty e tyx rt : TypeId} {x : Value} {k n m cap : Nat} {A : Option Addr} {w : World} {new : Array Value}
    (hu : P.underlying ty = some (.slice e)) (hsrc : AppSrc P tyx e x k m new w)
    (hsz : ∀ w, (sizeOf e).run P w = .ok k w) (hle : n + m ≤ cap) :
    (Builtin.append_ #[ty, tyx] rt #[.slice A n cap, x]).run P w = (match A with
      | some ad => ((storeCells (ad.add (n * k)) new.toList).run P w).andThen fun _ w' => .ok (.slice A (n + m) cap) w'
      | none => .ok (.slice A (n + m) cap) w) := by
  rcases hsrc with ⟨d, hux, hd, hlen, hnew⟩ | ⟨kk, kd, zv, i, hux, rfl, hm, hmb, hz, hzs, hi, rfl⟩
  · cases A with
    | none => simp [Builtin.append_, run_underlying hu, run_underlying hux, hsz, hlen, hle, hnew]
    | some ad => simp [Builtin.append_, run_underlying hu, run_underlying hux, hsz, hlen, hle, hnew]
  · have hw := wrap_i64 hm
    have h0 : ¬ ((m : Int) < 0) := by omega
    have h1 : ¬ ((281474976710656 : Int) < (m : Int) * i.bytes) := by
      have : ((m * i.bytes : Nat) : Int) ≤ ((1099511627776 : Nat) : Int) := Int.ofNat_le.2 hmb
      rw [← Int.natCast_mul]
      omega
    by_cases hmk : m * k = 0
    · have hzc : Builtin.zeroCells zv.cells m = #[] := zeroCells_nil (by rw [hzs]; exact hmk)
      cases A with
      | none => simp [Builtin.append_, run_underlying hu, run_underlying hux, hsz, hle, asInt, asIntOf, hw, typeInfo, hi, h0, h1, hmk, hzc]
      | some ad => simp [Builtin.append_, run_underlying hu, run_underlying hux, hsz, hle, asInt, asIntOf, hw, typeInfo, hi, h0, h1, hmk, hzc]
    · cases A with
      | none => simp [Builtin.append_, run_underlying hu, run_underlying hux, hsz, hle, asInt, asIntOf, hw, typeInfo, hi, h0, h1, hmk, hz]
      | some ad => simp [Builtin.append_, run_underlying hu, run_underlying hux, hsz, hle, asInt, asIntOf, hw, typeInfo, hi, h0, h1, hmk, hz]

theorem append_grow {ty e tyx rt : TypeId} {x : Value} {i : TypeInfo} {zv : Value} {k n m cap : Nat} {A : Option Addr} {w : World} {new old : Array Value}
    (hu : P.underlying ty = some (.slice e)) (hi : P.info? e = some i)
    (hz : ∀ w, (zeroValue e).run P w = .ok zv w) (hsz : ∀ w, (sizeOf e).run P w = .ok k w)
    (hsrc : AppSrc P tyx e x k m new w.drew)
    (hold : (Builtin.firstCells k n (.slice A n cap)).run P w.drew = .ok old w.drew)
    (hgt : cap < n + m) (hb : (n + m) * i.bytes ≤ 1099511627776) (hb2 : i.bytes ≤ 1048576) (hm : n + m ≤ 1099511627776) :
    ∃ nc, n + m ≤ nc ∧ (Builtin.append_ #[ty, tyx] rt #[.slice A n cap, x]).run P w = .ok (.slice (some ⟨w.heap.size, 0, none⟩) (n + m) nc)
      { w.drew with heap := w.heap.push (.cells (old ++ new ++ Builtin.zeroCells zv.cells (nc - (n + m))) e (0, 0)) } := by
  have hcap := nextslicecap_le (n + m) cap hgt
  have hmul : Builtin.nextslicecap (n + m) cap * i.bytes ≤ 281474976710656 := by
    have h1 : Builtin.nextslicecap (n + m) cap * i.bytes ≤ (2 * (n + m) + 192) * i.bytes := Nat.mul_le_mul_right _ hcap
    have h2 : (2 * (n + m) + 192) * i.bytes = 2 * ((n + m) * i.bytes) + 192 * i.bytes := by rw [Nat.add_mul, Nat.mul_assoc]
    omega
  have hle : ¬ (n + m ≤ cap) := by omega
  have hq : (Question.appendCap (n + m) cap e).forced = false := rfl
  refine ⟨(Question.appendCap (n + m) cap e).cut (w.tape w.drawn (.appendCap (n + m) cap e)), by simp [Question.cut], ?_⟩
  generalize hnc : (Question.appendCap (n + m) cap e).cut (w.tape w.drawn (.appendCap (n + m) cap e)) = nc
  have q1 : ¬ (281474976710656 < Builtin.nextslicecap (n + m) cap * i.bytes) := by omega
  have q2 : ¬ ((9223372036854775807 : Int) < (n : Int) + m) := by omega
  have hask : ∀ b, ∀ w, (askRoom b).run P w = .ok () w := by
    intro b w
    unfold askRoom
    split <;> rfl
  rcases hsrc with ⟨d, hux, hd, hlen, hnew⟩ | ⟨kk, kd, zv', i', hux, rfl, hm', hmb, hz', hzs, hi', rfl⟩
  · simp [Builtin.append_, run_underlying hu, run_underlying hux, hsz, hlen, hle, hi, typeInfo, q1, q2, hq, hnc, hask, hnew, hold, hz, newRow]
    rfl
  · have hzz : zv' = zv := by
      have h1 := hz w
      rw [hz' w] at h1
      simpa using h1
    subst hzz
    rw [hi] at hi'
    cases hi'
    have hw := wrap_i64 hm'
    have h0 : ¬ ((m : Int) < 0) := by omega
    have h1 : ¬ ((281474976710656 : Int) < (m : Int) * i.bytes) := by
      have : ((m * i.bytes : Nat) : Int) ≤ ((1099511627776 : Nat) : Int) := Int.ofNat_le.2 hmb
      rw [← Int.natCast_mul]
      omega
    by_cases hmk : m * k = 0
    · have hzc : Builtin.zeroCells zv'.cells m = #[] := zeroCells_nil (by rw [hzs]; exact hmk)
      simp [Builtin.append_, run_underlying hu, run_underlying hux, hsz, hle, hi, typeInfo, q1, q2, hq, hnc, hask, asInt, asIntOf, hw, h0, h1, hmk, hzc, hold, hz, newRow]
      rfl
    · simp [Builtin.append_, run_underlying hu, run_underlying hux, hsz, hle, hi, typeInfo, q1, q2, hq, hnc, hask, asInt, asIntOf, hw, h0, h1, hmk, hold, hz, newRow]
      rfl
end
end
end Go.Proofs.Ytnnfcebnmogdmaa.VM
/- The machine of values: append, proved. No conditions. -/
namespace Go.Proofs.Ytnnfcebnmogdmaa.VM
set_option linter.unusedSimpArgs false
set_option linter.unusedVariables false
open Go Go.RowKit
noncomputable section
section
variable {P : Program} {E : Env} {a : Act} {o : Oper} {base : Nat} {t : List V} {L : Heap}

theorem zeroCells_toList (z : Array Value) (n : Nat) : (Builtin.zeroCells z n).toList = zerosC z.toList n := range_zeros z n

theorem drew_cell {w : World} {c i : Nat} : w.drew.cell? ⟨c, i, none⟩ = w.cell? ⟨c, i, none⟩ := rfl
def Env.drew (E : Env) : Env := { E with w := E.w.drew }
theorem drew_env (hR : HRel E) : Ext E E.drew ∧ HRel E.drew := ⟨ext_world (fun _ _ => rfl) (Nat.le_refl _), hrel_world hR (fun _ _ => rfl) (Nat.le_refl _)⟩

theorem drew_back (E : Env) : Ext E.drew E := ⟨rfl, fun _ _ _ _ h => h, fun _ h => h, fun _ e h => ⟨e, h, .inl rfl⟩⟩
theorem fresh_upd2 {b : Nat} {e e' : RE} {m : Nat} (hb : E.ρ b = some e) : ∀ b', E.ρ b' = none → ¬ (base ≤ b' ∧ b' < base + m) → updF E.ρ b e' b' = none := by
  intro b' h _
  unfold updF
  rw [if_neg (fun q => by rw [q, hb] at h; cases h)]
  exact h

theorem splice_window (l vs : List Value) (q p : Nat) (hq : q ≤ p) (hp : p + vs.length ≤ l.length) : ((setC l p vs).drop q).take (p - q + vs.length) = ((l.drop q).take (p - q)) ++ vs := by
  rw [setC_eq vs l p hp, List.append_assoc, List.drop_append_of_le_length (by rw [List.length_take]; omega), List.drop_take, ← List.append_assoc]
  exact List.take_left' (by simp; omega)

/-- append makes a new row. -/
theorem append_new (hR : HRel E) {ty e tyx : TypeId} {x y : Operand}
    (ho : o.op = .call { callee := .builtin .append, args := #[x, y], argTypes := #[ty, tyx] }) (hu : P.underlying ty = some (.slice e))
    {z new : List V} {cvs : List Value} {m n cap : Nat} {i : TypeInfo} {A : Option Addr} (hz : zeroV P e = some z) (hi : P.info? e = some i) (hsrc : AppSrc P tyx e (a.eval y) z.length m cvs.toArray E.w.drew) (hrn : RelL E new cvs) (hnk : new.length = m * z.length)
    (hx : a.eval x = .slice A n cap) (hgt : cap < n + m) (hb : (n + m) * i.bytes ≤ 1099511627776) (hb2 : i.bytes ≤ 1048576) (hm : n + m ≤ 1099511627776)
    {old : List V} {oldc : List Value} (hold : (Builtin.firstCells z.length n (.slice A n cap)).run P E.w.drew = .ok oldc.toArray E.w.drew) (hro : RelL E old oldc) (hlo : old.length = n * z.length) :
    ∃ nc arr, n + m ≤ nc ∧ (execOp a.eval o).run P E.w = .ok (.value (.slice (some ⟨E.w.heap.size, 0, none⟩) (n + m) nc)) { E.w.drew with heap := E.w.heap.push (.cells arr e (0, 0)) } ∧
      arr.size = nc * z.length ∧ RelL E (old ++ new) (arr.toList.take (old ++ new).length) ∧ (old ++ new).length = (n + m) * z.length := by
  obtain ⟨zv, k, g1, g2, g3, g4⟩ := zeroV_run hz
  have hzl := (g2 E).length
  have hzs : zv.cells.size = z.length := by simp at hzl; omega
  obtain ⟨nc, h1, h2⟩ := append_grow (P := P) (rt := o.type) (w := E.w) (A := A) (new := cvs.toArray) (old := oldc.toArray) hu hi g1 (fun w => by rw [g4, g3]) hsrc hold hgt hb hb2 hm
  have hnl := hrn.length
  have hol := hro.length
  refine ⟨nc, oldc.toArray ++ cvs.toArray ++ Builtin.zeroCells zv.cells (nc - (n + m)), h1, ?_, ?_, ?_, ?_⟩
  · rw [execOp, ho]
    simp [resolve, invoke, builtin, hx, h2]
  · have hzc := congrArg List.length (zeroCells_toList zv.cells (nc - (n + m)))
    rw [zerosC_length] at hzc
    simp at hzc
    simp only [Array.size_append, List.size_toArray, hzc, hzs]
    rw [← hol, hlo, ← hnl, hnk, ← Nat.add_mul, ← Nat.add_mul]
    congr 1
    omega
  · simp only [Array.toList_append, List.append_assoc]
    rw [← List.append_assoc, List.take_append_of_le_length (by simp; omega), List.take_of_length_le (by simp; omega)]
    exact hro.append hrn
  · rw [List.length_append, hlo, hnk, Nat.add_mul]

theorem append_sound (hR : HRel E) (hL : Sub L E) (ht : RelL E t a.tmps.toList) {ty e tyx : TypeId} {x y : Operand} {d : TypeDesc}
    (ho : o.op = .call { callee := .builtin .append, args := #[x, y], argTypes := #[ty, tyx] }) (hu : P.underlying ty = some (.slice e)) (hux : P.underlying tyx = some d)
    {s v : V} (hx : evalV t x = some s) (hy : evalV t y = some v) {eff : Eff} (h : appendV P L base e (isInt d) s v = some eff) (hfresh : ∀ b, base ≤ b → b < base + eff.new.length → E.ρ b = none) : OpSound P E a o base eff := by
  unfold appendV at h
  split at h
  · rename_i z i hz hi
    split at h
    · rename_i new m hrow0
      split at h
      · rename_i hc1
        obtain ⟨hb2, hb0, hm, hmb⟩ := hc1
        have rs := evalV_rel ht hx
        obtain ⟨zv, k, g1, g2, g3, g4⟩ := zeroV_run hz
        obtain ⟨cvs, r1, r2, hsrc⟩ : ∃ cvs, RelL E new cvs ∧ new.length = m * z.length ∧ ∀ w, w = E.w ∨ w = E.w.drew → AppSrc P tyx e (a.eval y) z.length m cvs.toArray w := by
          unfold newRowV at hrow0
          split at hrow0
          · rename_i hint
            split at hrow0
            · rename_i kd l
              split at hrow0
              · rename_i hl
                simp only [Option.some.injEq, Prod.mk.injEq] at hrow0
                obtain ⟨rfl, rfl⟩ := hrow0
                have hzl := (g2 E).length
                have hzs : zv.cells.size = z.length := by rw [hzl]; rfl
                refine ⟨(Builtin.zeroCells zv.cells l.toNat).toList, ?_, zerosV_length _ _, fun w _ => .inr ?_⟩
                · rw [zeroCells_toList]
                  exact zerosV_rel (g2 E) _
                · have rv := evalV_rel ht hy
                  generalize hcy : a.eval y = cy at rv
                  cases rv
                  cases d with
                  | int kk => exact ⟨kk, kd, zv, i, hux, by rw [Int.toNat_of_nonneg hl.1], by omega, hmb, g1, hzs, hi, by simp⟩
                  | _ => cases hint
              · cases hrow0
            · cases hrow0
          · rename_i hint
            have hd : ∀ kk, d ≠ .int kk := by
              intro kk hq
              subst hq
              exact hint rfl
            obtain ⟨cvs, r1, r2, r3, r4⟩ := rowOf_rel2 (P := P) hR hL hrow0 (evalV_rel ht hy)
            have hnl := r1.length
            have hcv : cvs.take (m * z.length) = cvs := List.take_of_length_le (by omega)
            refine ⟨cvs, r1, r2, fun w hw => .inl ⟨d, hux, hd, r3, ?_⟩⟩
            have e1 := r4 m (Nat.le_refl _) w (by rcases hw with rfl | rfl <;> exact fun _ _ => rfl)
            rwa [hcv] at e1
        have hnl := r1.length
        -- a new row
        have mk : E.ρ base = none → ∀ {n cap : Nat} {A : Option Addr} {old : List V} {oldc : List Value}, a.eval x = .slice A n cap → cap < n + m → (n + m) * i.bytes ≤ 1099511627776 → n + m ≤ 1099511627776 →
            (Builtin.firstCells z.length n (.slice A n cap)).run P E.w.drew = .ok oldc.toArray E.w.drew → RelL E old oldc → old.length = n * z.length →
            OpSound P E a o base ⟨.slB base 0 0 (n + m), [], [⟨old ++ new, z.length, 0, false⟩]⟩ := by
          intro hfresh n cap A old oldc hxx hgt hb hn hold hro hlo
          obtain ⟨nc, arr, h1, h2, h3, h4, h5⟩ := append_new hR ho hu hz hi (hsrc _ (.inr rfl)) r1 r2 hxx hgt hb hb2 hn hold hro hlo
          refine opSound_new (arr := arr) (el := e) (lo := 0) (hi := 0) hR h2 rfl rfl rfl rfl hfresh (by omega) (by rw [h5, h3]; exact Nat.mul_le_mul_right _ h1) h4 ?_
          exact .slB (e := ⟨some (E.w.heap.size, 0), z.length, 0, arr.size⟩) (by simp [updF]) (Nat.le_refl _) (fun _ => ⟨rfl, .inl ⟨_, _, rfl, rfl, h1, by simp [h3]⟩⟩)
        -- nothing is appended to nothing
        have mt : E.ρ base = none → ∀ {A : Option Addr} {old : List V}, a.eval x = .slice A 0 0 → m = 0 → old = [] → OpSound P E a o base ⟨.slB base 0 0 (0 + m), [], [⟨old ++ new, z.length, 0, false⟩]⟩ := by
          intro hfresh A old hxx hm0 hold
          subst hold
          subst hm0
          have hn0 : new = [] := by
            have : new.length = 0 := by omega
            exact List.length_eq_zero_iff.1 this
          subst hn0
          have hroom := append_room (P := P) (rt := o.type) (n := 0) (cap := 0) (A := A) hu (hsrc _ (.inl rfl)) (fun w => by rw [g4, g3]) (Nat.le_refl _)
          have hc0 : cvs = [] := List.length_eq_zero_iff.1 (by rw [← hnl]; rfl)
          rw [hc0] at hroom
          have hrun : (execOp a.eval o).run P E.w = .ok (.value (.slice A 0 0)) E.w := by
            rw [execOp, ho]
            cases A with
            | none => simp only [Nat.zero_add] at hroom; simp [resolve, invoke, builtin, hxx, hroom]
            | some ad => simp only [Nat.zero_mul, Nat.zero_add, List.take_zero] at hroom; simp [resolve, invoke, builtin, hxx, hroom, storeCells]
          obtain ⟨x1, x2⟩ := ext_upd (w' := E.w) (b := base) (blk' := ⟨[], z.length, 0, false⟩) (e' := ⟨none, z.length, 0, 0⟩) hR (fun _ _ _ => rfl) (Nat.le_refl _) (fun c o hp => by cases hp)
            (fun e he => by rw [hfresh] at he; cases he) (fun _ => ⟨rfl, rfl, rfl, rfl⟩)
          exact opSound_of_run (E' := ⟨E.w, updF E.H base ⟨[], z.length, 0, false⟩, updF E.ρ base ⟨none, z.length, 0, 0⟩, E.B, E.O⟩) (.inl hrun) rfl rfl rfl x1 x2
            (.slB (e := ⟨none, z.length, 0, 0⟩) (by simp [updF]) (Nat.le_refl _) (fun _ => ⟨rfl, .inr ⟨rfl, rfl, rfl, rfl⟩⟩)) (Below.refl _ _) (fresh_upd (Nat.le_refl 1))
        have hfc : ∀ A, (Builtin.firstCells z.length 0 (.slice A 0 0)).run P E.w.drew = .ok ([] : List Value).toArray E.w.drew := by
          intro A
          cases A with
          | none => simp [Builtin.firstCells]
          | some ad => simp [Builtin.firstCells, loadCells, loadCellsFrom]
        split at h
        · -- nil
          cases h
          generalize hcx : a.eval x = cx at rs
          cases rs
          by_cases hm0 : m = 0
          · have := mt (hfresh base (Nat.le_refl _) (by simp)) (old := []) hcx hm0 rfl
            rwa [Nat.zero_add] at this
          · have := mk (hfresh base (Nat.le_refl _) (by simp)) (n := 0) (cap := 0) (old := []) (oldc := []) hcx (by omega) (by rw [Nat.zero_add]; exact hmb) (by omega) (hfc none) .nil (by simp)
            rwa [Nat.zero_add] at this
        · rename_i fr cs n
          split at h
          · rename_i hc2
            obtain ⟨hb, hncs, hn⟩ := hc2
            generalize hcx : a.eval x = cx at rs
            split at h
            · rename_i hmn
              cases h
              cases rs with
              | slI0 _ => exact absurd rfl hmn.2
              | slI hs hf hnc ht' hr hc =>
                rename_i cvs0 cap c o'
                obtain rfl := ht' rfl
                have hm0 := hmn.1
                subst hm0
                have hroom := append_room (P := P) (rt := o.type) (n := cap) (cap := cap) (A := some ⟨c, o', none⟩) hu (hsrc _ (.inl rfl)) (fun w => by rw [g4, g3]) (by omega)
                have hc0 : cvs = [] := List.length_eq_zero_iff.1 (by rw [← hnl, r2, Nat.zero_mul])
                rw [hc0] at hroom
                refine opSound_pure hR (cv := .slice (some ⟨c, o', none⟩) cap cap) ?_ (.slI hs hf hnc ht' hr hc)
                rw [execOp, ho]
                simp only [Nat.zero_mul, Nat.add_zero, List.take_zero] at hroom
                simp [resolve, invoke, builtin, hcx, hroom, storeCells]
            · rename_i hmn
              cases h
              cases rs with
              | slI0 hcap =>
                rename_i A cap
                obtain rfl := hcap rfl
                simp only [Nat.zero_mul, List.take_zero]
                by_cases hm0 : m = 0
                · exact mt (hfresh base (Nat.le_refl _) (by simp)) (old := []) hcx hm0 rfl
                · exact mk (hfresh base (Nat.le_refl _) (by simp)) (n := 0) (cap := 0) (old := []) (oldc := []) hcx (by omega) (by rw [Nat.zero_add]; exact hmb) (by omega) (hfc A) .nil (by simp)
              | slI hs hf hnc ht' hr hc =>
                rename_i cvs0 cap c o'
                obtain rfl := ht' rfl
                by_cases hm0 : m = 0
                · obtain rfl : cap = 0 := by
                    by_cases q : cap = 0
                    · exact q
                    · exact absurd ⟨hm0, q⟩ hmn
                  exact mt (hfresh base (Nat.le_refl _) (by simp)) hcx hm0 (by simp)
                · refine mk (hfresh base (Nat.le_refl _) (by simp)) (n := cap) (cap := cap) (old := cs.take (cap * z.length)) (oldc := cvs0.take (cap * z.length)) hcx (by omega) hb hn ?_ (hr.take _) (by rw [List.length_take]; omega)
                  have := run_loadCells_at (P := P) (w := E.w.drew) (c := c) (o := o') hc (cap * z.length) (by rw [← hr.length]; omega)
                  simpa [Builtin.firstCells] using this
          · cases h
        · rename_i b off ver n
          split at h
          · rename_i blk hb
            split at h
            · rename_i hc2
              obtain ⟨hver, hfz, hk, hoff, hnb, hn, hone⟩ := hc2
              cases h
              generalize hcx : a.eval x = cx at rs
              cases rs with
              | slB he hle hpos =>
                rename_i cap A e0
                have hH := hL b blk hb
                obtain ⟨e1, he1, hl⟩ := hR.at_ b blk hH
                rw [he] at he1
                cases he1
                have hlv := hl
                obtain ⟨hlv1, hlv2, hlv3⟩ := hl
                obtain ⟨_, hq⟩ := hpos (hlv1.trans hver)
                -- the row moves
                have move : ∀ {old : List V} {oldc : List Value}, cap < n + m → (Builtin.firstCells z.length n (.slice A n cap)).run P E.w.drew = .ok oldc.toArray E.w.drew → RelL E old oldc → old.length = n * z.length → blk.cells.drop off = old →
                    OpSound P E a o base ⟨.slB b 0 (ver + 1) (n + m), [(b, ⟨blk.cells.drop off ++ new, z.length, ver + 1, false⟩)], []⟩ := by
                  intro old oldc hgt hold hro hlo hd0
                  obtain ⟨nc, arr, h1, h2, h3, h4, h5⟩ := append_new hR ho hu hz hi (hsrc _ (.inr rfl)) r1 r2 hcx hgt hnb hb2 hn hold hro hlo
                  rw [hd0]
                  have hold' : ∀ c, c < E.w.heap.size → (E.w.heap.push (.cells arr e (0, 0)))[c]? = E.w.heap[c]? := by
                    intro c hc
                    rw [Array.getElem?_push, if_neg (by omega)]
                  obtain ⟨x1, x2⟩ := ext_upd (w' := { E.w.drew with heap := E.w.heap.push (.cells arr e (0, 0)) }) (b := b) (blk' := ⟨old ++ new, z.length, ver + 1, false⟩) (e' := ⟨some (E.w.heap.size, 0), z.length, ver + 1, arr.size⟩) hR
                    (fun c hc _ => hold' c hc) (by simp) (fun c o hp => by simp only [Option.some.injEq, Prod.mk.injEq] at hp; exact .inl (by omega))
                    (fun e1 he1 => by rw [he] at he1; cases he1; exact .inr (by simp only; omega))
                    (fun hx => ⟨rfl, rfl, hR.le, arr, e, 0, 0, by simp, rfl, by rw [h5, h3, Nat.zero_add]; exact Nat.mul_le_mul_right _ h1, by omega, by simpa using h4.mono hx⟩)
                  refine opSound_of_run (E' := ⟨{ E.w.drew with heap := E.w.heap.push (.cells arr e (0, 0)) }, updF E.H b ⟨old ++ new, z.length, ver + 1, false⟩, updF E.ρ b ⟨some (E.w.heap.size, 0), z.length, ver + 1, arr.size⟩, E.B, E.O⟩)
                    (.inl h2) rfl rfl rfl x1 x2 ?_ ⟨rfl, rfl, rfl, by simp, fun c hc => hold' c (Nat.lt_of_lt_of_le hc hR.le)⟩ (fresh_upd2 he)
                  exact .slB (e := ⟨some (E.w.heap.size, 0), z.length, ver + 1, arr.size⟩) (by simp [updF]) (Nat.le_refl _) (fun _ => ⟨rfl, .inl ⟨_, _, rfl, rfl, h1, by simp [h3]⟩⟩)
                rcases hq with ⟨c, o', hp', rfl, hncap, hfit⟩ | ⟨hp', rfl, rfl, rfl⟩
                · obtain ⟨ocv, oc1, oc2⟩ := block_cells hlv hp'
                  have holen := oc1.length
                  by_cases hroomy : n + m ≤ cap
                  · -- there is room
                    have hroom := append_room (P := P) (rt := o.type) (n := n) (cap := cap) (A := some ⟨c, o' + off, none⟩) hu (hsrc _ (.inl rfl)) (fun w => by rw [g4, g3]) hroomy
                    rw [hp'] at hlv3
                    obtain ⟨q3, arr, el, lo, hi', q4, q5, q6, q7, q8⟩ := hlv3
                    have hmk : (n + m) * z.length ≤ cap * z.length := Nat.mul_le_mul_right _ hroomy
                    have hek : e0.k = z.length := hlv2.trans hk
                    rw [hek] at hfit
                    rw [Nat.add_mul] at hmk
                    obtain ⟨w', k1, k2, k3, k4, k5, k6, k7⟩ := store_run (P := P) (c := c) (o := o' + off + n * z.length) cvs 0 E.w arr q4 (by omega) (by omega) (relL_one r1 hone)
                    obtain ⟨x1, x2⟩ := ext_upd (w' := w') (b := b) (blk' := ⟨blk.cells.drop off ++ new, z.length, ver + 1, false⟩) (e' := ⟨some (c, o' + off), z.length, ver + 1, e0.asz⟩) hR
                      (fun d hd hne => k3 d (fun q => hne (o' + off) (by rw [q]))) (by omega) (fun c1 o1 hp1 => by simp only [Option.some.injEq, Prod.mk.injEq] at hp1; obtain ⟨rfl, rfl⟩ := hp1; exact .inr ⟨blk, e0, o', hH, hfz, he, hp'⟩)
                      (fun e1 he1 => by rw [he] at he1; cases he1; exact .inr (by simp only; omega))
                      (fun hx => by
                        refine ⟨rfl, rfl, q3, _, el, lo, hi', k2, by simp [setC_length, q5], by simp; omega, q7, ?_⟩
                        simp only [Nat.add_zero]
                        have hlen : (blk.cells.drop off ++ new).length = n * z.length + cvs.length := by simp; omega
                        have hw0 := splice_window arr.toList cvs (o' + off) (o' + off + n * z.length) (by omega) (by simp; omega)
                        rw [Nat.add_sub_cancel_left] at hw0
                        rw [hlen]
                        show RelL _ _ (((setC arr.toList (o' + off + n * z.length) cvs).drop (o' + off)).take (n * z.length + cvs.length))
                        rw [hw0]
                        have hq9 := (q8.drop off).mono hx
                        rw [List.drop_take, List.drop_drop, show blk.cells.length - off = n * z.length from by omega] at hq9
                        exact hq9.append (r1.mono hx))
                    refine opSound_of_run (E' := ⟨w', updF E.H b ⟨blk.cells.drop off ++ new, z.length, ver + 1, false⟩, updF E.ρ b ⟨some (c, o' + off), z.length, ver + 1, e0.asz⟩, E.B, E.O⟩)
                      (cv := .slice (some ⟨c, o' + off, none⟩) (n + m) cap) (.inl ?_) rfl rfl rfl x1 x2 ?_ ⟨k5, k6, k7, Nat.le_of_eq k4.symm, fun d hd => k3 d (by omega)⟩ (fresh_upd2 he)
                    · rw [execOp, ho]
                      simp only [Addr.add_lit] at hroom
                      simp [resolve, invoke, builtin, hcx, hroom, k1]
                    · exact .slB (e := ⟨some (c, o' + off), z.length, ver + 1, e0.asz⟩) (by simp [updF]) (Nat.le_refl _) (fun _ => ⟨rfl, .inl ⟨c, o' + off, rfl, by simp, hroomy, by simpa using hfit⟩⟩)
                  · refine move (old := blk.cells.drop off) (oldc := ocv.drop off) (by omega) ?_ (oc1.drop off) (by simp; omega) rfl
                    have hcl : ∀ (i : Nat) (v : Value), (ocv.drop off)[i]? = some v → E.w.drew.cell? ⟨c, o' + off + i, none⟩ = some v := by
                      intro i v hv
                      rw [List.getElem?_drop] at hv
                      have := oc2 _ v hv
                      rwa [← Nat.add_assoc] at this
                    have := run_loadCells_at (P := P) hcl (n * z.length) (by simp; omega)
                    rw [List.take_of_length_le (by simp; omega)] at this
                    simpa [Builtin.firstCells] using this
                · rw [hp'] at hlv3
                  have hnil := hlv3.1
                  by_cases hm0 : m = 0
                  · subst hm0
                    have hn0 : new = [] := by
                      have : new.length = 0 := by omega
                      exact List.length_eq_zero_iff.1 this
                    subst hn0
                    have hroom := append_room (P := P) (rt := o.type) (n := 0) (cap := 0) (A := A) hu (hsrc _ (.inl rfl)) (fun w => by rw [g4, g3]) (Nat.le_refl _)
                    have hc0 : cvs = [] := List.length_eq_zero_iff.1 (by rw [← hnl]; rfl)
                    rw [hc0] at hroom
                    have hrun : (execOp a.eval o).run P E.w = .ok (.value (.slice A 0 0)) E.w := by
                      rw [execOp, ho]
                      cases A with
                      | none => simp only [Nat.zero_add] at hroom; simp [resolve, invoke, builtin, hcx, hroom]
                      | some ad => simp only [Nat.zero_mul, Nat.zero_add, List.take_zero] at hroom; simp [resolve, invoke, builtin, hcx, hroom, storeCells]
                    obtain ⟨x1, x2⟩ := ext_upd (w' := E.w) (b := b) (blk' := ⟨[], z.length, ver + 1, false⟩) (e' := ⟨none, z.length, ver + 1, 0⟩) hR (fun _ _ _ => rfl) (Nat.le_refl _) (fun c o hp => by cases hp)
                      (fun e1 he1 => by rw [he] at he1; cases he1; exact .inr (by simp only; omega)) (fun _ => ⟨rfl, rfl, rfl, rfl⟩)
                    rw [hnil]
                    exact opSound_of_run (E' := ⟨E.w, updF E.H b ⟨[], z.length, ver + 1, false⟩, updF E.ρ b ⟨none, z.length, ver + 1, 0⟩, E.B, E.O⟩) (.inl hrun) rfl rfl rfl x1 x2
                      (.slB (e := ⟨none, z.length, ver + 1, 0⟩) (by simp [updF]) (Nat.le_refl _) (fun _ => ⟨rfl, .inr ⟨rfl, rfl, rfl, rfl⟩⟩)) (Below.refl _ _) (fresh_upd2 he)
                  · exact move (old := []) (oldc := []) (by omega) (hfc A) .nil (by simp) (by simp [hnil])
            · cases h
          · cases h
        · cases h
      · cases h
    · cases h
  · cases h
end
end
end Go.Proofs.Ytnnfcebnmogdmaa.VM
/- The machine of values: len, copy, clear, slicing. No conditions. -/
namespace Go.Proofs.Ytnnfcebnmogdmaa.VM
set_option linter.unusedSimpArgs false
set_option linter.unusedVariables false
open Go Go.RowKit
noncomputable section
section
variable {P : Program} {E : Env} {a : Act} {o : Oper} {base : Nat} {t : List V} {L : Heap}

/-- A slice that may be looked at. -/
theorem slB_at (hR : HRel E) (hL : Sub L E) {b off ver n : Nat} {c : Value} {blk : Blk} (hb : hget L b = some blk) (hver : blk.ver = ver) (r : Rel E (.slB b off ver n) c) :
    ∃ e A cap, E.ρ b = some e ∧ Lies E blk e ∧ E.H b = some blk ∧ c = .slice A n cap ∧
      ((∃ c' o', e.pos = some (c', o') ∧ A = some ⟨c', o' + off, none⟩ ∧ n ≤ cap ∧ o' + off + cap * e.k ≤ e.asz) ∨ (e.pos = none ∧ n = 0 ∧ off = 0 ∧ cap = 0 ∧ blk.cells = [])) := by
  cases r with
  | slB he hle hpos =>
    rename_i cap A e
    obtain ⟨e1, he1, hl⟩ := hR.at_ b blk (hL b blk hb)
    rw [he] at he1
    cases he1
    obtain ⟨_, hq⟩ := hpos (hl.1.trans hver)
    refine ⟨e, A, cap, he, hl, hL b blk hb, rfl, ?_⟩
    rcases hq with ⟨c', o', h1, h2, h3, h4⟩ | ⟨h1, h2, h3, h4⟩
    · exact .inl ⟨c', o', h1, h2, h3, h4⟩
    · have := hl.2.2
      rw [h1] at this
      exact .inr ⟨h1, h2, h3, h4, this.1⟩

theorem lenV_rel (hR : HRel E) (hL : Sub L E) {v : V} {c : Value} {n : Nat} (h : lenV L v = some n) (r : Rel E v c) : (∃ A cap, c = .slice A n cap) ∨ ∃ s, c = .string s ∧ s.size = n := by
  cases v <;> simp only [lenV] at h <;> try cases h
  · cases r; exact .inr ⟨_, rfl, rfl⟩
  · cases r; exact .inl ⟨_, _, rfl⟩
  · cases r with
    | slI0 _ => exact .inl ⟨_, _, rfl⟩
    | slI _ _ _ _ _ _ => exact .inl ⟨_, _, rfl⟩
  · cases r; exact .inl ⟨_, _, rfl⟩

theorem len_sound (hR : HRel E) (hL : Sub L E) (ht : RelL E t a.tmps.toList) {ty e : TypeId} {x : Operand} (ho : o.op = .call { callee := .builtin .len, args := #[x], argTypes := #[ty] })
    (hu : P.underlying ty = some (.slice e)) {v : V} (hx : evalV t x = some v) {n : Nat} (hn : lenV L v = some n) (hns : ∀ s, v ≠ .str s) : OpSound P E a o base (Eff.pure (.int .i64 n)) := by
  have r := evalV_rel ht hx
  rcases lenV_rel hR hL hn r with ⟨A, cap, h⟩ | ⟨s, h, _⟩
  · refine opSound_pure hR (cv := .int .i64 n) ?_ (.int _ _)
    rw [execOp, ho]
    simp [resolve, invoke, builtin, h, Builtin.len_, run_underlying hu, goInt]
  · rw [h] at r
    generalize hs : (Value.string s) = c at r
    cases r <;> first | (cases hs; exact absurd rfl (hns _)) | cases hs

theorem copy_sound (hR : HRel E) (hL : Sub L E) (ht : RelL E t a.tmps.toList) {ty e : TypeId} {ats : Array TypeId} {x y : Operand}
    (ho : o.op = .call { callee := .builtin .copy, args := #[x, y], argTypes := ats }) (h0 : ats[0]? = some ty) (hu : P.underlying ty = some (.slice e))
    {d v : V} (hx : evalV t x = some d) (hy : evalV t y = some v) {eff : Eff} (h : copyV P L e d v = some eff) : OpSound P E a o base eff := by
  unfold copyV at h
  split at h
  · rename_i g k hz
    obtain ⟨_, hsz⟩ := tySz_run hz
    split at h
    · rename_i new m n hrow hlen
      have rd := evalV_rel ht hx
      obtain ⟨cvs, r1, r2, r3, r4⟩ := rowOf_rel (P := P) hR hL hrow (evalV_rel ht hy)
      have nothing : ∀ {A : Option Addr} {n' cap : Nat}, a.eval x = .slice A n' cap → min m n' = 0 → OpSound P E a o base (Eff.pure (.int .i64 0)) := by
        intro A n' cap hxx hj
        refine opSound_pure hR (cv := .int .i64 0) ?_ (.int _ _)
        have hf := r4 0 (Nat.zero_le _)
        simp only [Nat.zero_mul, List.take_zero] at hf
        have hj' : m.min n' = 0 := hj
        rw [execOp, ho]
        cases A with
        | none => simp [resolve, invoke, builtin, hxx, Builtin.copy_, h0, run_underlying hu, r3, hsz, hj', hf, goInt]
        | some ad => simp [resolve, invoke, builtin, hxx, Builtin.copy_, h0, run_underlying hu, r3, hsz, hj', hf, goInt, storeCells]
      split at h
      · cases h
        generalize hcx : a.eval x = cx at rd
        cases rd
        exact nothing hcx (by simp)
      · split at h
        · rename_i hj
          cases h
          rcases lenV_rel hR hL hlen rd with ⟨A, cap, hc⟩ | ⟨s, hc, _⟩
          · exact nothing hc hj
          · rw [hc] at rd
            generalize hs : (Value.string s) = c at rd
            cases rd <;> cases hs
        · cases h
      · rename_i b off ver n0
        split at h
        · rename_i blk hb
          split at h
          · rename_i hc1
            obtain ⟨hver, hfz, hfit, hone⟩ := hc1
            cases h
            obtain ⟨e0, A, cap, he, hl, hH, hcx, hq⟩ := slB_at hR hL hb hver rd
            have hn : n0 = n := by simpa [lenV, hb, hver] using hlen
            subst hn
            have hjm : min m n0 ≤ m := Nat.min_le_left _ _
            have hf := r4 (min m n0) hjm
            have hnl := r1.length
            have hmk : min m n0 * k ≤ m * k := Nat.mul_le_mul_right _ hjm
            have hone' : (new.take (min m n0 * k)).all V.one = true := by
              rw [List.all_eq_true] at hone ⊢
              exact fun v hv => hone v (List.mem_of_mem_take hv)
            have hm0 : m.min n0 = min m n0 := rfl
            rcases hq with ⟨c', o', hp, rfl, hncap, _⟩ | ⟨hp, rfl, rfl, rfl, hnil⟩
            · obtain ⟨w', g1, g2, g3, g4⟩ := write_env (P := P) (off := off) hR hH hfz he hp (r1.take (min m n0 * k)) hone' (by rw [List.length_take]; omega)
              refine opSound_of_run (cv := .int .i64 (min m n0 : Nat)) (E' := ⟨w', _, E.ρ, E.B, E.O⟩) (.inl ?_) rfl rfl rfl g2 g3 (.int _ _) g4 (fun _ h _ => h)
              rw [execOp, ho]
              simp [resolve, invoke, builtin, hcx, Builtin.copy_, h0, run_underlying hu, r3, hsz, hm0, hf, goInt, g1]
            · have hx0 : applyF E.H base ⟨.int .i64 (min m 0 : Nat), [(b, { blk with cells := setCells blk.cells 0 (new.take (min m 0 * k)) })], []⟩ = E.H := by
                show updF E.H b _ = E.H
                simp only [Nat.min_zero, Nat.zero_mul, List.take_zero, setCells]
                exact updF_self hH
              refine opSound_of_run (cv := .int .i64 0) (E' := E) (.inl ?_) rfl rfl hx0.symm (Ext.refl E) hR (by simpa using Rel.int _ _) (Below.refl _ _) (fun _ h _ => h)
              simp only [Nat.min_zero, Nat.zero_mul, List.take_zero] at hf
              rw [execOp, ho]
              cases A with
              | none => simp [resolve, invoke, builtin, hcx, Builtin.copy_, h0, run_underlying hu, r3, hsz, hf, goInt]
              | some ad => simp [resolve, invoke, builtin, hcx, Builtin.copy_, h0, run_underlying hu, r3, hsz, hf, goInt, storeCells]
          · cases h
        · cases h
      · cases h
    · cases h
  · cases h

theorem clear_sound (hR : HRel E) (hL : Sub L E) (ht : RelL E t a.tmps.toList) {ty e : TypeId} {ats : Array TypeId} {x : Operand}
    (ho : o.op = .call { callee := .builtin .clear, args := #[x], argTypes := ats }) (h0 : ats[0]? = some ty) (hu : P.underlying ty = some (.slice e))
    {d : V} (hx : evalV t x = some d) {eff : Eff} (h : clearV P L e d = some eff) : OpSound P E a o base eff := by
  unfold clearV at h
  split at h
  · rename_i g k z n hz hzv hlen
    obtain ⟨zv, k', g1, g2, g3, g4⟩ := zeroV_run hzv
    have hzl := (g2 E).length
    have rd := evalV_rel ht hx
    have nothing : ∀ {A : Option Addr} {cap : Nat}, a.eval x = .slice A 0 cap → OpSound P E a o base (Eff.pure (.tup [])) := by
      intro A cap hxx
      refine opSound_pure hR (cv := .tuple #[]) ?_ undef_rel
      rw [execOp, ho]
      cases A with
      | none => simp [resolve, invoke, builtin, hxx, Builtin.clear_, h0, run_underlying hu]
      | some ad => simp [resolve, invoke, builtin, hxx, Builtin.clear_, h0, run_underlying hu]
    split at h
    · cases h
      generalize hcx : a.eval x = cx at rd
      cases rd
      exact nothing hcx
    · split at h
      · rename_i hj
        cases h
        rcases lenV_rel hR hL hlen rd with ⟨A, cap, hc⟩ | ⟨s, hc, _⟩
        · rw [hj] at hc; exact nothing hc
        · rw [hc] at rd
          generalize hs : (Value.string s) = c at rd
          cases rd <;> cases hs
      · cases h
    · rename_i b off ver n0
      split at h
      · rename_i blk hb
        split at h
        · rename_i hc1
          obtain ⟨hver, hfz, hfit, hzk, hone⟩ := hc1
          cases h
          obtain ⟨e0, A, cap, he, hl, hH, hcx, hq⟩ := slB_at hR hL hb hver rd
          have hn : n0 = n := by simpa [lenV, hb, hver] using hlen
          subst hn
          have hone' : ∀ m, (zerosV z m).all V.one = true := by
            intro m
            induction m with
            | zero => rfl
            | succ m ih => rw [zerosV, List.all_append, hone, ih]; rfl
          rcases hq with ⟨c', o', hp, rfl, hncap, _⟩ | ⟨hp, rfl, rfl, rfl, hnil⟩
          · obtain ⟨w', q1, q2, q3, q4⟩ := write_env (P := P) (off := off) hR hH hfz he hp (zerosV_rel (g2 E) n0) (hone' n0) (by rw [zerosV_length, hzk]; exact hfit)
            refine opSound_of_run (cv := .tuple #[]) (E' := ⟨w', _, E.ρ, E.B, E.O⟩) (.inl ?_) rfl rfl rfl q2 q3 undef_rel q4 (fun _ h _ => h)
            have hzc := zeroCells_toList zv.cells n0
            rw [execOp, ho]
            by_cases hn0 : n0 = 0
            · subst hn0
              simp only [zerosC] at q1
              simp [storeCells] at q1
              simp [resolve, invoke, builtin, hcx, Builtin.clear_, h0, run_underlying hu, q1]
            · simp [resolve, invoke, builtin, hcx, Builtin.clear_, h0, run_underlying hu, g1, hzc, q1]
          · have hx0 : applyF E.H base ⟨.tup [], [(b, { blk with cells := setCells blk.cells 0 (zerosV z 0) })], []⟩ = E.H := updF_self hH
            refine opSound_of_run (cv := .tuple #[]) (E' := E) (.inl ?_) rfl rfl hx0.symm (Ext.refl E) hR undef_rel (Below.refl _ _) (fun _ h _ => h)
            rw [execOp, ho]
            cases A with
            | none => simp [resolve, invoke, builtin, hcx, Builtin.clear_, h0, run_underlying hu]
            | some ad => simp [resolve, invoke, builtin, hcx, Builtin.clear_, h0, run_underlying hu]
        · cases h
      · cases h
    · cases h
  · cases h
end
end
end Go.Proofs.Ytnnfcebnmogdmaa.VM
/- The machine of values: slicing, conversions. No conditions. -/
namespace Go.Proofs.Ytnnfcebnmogdmaa.VM
set_option linter.unusedSimpArgs false
set_option linter.unusedVariables false
open Go Go.RowKit
noncomputable section
section
variable {P : Program} {E : Env} {a : Act} {o : Oper} {base : Nat} {t : List V} {L : Heap}

theorem optV_rel (ht : RelL E t a.tmps.toList) {x : Option Operand} {r : Option Int} (h : optV t x = some r) : ∃ k, x.map a.eval = r.map (Value.int k) := by
  unfold optV at h
  split at h
  · cases h; exact ⟨.i64, rfl⟩
  · rename_i y
    split at h
    · rename_i v hv
      have rv := evalV_rel ht hv
      cases v <;> simp only [intV] at h <;> try cases h
      rename_i k n
      generalize hcx : a.eval y = cx at rv
      cases rv
      exact ⟨k, by simp [hcx]⟩
    · cases h

theorem slice_run {ty e : TypeId} {A : Option Addr} {n cap k l h m : Nat} {kl kh km : IntKind} {lo hi mx : Option Int} {w : World} (hu : P.underlying ty = some (.slice e)) (hsz : ∀ w, (sizeOf e).run P w = .ok k w)
    (hlo : lo.getD 0 = (l : Int)) (hhi : hi.getD n = (h : Int)) (hmx : mx.getD cap = (m : Int)) (h1 : l ≤ h) (h2 : h ≤ m) (h3 : m ≤ cap) (h4 : mx.isSome → hi.isSome) :
    (Instr.sliceAt ty (.slice A n cap) (lo.map (Value.int kl)) (hi.map (Value.int kh)) (mx.map (Value.int km))).run P w = .ok (.slice (if m = l then A else A.map (·.add (l * k))) (h - l) (m - l)) w := by
  have hlm : l ≤ m := by omega
  have hmc : (m : Int) ≤ (cap : Int) := by omega
  have hhm : (h : Int) ≤ (m : Int) := by omega
  have hlh : (l : Int) ≤ (h : Int) := by omega
  have hhc : (h : Int) ≤ (cap : Int) := by omega
  have go : ∀ (lo' hi' mx' : Option Value), (lo' = none ∧ l = 0 ∨ ∃ k, lo' = some (.int k l)) → (hi' = none ∧ h = n ∧ mx' = none ∨ ∃ k, hi' = some (.int k h)) → (mx' = none ∧ m = cap ∨ ∃ k, mx' = some (.int k m)) →
      (Instr.sliceAt ty (.slice A n cap) lo' hi' mx').run P w = .ok (.slice (if m = l then A else A.map (·.add (l * k))) (h - l) (m - l)) w := by
    rintro lo' hi' mx' (⟨rfl, hl0⟩ | ⟨k1, rfl⟩) (⟨rfl, hh0, hm0⟩ | ⟨k2, rfl⟩) (⟨rfl, hc0⟩ | ⟨k3, rfl⟩)
    all_goals (try (cases hm0))
    all_goals (try subst hc0)
    all_goals (try subst hh0)
    all_goals (try subst hl0)
    all_goals simp [Instr.sliceAt, Instr.slice, run_underlying hu, Instr.sliceBounds, Instr.sliceBound, asIntOf, hsz, h1, h2, h3, hlm, hhc, hlh]
    all_goals (intro hbad; omega)
  refine go _ _ _ ?_ ?_ ?_
  · cases lo with
    | none => exact .inl ⟨rfl, by simp at hlo; omega⟩
    | some v => simp at hlo; exact .inr ⟨kl, by rw [← hlo]; rfl⟩
  · cases hi with
    | none => exact .inl ⟨rfl, by simp at hhi; omega, by cases mx with | none => rfl | some v => simp at h4⟩
    | some v => simp at hhi; exact .inr ⟨kh, by rw [← hhi]; rfl⟩
  · cases mx with
    | none => exact .inl ⟨rfl, by simp at hmx; omega⟩
    | some v => simp at hmx; exact .inr ⟨km, by rw [← hmx]; rfl⟩

theorem cut_sound (hR : HRel E) (hL : Sub L E) (ht : RelL E t a.tmps.toList) {ty e : TypeId} {x : Operand} {lo hi mx : Option Operand} (ho : o.op = .slice ty x lo hi mx)
    (hu : P.underlying ty = some (.slice e)) {g : Bool} {k : Nat} (hz : tySz P e = some (g, k)) {s v : V} (hx : evalV t x = some s) {l h m : Option Int} (hl : optV t lo = some l) (hh : optV t hi = some h) (hm : optV t mx = some m)
    (hv : cutV L k s l h m = some v) : OpSound P E a o base (Eff.pure v) := by
  obtain ⟨_, hsz⟩ := tySz_run hz
  obtain ⟨kl, el⟩ := optV_rel ht hl
  obtain ⟨kh, eh⟩ := optV_rel ht hh
  obtain ⟨km, em⟩ := optV_rel ht hm
  have rs := evalV_rel ht hx
  have run : ∀ {A : Option Addr} {n cap l' h' m' : Nat}, a.eval x = .slice A n cap → l.getD 0 = (l' : Int) → h.getD n = (h' : Int) → m.getD cap = (m' : Int) → l' ≤ h' → h' ≤ m' → m' ≤ cap → (m.isSome → h.isSome) →
      (execOp a.eval o).run P E.w = .ok (.value (.slice (if m' = l' then A else A.map (·.add (l' * k))) (h' - l') (m' - l'))) E.w := by
    intro A n cap l' h' m' hxx h1 h2 h3 h4 h5 h6 h7
    have := slice_run (P := P) (A := A) (w := E.w) (kl := kl) (kh := kh) (km := km) hu hsz h1 h2 h3 h4 h5 h6 h7
    rw [execOp, ho]
    simp [hxx, el, eh, em, this]
  unfold cutV at hv
  simp only at hv
  split at hv
  · cases hv
  · rename_i hl0
    split at hv
    · -- nil
      split at hv
      · rename_i hc
        cases hv
        generalize hcx : a.eval x = cx at rs
        cases rs
        obtain ⟨c1, c2, c3, c4⟩ := hc
        have := run (l' := 0) (h' := 0) (m' := 0) hcx (by omega) (by simpa using c2) (by simpa using c3) (by omega) (by omega) (by omega) c4
        exact opSound_pure hR (by simpa using this) .nilSl
      · cases hv
    · -- not written any more
      rename_i fr cs n tight
      split at hv
      · rename_i hc
        obtain ⟨c1, c2, c3, c4, c5, c6⟩ := hc
        generalize hcx : a.eval x = cx at rs
        have hmm : ∀ {cap : Nat}, n ≤ cap → ∃ m' : Nat, m.getD (cap : Int) = (m' : Int) ∧ (h.getD n).toNat ≤ m' ∧ m' ≤ cap ∧ (∀ mv, m = some mv → m' = (m.getD n).toNat) ∧ (m = none → m' = cap) := by
          intro cap hcap
          cases m with
          | none => exact ⟨cap, rfl, (by simp at c4; omega), Nat.le_refl _, (fun _ h => nomatch h), fun _ => rfl⟩
          | some mv => simp at c2 c4 c5; exact ⟨mv.toNat, (by simp; omega), (by omega), (by omega), (fun _ _ => rfl), (fun h => nomatch h)⟩
        have hnc : ∀ {n' cap : Nat} {A : Option Addr}, Rel E (.slI fr cs n tight) (.slice A n' cap) → n' = n ∧ n ≤ cap ∧ (tight = true → cap = n) := by
          intro n' cap A r
          cases r with
          | slI0 q => exact ⟨rfl, Nat.zero_le _, q⟩
          | slI _ _ h1 h2 _ _ => exact ⟨rfl, h1, h2⟩
        obtain ⟨A, n', cap, rfl⟩ : ∃ A n' cap, cx = .slice A n' cap := by cases rs <;> exact ⟨_, _, _, rfl⟩
        obtain ⟨rfl, hcap, htt⟩ := hnc rs
        obtain ⟨m', m1, m2, m3, m4, m5⟩ := hmm hcap
        have hrun := run (l' := (l.getD 0).toNat) (h' := (h.getD n').toNat) (m' := m') hcx (by omega) (by omega) m1 c3 m2 m3 c6
        have htight : (match m with | some _ => decide ((m.getD (n' : Int)).toNat = (h.getD n').toNat) | none => tight && decide ((h.getD (n' : Int)).toNat = n')) = true → m' - (l.getD 0).toNat = (h.getD n').toNat - (l.getD 0).toNat := by
          cases m with
          | none =>
            intro q
            simp only [Bool.and_eq_true, decide_eq_true_eq] at q
            have := htt q.1
            have := m5 rfl
            omega
          | some mv =>
            intro q
            simp only [decide_eq_true_eq] at q
            have := m4 mv rfl
            omega
        split at hv
        · -- from the first on
          rename_i hl1
          cases hv
          rw [hl1] at hrun htight
          simp only [Nat.zero_mul, Nat.sub_zero] at hrun htight
          have hA : (if m' = 0 then A else A.map (·.add 0)) = A := by
            split
            · rfl
            · cases A <;> simp [Addr.add_zero']
          rw [hA] at hrun
          refine opSound_pure hR hrun ?_
          cases rs with
          | slI0 q =>
            have hh0 : (h.getD ((0 : Nat) : Int)).toNat = 0 := by omega
            generalize (h.getD ((0 : Nat) : Int)).toNat = hh at *
            subst hh0
            exact .slI0 htight
          | slI hs hf hn ht' hr hc => exact .slI hs hf m2 (fun q2 => htight q2) hr hc
        · rename_i hl1
          split at hv
          · rename_i hhl
            cases hv
            have : (h.getD (n' : Int)).toNat - (l.getD 0).toNat = 0 := by omega
            rw [this] at hrun htight
            exact opSound_pure hR hrun (.slI0 htight)
          · rename_i hhl
            cases hv
            have hml : ¬ (m' = (l.getD 0).toNat) := by omega
            rw [if_neg hml] at hrun
            cases rs with
            | slI0 q => omega
            | slI hs hf hn ht' hr hc =>
              rename_i cvs c o'
              simp only [Option.map_some, Addr.add_lit] at hrun
              refine opSound_pure hR hrun (.slI hs hf (by omega) htight (hr.drop _) fun i v hv => ?_)
              rw [List.getElem?_drop] at hv
              have := hc _ v hv
              rwa [← Nat.add_assoc] at this
      · cases hv
    · rename_i b off ver n
      split at hv
      · rename_i blk hb
        split at hv
        · rename_i hc
          obtain ⟨hver, hbk, c1, c2, c3, c4, c5, c6⟩ := hc
          obtain ⟨e0, A, cap, he, hl', hH, hcx, hq⟩ := slB_at hR hL hb hver rs
          have hek : e0.k = k := hl'.2.1.trans hbk
          have hcap : n ≤ cap := by rcases hq with ⟨_, _, _, _, q, _⟩ | ⟨_, q, _⟩ <;> omega
          have hmm : ∃ m' : Nat, m.getD (cap : Int) = (m' : Int) ∧ (h.getD n).toNat ≤ m' ∧ m' ≤ cap ∧ (∀ mv, m = some mv → m' = (m.getD n).toNat) ∧ (m = none → m' = cap) := by
            clear hq
            cases m with
            | none => exact ⟨cap, rfl, (by simp at c4; omega), Nat.le_refl _, (fun _ h => nomatch h), fun _ => rfl⟩
            | some mv => simp at c2 c4 c5; exact ⟨mv.toNat, (by simp; omega), (by omega), (by omega), (fun _ _ => rfl), (fun h => nomatch h)⟩
          obtain ⟨m', m1, m2, m3, m4, m5⟩ := hmm
          have hrun := run (l' := (l.getD 0).toNat) (h' := (h.getD n).toNat) (m' := m') hcx (by clear hq; omega) (by clear hq; omega) m1 c3 m2 m3 c6
          split at hv
          · rename_i hhl
            cases hv
            have : (h.getD (n : Int)).toNat - (l.getD 0).toNat = 0 := by clear hq; omega
            rw [this] at hrun
            refine opSound_pure hR hrun (.slI0 fun q => ?_)
            cases m with
            | none => simp at q
            | some mv => simp only [Option.isSome_some, Bool.true_and, decide_eq_true_eq] at q; have := m4 mv rfl; clear hq; omega
          · rename_i hhl
            cases hv
            refine opSound_pure hR hrun (.slB he (Nat.le_of_eq (hl'.1.trans hver).symm) fun _ => ⟨rfl, ?_⟩)
            rcases hq with ⟨c', o', hp, rfl, q1, q2⟩ | ⟨hp, rfl, rfl, rfl, hnil⟩
            · refine .inl ⟨c', o', hp, ?_, by omega, ?_⟩
              · split
                · rename_i hml
                  have h0 : (l.getD 0).toNat = 0 := by
                    by_cases q : (l.getD 0).toNat = 0
                    · exact q
                    · exact absurd ⟨by omega, .inl q⟩ hhl
                  rw [h0]
                  simp
                · simp [Addr.add_lit, Nat.add_assoc]
              · rw [hek] at q2 ⊢
                have h3 : (m' - (l.getD 0).toNat) * k + (l.getD 0).toNat * k ≤ cap * k := by
                  rw [← Nat.add_mul]
                  exact Nat.mul_le_mul_right _ (by omega)
                omega
            · have hl0' : (l.getD 0).toNat = 0 := by omega
              refine .inr ⟨hp, by omega, by rw [hl0']; simp, by omega⟩
        · cases hv
      · cases hv
    · cases hv
end
end
end Go.Proofs.Ytnnfcebnmogdmaa.VM
/- The machine of values: conversions, parts. No conditions. -/
namespace Go.Proofs.Ytnnfcebnmogdmaa.VM
set_option linter.unusedSimpArgs false
set_option linter.unusedVariables false
open Go Go.RowKit
noncomputable section

def bytesN : List V → Option (List Int)
  | [] => some []
  | .int .u8 n :: r => (bytesN r).map (n :: ·)
  | _ :: _ => none
section
variable {P : Program} {E : Env} {a : Act} {o : Oper} {base : Nat} {t : List V} {L : Heap}

theorem bytesN_rel : ∀ {cs : List V} {ns : List Int} {cvs : List Value}, bytesN cs = some ns → RelL E cs cvs → cvs = ns.map (Value.int .u8)
  | _, ns, _, h, .nil => by cases h; rfl
  | v :: cs, ns, c :: cvs, h, .cons r s => by
    cases r <;> try (simp only [bytesN] at h; cases h)
    rename_i k n
    cases k <;> simp only [bytesN] at h <;> try cases h
    cases hb : bytesN cs with
    | none => simp [hb] at h
    | some ms =>
      simp [hb] at h
      subst h
      rw [bytesN_rel hb s]
      rfl

theorem toStr_sound (hR : HRel E) (hL : Sub L E) (ht : RelL E t a.tmps.toList) {src dst e : TypeId} {x : Operand} (ho : o.op = .convert src dst x) (hs : P.underlying src = some (.slice e)) (he : P.underlying e = some (.int .u8))
    (hd : P.underlying dst = some .string) {v : V} (hx : evalV t x = some v) (hns : ∀ s, v ≠ .str s) {cs : List V} {n : Nat} (hrow : rowOf L 1 v = some (cs, n)) {ns : List Int} (hb : bytesN cs = some ns) :
    OpSound P E a o base (Eff.pure (.str (strOfNums ns))) := by
  have r := evalV_rel ht hx
  obtain ⟨cvs, r1, r2, r3, r4⟩ := rowOf_rel (P := P) hR hL hrow r
  have hcv := bytesN_rel hb r1
  have hl4 := r4 n (Nat.le_refl _)
  have hnl := r1.length
  rw [List.take_of_length_le (by omega), hcv] at hl4
  have hlen : ns.length = n := by
    rw [hcv] at hnl
    simp at hnl
    omega
  have key : ∀ {A : Option Addr} {n' cap : Nat}, a.eval x = .slice A n' cap → OpSound P E a o base (Eff.pure (.str (strOfNums ns))) := by
    intro A n' cap hxx
    have hn' : n' = n := by
      have := r3 E.w
      rw [hxx] at this
      simpa [Builtin.lenOf] using this
    subst hn'
    refine opSound_pure hR (cv := .string (strOfNums ns)) ?_ (.str _)
    rw [execOp, ho]
    rw [hxx] at hl4
    cases A with
    | none =>
      simp only [Builtin.firstCells, Sem.run_pure, Result.ok.injEq, and_true] at hl4
      have h0 : ns = [] := by
        have := congrArg Array.size hl4
        simp at this
        exact List.length_eq_zero_iff.1 this.symm
      subst h0
      simp [hxx, run_convert_bytes_nil E.w src e hs he n' cap dst hd]
      rfl
    | some ad =>
      simp only [Builtin.firstCells, Nat.mul_one] at hl4
      have := run_bytesToString E.w ad n' cap ns hl4
      rw [foldl_push_bytes] at this
      simp [hxx, run_convert_bytes_string E.w src dst e (some ad) n' cap hs he hd, this]
      simp [strOfNums, ByteArray.empty, ByteArray.emptyWithCapacity]
  generalize hcx : a.eval x = cx at r
  cases r <;> simp only [rowOf] at hrow <;> first | exact key hcx | (cases hrow; done) | skip
  exact absurd rfl (hns _)


theorem ofStr_sound (hR : HRel E) (ht : RelL E t a.tmps.toList) {src dst e : TypeId} {x : Operand} (ho : o.op = .convert src dst x) (hs : P.underlying src = some .string) (he : P.underlying e = some (.int .u8))
    (hd : P.underlying dst = some (.slice e)) {s : ByteArray} (hx : evalV t x = some (.str s)) (hfresh : E.ρ base = none) :
    OpSound P E a o base ⟨.slB base 0 0 s.size, [], [⟨s.data.toList.map (fun b => V.int .u8 b.toNat), 1, 0, false⟩]⟩ := by
  have r := evalV_rel ht hx
  generalize hcx : a.eval x = cx at r
  cases r
  have hrun := run_bytes_of_string E.w src dst e s hs hd he
  have hcap : s.size ≤ grownCap E.w s.size 0 e := by simp [grownCap, Question.cut]
  generalize hg : grownCap E.w s.size 0 e = cap at hrun hcap
  have hbr : (bytesRow s cap).toList = s.data.toList.map (fun b => Value.int .u8 b.toNat) ++ List.replicate (cap - s.size) (.int .u8 0) := by simp [bytesRow]
  have hsz : (bytesRow s cap).size = cap := by
    have := congrArg List.length hbr
    have hss : s.data.toList.length = s.size := rfl
    simp only [List.length_append, List.length_map, List.length_replicate, Array.length_toList, hss] at this
    omega
  have hss : (s.data.toList.map (fun b => V.int .u8 b.toNat)).length = s.size := by rw [List.length_map]; rfl
  have hss' : (s.data.toList.map (fun b => Value.int .u8 b.toNat)).length = s.size := by rw [List.length_map]; rfl
  refine opSound_new (arr := bytesRow s cap) (el := e) (lo := (bytesRow s cap).size) (hi := (bytesRow s cap).size + 1) (cv := .slice (some ⟨E.w.heap.size, 0, none⟩) s.size cap) hR (w' := E.w.drew.alloc (.cells (bytesRow s cap) e ((bytesRow s cap).size, (bytesRow s cap).size + 1))) ?_ rfl rfl rfl rfl hfresh (.inr (Nat.le_refl _)) (by rw [hss, hsz]; exact hcap) ?_ ?_
  · rw [execOp, ho]
    simp [hcx, hrun]
  · rw [hbr, hss, List.take_left' hss']
    refine RelL.of_get (by simp) fun i p q hp hq => ?_
    simp only [List.getElem?_map] at hp hq
    cases hb : s.data.toList[i]? with
    | none => simp [hb] at hp
    | some b => simp [hb] at hp hq; subst hp; subst hq; exact .int _ _
  · refine .slB (e := ⟨some (E.w.heap.size, 0), 1, 0, (bytesRow s cap).size⟩) (by simp [updF]) (Nat.le_refl _) (fun _ => ⟨rfl, .inl ⟨_, _, rfl, rfl, hcap, by simp [hsz]⟩⟩)

/-- A part of a value. -/
theorem part_rel {ty : TypeId} {cs : List V} {cvs : List Value} {off : Nat} {v : V} (h : partV P ty cs off = some v) (r : RelL E cs cvs) :
    ∃ c, (∀ w, (part ty cvs.toArray off).run P w = .ok c w) ∧ Rel E v c := by
  unfold partV at h
  split at h
  · rename_i n hz
    obtain ⟨h1, h2⟩ := tySz_run hz
    cases h
    refine ⟨.agg ((cvs.drop off).take n).toArray, fun w => ?_, .agg ((r.drop off).take n)⟩
    simp only [part, Sem.run_bind, h1, h2, Result.andThen_ok, if_true, Sem.run_pure]
    congr 2
    apply Array.ext'
    simp [List.extract_eq_take_drop]
  · rename_i n hz
    obtain ⟨h1, h2⟩ := tySz_run hz
    obtain ⟨y, g1, g2⟩ := r.get off v h
    refine ⟨y, fun w => ?_, g2⟩
    have : cvs.toArray[off]? = some y := by simpa using g1
    simp only [part, Sem.run_bind, h1, Result.andThen_ok, Bool.false_eq_true, if_false, this, Sem.run_pure]
  · cases h

theorem field_sound (hR : HRel E) (ht : RelL E t a.tmps.toList) {s : TypeId} {x : Operand} {f : Nat} (ho : o.op = .field s x f) {fs : Array Field} {fl : Field} (hu : P.underlying s = some (.struct fs)) (hf : fs[f]? = some fl)
    {cs : List V} (hx : evalV t x = some (.agg cs)) {v : V} (hv : partV P fl.type cs fl.offset = some v) : OpSound P E a o base (Eff.pure v) := by
  have r := evalV_rel ht hx
  generalize hcx : a.eval x = cx at r
  cases r with
  | agg s =>
    obtain ⟨c, h1, h2⟩ := part_rel hv s
    refine opSound_pure hR (cv := c) ?_ h2
    rw [execOp, ho]
    simp [hcx, Instr.field, run_underlying hu, hf, asAgg, h1]

theorem index_sound (hR : HRel E) (ht : RelL E t a.tmps.toList) {s e : TypeId} {n : Nat} {x y : Operand} (ho : o.op = .index s x y) (hu : P.underlying s = some (.array n e)) {g : Bool} {k : Nat} (hz : tySz P e = some (g, k))
    {cs : List V} (hx : evalV t x = some (.agg cs)) {kk : IntKind} {i : Int} (hy : evalV t y = some (.int kk i)) (h0 : 0 ≤ i) (h1 : i < n) {v : V} (hv : partV P e cs (i.toNat * k) = some v) : OpSound P E a o base (Eff.pure v) := by
  obtain ⟨_, hsz⟩ := tySz_run hz
  have r := evalV_rel ht hx
  have ry := evalV_rel ht hy
  generalize hcx : a.eval x = cx at r
  generalize hcy : a.eval y = cy at ry
  cases ry
  cases r with
  | agg s =>
    obtain ⟨c, g1, g2⟩ := part_rel hv s
    refine opSound_pure hR (cv := c) ?_ g2
    rw [execOp, ho]
    simp [hcx, hcy, Instr.index, asIntOf, run_underlying hu, h0, h1, hsz, g1]

/-- The value of a struct or array by its parts. -/
def buildV (P : Program) (t : List V) (ty : TypeId) (parts : Array (Nat × Operand)) : Option V :=
  match zeroV P ty, evalParts t parts.toList, P.underlying ty with
  | some z, some vs, some (.struct fields) =>
    match fields.toList.mapM (fun f => (P.info? f.type).map fun i => (f.offset, i.size)) with
    | some places => (fillV (places.toArray[·]?) z vs).map .agg
    | none => none
  | some z, some vs, some (.array _ e) =>
    match P.info? e with
    | some i => (fillV (fun j => some (j * i.size, i.size)) z vs).map .agg
    | none => none
  | _, _, _ => none
theorem build_sound (hR : HRel E) (ht : RelL E t a.tmps.toList) {ty : TypeId} {parts : Array (Nat × Operand)} (ho : o.op = .build ty parts) {v : V} (h : buildV P t ty parts = some v) : OpSound P E a o base (Eff.pure v) := by
  unfold buildV at h
  have zeroInfo : ∀ {z : List V}, zeroV P ty = some z → ∃ it zv, P.info? ty = some it ∧ it.zero = some zv ∧ RelL E z zv.cells.toList := by
    intro z hz
    obtain ⟨zv', n, g1, g2, _⟩ := zeroV_run hz
    unfold zeroV at hz
    split at hz
    · rename_i it hit
      split at hz
      · rename_i zv hzv
        refine ⟨it, zv, hit, hzv, ?_⟩
        have : zv' = zv := by
          have := g1 E.w
          simp [zeroValue, typeInfo, hit, hzv] at this
          exact this.symm
        subst this
        exact g2 E
      · cases hz
    · cases hz
  split at h
  · rename_i z vs fields hz hvs hu
    obtain ⟨it, zv, hit, hzv, hr⟩ := zeroInfo hz
    split at h
    · rename_i places hp
      cases hf : fillV (places.toArray[·]?) z vs with
      | none => rw [hf] at h; cases h
      | some out =>
        rw [hf] at h
        simp only [Option.map_some, Option.some.injEq] at h
        subst h
        obtain ⟨arr, k1, k2⟩ := fill_rel (evalParts_rel ht hvs) hr hf
        have hb : P.built ty (parts.map fun (i, x) => (i, a.eval x)).toList = some arr := by
          simp only [Program.built, hit, hu, hzv, hp]
          have hpl : (parts.map fun (i, x) => (i, a.eval x)).toList = parts.toList.map fun (i, x) => (i, a.eval x) := by simp
          rw [hpl]
          exact k1
        refine opSound_pure hR (cv := .agg arr) ?_ (by have := Rel.agg k2; simpa using this)
        rw [execOp, ho]
        have := run_build (P := P) E.w ty (parts.map fun (i, x) => (i, a.eval x)) arr hb
        simp only [Sem.run_bind, this, Result.andThen_ok, Sem.run_pure]
    · cases h
  · rename_i z vs n e hz hvs hu
    obtain ⟨it, zv, hit, hzv, hr⟩ := zeroInfo hz
    split at h
    · rename_i i hi
      cases hf : fillV (fun j => some (j * i.size, i.size)) z vs with
      | none => rw [hf] at h; cases h
      | some out =>
        rw [hf] at h
        simp only [Option.map_some, Option.some.injEq] at h
        subst h
        obtain ⟨arr, k1, k2⟩ := fill_rel (evalParts_rel ht hvs) hr hf
        have hb : P.built ty (parts.map fun (i, x) => (i, a.eval x)).toList = some arr := by
          simp only [Program.built, hit, hu, hzv, hi]
          have hpl : (parts.map fun (i, x) => (i, a.eval x)).toList = parts.toList.map fun (i, x) => (i, a.eval x) := by simp
          rw [hpl]
          exact k1
        refine opSound_pure hR (cv := .agg arr) ?_ (by have := Rel.agg k2; simpa using this)
        rw [execOp, ho]
        have := run_build (P := P) E.w ty (parts.map fun (i, x) => (i, a.eval x)) arr hb
        simp only [Sem.run_bind, this, Result.andThen_ok, Sem.run_pure]
    · cases h
  · cases h
end
end
end Go.Proofs.Ytnnfcebnmogdmaa.VM
