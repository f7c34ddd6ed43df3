/- Values with labels: what is known of a value ahead of a run. No conditions. -/
import Derived.Test.YtnnfcebnmogdmaaV2
import Derived.Laws.Strings
/- Values with labels: what is known of a value ahead of a run. No conditions. -/
namespace Go.Proofs.Ytnnfcebnmogdmaa.VM
set_option linter.unusedSimpArgs false
set_option linter.unusedVariables false
open Go Go.RowKit
noncomputable section

/-- A whole number that is written out, or one that has a name. -/
inductive SI where | lit (n : Int) | sym (n : Int)
def SI.val : SI → Int | .lit n => n | .sym n => n
inductive SB where | lit (b : Bool) | sym (p : Prop)
def SB.holds : SB → Prop | .lit b => b = true | .sym p => p
inductive SN where | lit (n : Nat) | sym (n : Nat)
def SN.val : SN → Nat | .lit n => n | .sym n => n

mutual
/-- A value with labels. -/
inductive SV : Type 1 where
  | any
  | int (k : IntKind) (n : SI)
  | bool (b : SB)
  | str (s : ByteArray)
  | strS (l : List Int)
  | agg (cs : List SV)
  | tup (vs : List SV)
  | iface (t : TypeId) (v : SV)
  | nilIface
  | func (fn : Fn) (first captured : List SV)
  | nilFunc
  | nilPtr
  | ptrI (fr ex : Bool) (cs : SC)
  | ptrB (b : Nat) (e : SN) (k f ver : Nat)
  | nilSl
  | slI (fr : Bool) (cs : SC) (n : SN) (tight : Bool)
  | slB (b : Nat) (e : SN) (k ver : Nat) (n : SN)
/-- Cells: written out, or those of the things of a list. -/
inductive SC : Type 1 where
  | lit (l : List SV)
  | rows {α : Type} (e : α → List SV) (k d : Nat) (flat : Bool) (xs : List α)
end
def SC.list : SC → List SV
  | .lit l => l
  | .rows e _ _ _ xs => xs.flatMap e

structure SBlk where
  cells : SC
  k : Nat
  ver : Nat
  fz : Bool
  lz : Bool

abbrev SHeap := List (Nat × SBlk)
structure SEff where
  v : SV
  wr : List (Nat × SBlk)
  new : List SBlk

/-- A value of one cell that leads nowhere. -/
def scalar : SV → Prop
  | .int .. => True
  | .bool _ => True
  | _ => False
/-- A value that leads to no block of the call's own, of so many layers; nothing in it is said to be new. -/
def imm : Nat → SV → Prop
  | 0, _ => False
  | n + 1, v => match v with
    | .int .. | .bool _ | .str _ | .strS _ | .nilIface | .nilFunc | .nilPtr | .nilSl => True
    | .agg cs => ∀ c ∈ cs, imm n c
    | .tup cs => ∀ c ∈ cs, imm n c
    | .iface _ v => imm n v
    | .func _ f c => (∀ v ∈ f, imm n v) ∧ ∀ v ∈ c, imm n v
    | .slI fr cs _ _ => fr = false ∧ match cs with
      | .lit l => ∀ c ∈ l, imm n c
      | .rows _ _ d _ _ => d ≤ n
    | .ptrI fr ex cs => fr = false ∧ ex = true ∧ match cs with
      | .lit l => ∀ c ∈ l, imm n c
      | .rows _ _ d _ _ => d ≤ n
    | _ => False
def SV.one : SV → Bool
  | .agg _ | .tup _ | .any => false
  | _ => true
/-- What may be the thing of a list. -/
def ROK {α : Type} (e : α → List SV) (k d : Nat) (flat : Bool) : Prop :=
  ∀ x, (e x).length = k ∧ (∀ v ∈ e x, imm d v ∧ SV.one v = true) ∧ (flat = true → ∀ v ∈ e x, scalar v)
def COK : SC → Prop
  | .lit _ => True
  | .rows e k d flat _ => ROK e k d flat

/-- A block that has a label: the label's version, the block and its version; none: it is a nil slice yet. -/
structure BE where
  sv : Nat
  act : Option (Nat × Nat)

mutual
inductive RV (ε : Nat → Option BE) : SV → V → Prop
  | any (v : V) : RV ε .any v
  | int (k : IntKind) (n : SI) (m : Int) : m = n.val → RV ε (.int k n) (.int k m)
  | bool (b : SB) (c : Bool) : (c = true ↔ b.holds) → RV ε (.bool b) (.bool c)
  | str (s : ByteArray) : RV ε (.str s) (.str s)
  | strS (l : List Int) : RV ε (.strS l) (.str (strOfNums l))
  | agg {cs : List SV} {cs' : List V} : RL ε cs cs' → RV ε (.agg cs) (.agg cs')
  | tup {cs : List SV} {cs' : List V} : RL ε cs cs' → RV ε (.tup cs) (.tup cs')
  | iface (t : TypeId) {v : SV} {v' : V} : RV ε v v' → RV ε (.iface t v) (.iface t v')
  | nilIface : RV ε .nilIface .nilIface
  | func (fn : Fn) {f c : List SV} {f' c' : List V} : RL ε f f' → RL ε c c' → RV ε (.func fn f c) (.func fn f' c')
  | nilFunc : RV ε .nilFunc .nilFunc
  | nilPtr : RV ε .nilPtr .nilPtr
  | ptrI {fr fr' ex : Bool} {cs : SC} {cs' rest : List V} : (fr = true → fr' = true) → RL ε cs.list cs' → COK cs → (ex = true → rest = []) → RV ε (.ptrI fr ex cs) (.ptrI fr' (cs' ++ rest))
  | ptrB {b k f ver : Nat} {o : SN} {v : V} {e : BE} : ε b = some e → ver ≤ e.sv →
      (e.sv = ver → ∃ b' v', e.act = some (b', v') ∧ v = .ptrB b' (o.val * k + f) v') → v.one = true → RV ε (.ptrB b o k f ver) v
  | nilSl : RV ε .nilSl .nilSl
  | slI {fr fr' tight tight' : Bool} {cs : SC} {cs' : List V} {n : SN} {m : Nat} : (fr = true → fr' = true) → (tight = true → tight' = true) → m = n.val → RL ε cs.list cs' → COK cs → RV ε (.slI fr cs n tight) (.slI fr' cs' m tight')
  | slIn {fr tight : Bool} {cs : SC} {n : SN} : n.val = 0 → COK cs → RV ε (.slI fr cs n tight) .nilSl
  | slI0 {fr fr' tight tight' : Bool} {cs : SC} {n : SN} : (fr = true → fr' = true) → (tight = true → tight' = true) → n.val = 0 → COK cs → RV ε (.slI fr cs n tight) (.slI fr' [] 0 tight')
  | slB {b k ver : Nat} {o n : SN} {v : V} {e : BE} : ε b = some e → ver ≤ e.sv →
      (e.sv = ver → (∃ b' v', e.act = some (b', v') ∧ v = .slB b' (o.val * k) v' n.val) ∨ (e.act = none ∧ v = .nilSl ∧ n.val = 0 ∧ o.val = 0)) → v.one = true → RV ε (.slB b o k ver n) v
inductive RL (ε : Nat → Option BE) : List SV → List V → Prop
  | nil : RL ε [] []
  | cons {v : SV} {vs : List SV} {c : V} {cs : List V} : RV ε v c → RL ε vs cs → RL ε (v :: vs) (c :: cs)
end

/-- Labels that go on. -/
def EX (ε ε' : Nat → Option BE) : Prop := ∀ b e, ε b = some e → ∃ e', ε' b = some e' ∧ (e' = e ∨ e.sv < e'.sv)
theorem EX.refl (ε : Nat → Option BE) : EX ε ε := fun b e h => ⟨e, h, .inl rfl⟩
theorem EX.trans {ε ε' ε'' : Nat → Option BE} (h : EX ε ε') (k : EX ε' ε'') : EX ε ε'' := fun b e he => by
  obtain ⟨e', h1, h2⟩ := h b e he
  obtain ⟨e'', h3, h4⟩ := k b e' h1
  refine ⟨e'', h3, ?_⟩
  rcases h2 with rfl | h2
  · exact h4
  · rcases h4 with rfl | h4
    · exact .inr h2
    · exact .inr (Nat.lt_trans h2 h4)
mutual
theorem RV.mono {ε ε' : Nat → Option BE} (h : EX ε ε') : ∀ {v : SV} {c : V}, RV ε v c → RV ε' v c
  | _, _, .any v => .any v
  | _, _, .int k n m q => .int k n m q
  | _, _, .bool b c q => .bool b c q
  | _, _, .str s => .str s
  | _, _, .strS l => .strS l
  | _, _, .agg r => .agg (RL.mono h r)
  | _, _, .tup r => .tup (RL.mono h r)
  | _, _, .iface t r => .iface t (RV.mono h r)
  | _, _, .nilIface => .nilIface
  | _, _, .func fn r s => .func fn (RL.mono h r) (RL.mono h s)
  | _, _, .nilFunc => .nilFunc
  | _, _, .nilPtr => .nilPtr
  | _, _, .ptrI hf r hc hx => .ptrI hf (RL.mono h r) hc hx
  | _, _, .ptrB (e := e) he hv hp ho => by
    obtain ⟨e', h1, h2⟩ := h _ _ he
    rcases h2 with rfl | h2
    · exact .ptrB h1 hv hp ho
    · exact .ptrB h1 (by omega) (fun q => by omega) ho
  | _, _, .nilSl => .nilSl
  | _, _, .slI hf ht hn r hc => .slI hf ht hn (RL.mono h r) hc
  | _, _, .slIn hn hc => .slIn hn hc
  | _, _, .slI0 hf ht hn hc => .slI0 hf ht hn hc
  | _, _, .slB (e := e) he hv hp ho => by
    obtain ⟨e', h1, h2⟩ := h _ _ he
    rcases h2 with rfl | h2
    · exact .slB h1 hv hp ho
    · exact .slB h1 (by omega) (fun q => by omega) ho
theorem RL.mono {ε ε' : Nat → Option BE} (h : EX ε ε') : ∀ {v : List SV} {c : List V}, RL ε v c → RL ε' v c
  | _, _, .nil => .nil
  | _, _, .cons r s => .cons (RV.mono h r) (RL.mono h s)
end

theorem mapU_some.{u, v} {α : Type u} {β : Type v} {o : Option α} {f : α → β} {b : β} (h : o.map f = some b) : ∃ a, o = some a ∧ f a = b := by
  cases o with
  | none => cases h
  | some a => exact ⟨a, rfl, by simpa using h⟩
theorem RL.length {ε : Nat → Option BE} : ∀ {v : List SV} {c : List V}, RL ε v c → v.length = c.length
  | _, _, .nil => rfl
  | _, _, .cons _ s => by simp [RL.length s]
theorem RL.get {ε : Nat → Option BE} : ∀ {v : List SV} {c : List V}, RL ε v c → ∀ (i : Nat) (x : SV), v[i]? = some x → ∃ y, c[i]? = some y ∧ RV ε x y
  | _, _, .nil, i, x, h => by simp at h
  | _, _, .cons r s, 0, x, h => by simp at h; subst h; exact ⟨_, rfl, r⟩
  | _, _, .cons r s, i + 1, x, h => by simp at h; obtain ⟨y, h1, h2⟩ := s.get i x h; exact ⟨y, by simpa using h1, h2⟩
theorem RL.of_get {ε : Nat → Option BE} : ∀ {v : List SV} {c : List V}, v.length = c.length → (∀ (i : Nat) (x : SV) (y : V), v[i]? = some x → c[i]? = some y → RV ε x y) → RL ε v c
  | [], [], _, _ => .nil
  | x :: v, y :: c, hl, h => .cons (h 0 x y rfl rfl) (RL.of_get (by simpa using hl) fun i a b ha hb => h (i + 1) a b (by simpa using ha) (by simpa using hb))
theorem RL.set {ε : Nat → Option BE} {v : List SV} {c : List V} (h : RL ε v c) (i : Nat) {x : SV} {y : V} (r : RV ε x y) : RL ε (v.set i x) (c.set i y) := by
  refine RL.of_get (by simp [h.length]) fun j a b ha hb => ?_
  rw [List.getElem?_set] at ha hb
  have hl := h.length
  by_cases hij : i = j
  · subst hij
    simp only [if_true] at ha hb
    split at ha
    · split at hb
      · cases ha; cases hb; exact r
      · cases hb
    · cases ha
  · rw [if_neg hij] at ha hb
    obtain ⟨y', h1, h2⟩ := h.get j a ha
    rw [hb] at h1
    cases h1
    exact h2
theorem RL.append {ε : Nat → Option BE} : ∀ {v v' : List SV} {c c' : List V}, RL ε v c → RL ε v' c' → RL ε (v ++ v') (c ++ c')
  | _, _, _, _, .nil, k => k
  | _, _, _, _, .cons r s, k => .cons r (RL.append s k)
theorem RL.split {ε : Nat → Option BE} : ∀ {v v' : List SV} {c : List V}, RL ε (v ++ v') c → ∃ c1 c2, c = c1 ++ c2 ∧ RL ε v c1 ∧ RL ε v' c2
  | [], v', c, h => ⟨[], c, rfl, .nil, h⟩
  | x :: v, v', _, .cons r s => by
    obtain ⟨c1, c2, rfl, h1, h2⟩ := RL.split s
    exact ⟨_ :: c1, c2, rfl, .cons r h1, h2⟩
theorem RL.take {ε : Nat → Option BE} {v : List SV} {c : List V} (h : RL ε v c) (n : Nat) : RL ε (v.take n) (c.take n) := by
  refine RL.of_get (by simp [h.length]) fun j a b ha hb => ?_
  rw [List.getElem?_take] at ha hb
  split at ha
  · obtain ⟨y', h1, h2⟩ := h.get j a ha
    rw [if_pos ‹_›] at hb
    rw [hb] at h1
    cases h1
    exact h2
  · cases ha
theorem RL.drop {ε : Nat → Option BE} {v : List SV} {c : List V} (h : RL ε v c) (n : Nat) : RL ε (v.drop n) (c.drop n) := by
  refine RL.of_get (by simp [h.length]) fun j a b ha hb => ?_
  rw [List.getElem?_drop] at ha hb
  obtain ⟨y', h1, h2⟩ := h.get _ a ha
  rw [hb] at h1
  cases h1
  exact h2

/-- Rows: things by their places. -/
theorem flat_len {α : Type} {e : α → List SV} {k : Nat} : ∀ {xs : List α}, (∀ x, (e x).length = k) → (xs.flatMap e).length = xs.length * k
  | [], _ => by simp
  | x :: xs, h => by rw [List.flatMap_cons, List.length_append, h x, flat_len h, List.length_cons, Nat.add_mul]; omega
theorem flat_drop {α : Type} {e : α → List SV} {k : Nat} (h : ∀ x, (e x).length = k) : ∀ (i : Nat) (xs : List α), (xs.flatMap e).drop (i * k) = (xs.drop i).flatMap e
  | 0, xs => by simp
  | i + 1, [] => by simp
  | i + 1, x :: xs => by
    rw [List.flatMap_cons, Nat.add_mul, Nat.one_mul, Nat.add_comm, ← List.drop_drop, List.drop_left' (h x), flat_drop h i xs, List.drop_succ_cons]
theorem flat_take {α : Type} {e : α → List SV} {k : Nat} (h : ∀ x, (e x).length = k) : ∀ (i : Nat) (xs : List α), (xs.flatMap e).take (i * k) = (xs.take i).flatMap e
  | 0, xs => by simp
  | i + 1, [] => by simp
  | i + 1, x :: xs => by
    rw [List.flatMap_cons, Nat.add_mul, Nat.one_mul, Nat.add_comm (i * k), List.take_append, List.take_of_length_le (by rw [h x]; omega), h x, Nat.add_sub_cancel_left, flat_take h i xs, List.take_succ_cons, List.flatMap_cons]

end
end Go.Proofs.Ytnnfcebnmogdmaa.VM
/- Values with labels: what each operation does. No conditions. -/
namespace Go.Proofs.Ytnnfcebnmogdmaa.VM
set_option linter.unusedSimpArgs false
set_option linter.unusedVariables false
open Go Go.RowKit
noncomputable section

/-- There is no way on here. -/
inductive Stuck (n : Nat) : Prop

/-! Labels. -/
def SB.not : SB → SB | .lit b => .lit (!b) | .sym p => .sym (¬ p)
def req (b : SB) (K : Prop) : Prop := match b with | .lit true => K | .lit false => Stuck 1 | .sym p => p ∧ K
def bra (b : SB) (K1 K2 : Prop) : Prop := match b with | .lit true => K1 | .lit false => K2 | .sym p => (p → K1) ∧ (¬ p → K2)
def SI.lt : SI → SI → SB | .lit a, .lit b => .lit (decide (a < b)) | a, b => .sym (a.val < b.val)
def SI.le : SI → SI → SB | .lit a, .lit b => .lit (decide (a ≤ b)) | a, b => .sym (a.val ≤ b.val)
def SI.eq : SI → SI → SB | .lit a, .lit b => .lit (decide (a = b)) | a, b => .sym (a.val = b.val)
def SN.le : SN → SN → SB | .lit a, .lit b => .lit (Nat.ble a b) | a, b => .sym (a.val ≤ b.val)
def SN.eq : SN → SN → SB | .lit a, .lit b => .lit (Nat.beq a b) | a, b => .sym (a.val = b.val)
def SN.add : SN → SN → SN | .lit a, .lit b => .lit (a + b) | a, .lit b => (bif Nat.beq b 0 then a else .sym (a.val + b)) | .lit a, b => (bif Nat.beq a 0 then b else .sym (a + b.val)) | a, b => .sym (a.val + b.val)
def SN.sub : SN → SN → SN | .lit a, .lit b => .lit (a - b) | a, .lit b => (bif Nat.beq b 0 then a else .sym (a.val - b)) | a, b => .sym (a.val - b.val)
def SI.toN : SI → SN | .lit a => .lit a.toNat | .sym a => .sym a.toNat
def SN.toI : SN → SI | .lit a => .lit (a : Int) | .sym a => .sym (a : Int)
def SN.min : SN → SN → SN | .lit a, .lit b => .lit (Min.min a b) | a, b => .sym (Min.min a.val b.val)
def rdrop {α : Type} (e : SN) (xs : List α) : List α := match e with | .lit 0 => xs | e => xs.drop e.val
def allN (m : Nat) (f : Nat → Prop) : Prop := Nat.rec (motive := fun _ => Prop) True (fun j ih => ih ∧ f j) m
/-- A place among so many. -/
def caseN (i : SN) (m : Nat) (K : Nat → Prop) : Prop :=
  match i with
  | .lit j => bif Nat.blt j m then K j else Stuck 2
  | .sym j => j < m ∧ allN m fun c => j = c → K c

/-! Heaps and temporaries. -/
def sget (H : SHeap) (j : Nat) : Option SBlk :=
  List.rec (motive := fun _ => Option SBlk) none (fun p _ ih => bif Nat.beq p.1 j then some p.2 else ih) H
def sset : SHeap → Nat → SBlk → SHeap
  | [], j, x => [(j, x)]
  | (i, b) :: r, j, x => bif Nat.beq i j then (i, x) :: r else (i, b) :: sset r j x
def snews : List SBlk → Nat → SHeap → SHeap
  | [], _, H => H
  | b :: r, j, H => snews r (j + 1) ((j, b) :: H)
def ssets : List (Nat × SBlk) → SHeap → SHeap
  | [], H => H
  | (j, x) :: r, H => ssets r (sset H j x)
def sapply (H : SHeap) (base : Nat) (e : SEff) : SHeap := snews e.new base (ssets e.wr H)
def SEff.pure (v : SV) : SEff := ⟨v, [], []⟩
def snth (l : List SV) (i : Nat) : SV :=
  List.rec (motive := fun _ => Nat → SV) (fun _ => .any) (fun v _ ih n => Nat.rec (motive := fun _ => SV) v (fun m _ => ih m) n) l i
def ssetn (l : List SV) (i : Nat) (x : SV) : List SV :=
  List.rec (motive := fun _ => Nat → List SV) (fun _ => []) (fun v r ih n => Nat.rec (motive := fun _ => List SV) (x :: r) (fun m _ => v :: ih m) n) l i
def ssetCells : List SV → Nat → List SV → List SV
  | l, _, [] => l
  | l, i, v :: r => ssetCells (ssetn l i v) (i + 1) r
def sdrop (l : List SV) (n : Nat) : List SV :=
  Nat.rec (motive := fun _ => List SV → List SV) (fun l => l) (fun _ ih l => match l with | [] => [] | _ :: r => ih r) n l
def stake (l : List SV) (n : Nat) : List SV :=
  Nat.rec (motive := fun _ => List SV → List SV) (fun _ => []) (fun _ ih l => match l with | [] => [] | x :: r => x :: ih r) n l
def slen (l : List SV) : Nat := List.rec (motive := fun _ => Nat) 0 (fun _ _ ih => Nat.succ ih) l

/-- A value without a name in it, as a value with labels. -/
def toS : Nat → V → SV
  | 0, _ => .any
  | n + 1, v => match v with
    | .int k i => .int k (.lit i)
    | .bool b => .bool (.lit b)
    | .str s => .str s
    | .agg cs => .agg (cs.map (toS n))
    | .tup cs => .tup (cs.map (toS n))
    | .iface t v => .iface t (toS n v)
    | .nilIface => .nilIface
    | .func fn f c => .func fn (f.map (toS n)) (c.map (toS n))
    | .nilFunc => .nilFunc
    | .nilPtr => .nilPtr
    | .nilSl => .nilSl
    | _ => .any
def evalS (t : List SV) : Operand → Option SV
  | .tmp i => some (snth t i)
  | .const v => (ofVal v).map (toS 9)
  | .func f => some (.func (.func f) [] [])
  | .global _ => none
def evalSL (t : List SV) : List Operand → Option (List SV)
  | [] => some []
  | x :: r => match evalS t x, evalSL t r with
    | some v, some vs => some (v :: vs)
    | _, _ => none
def evalSP (t : List SV) : List (Nat × Operand) → Option (List (Nat × SV))
  | [] => some []
  | (i, x) :: r => match evalS t x, evalSP t r with
    | some v, some vs => some ((i, v) :: vs)
    | _, _ => none
def mapS (f : SV → Option V) : List SV → Option (List V)
  | [] => some []
  | a :: r => match f a, mapS f r with
    | some b, some bs => some (b :: bs)
    | _, _ => none
/-- A value with nothing but what is written out. -/
def toV : Nat → SV → Option V
  | 0, _ => none
  | n + 1, v => match v with
    | .int k (.lit i) => some (.int k i)
    | .bool (.lit b) => some (.bool b)
    | .str s => some (.str s)
    | .agg cs => (mapS (toV n) cs).map .agg
    | .iface t v => (toV n v).map (.iface t)
    | .nilIface => some .nilIface
    | .nilFunc => some .nilFunc
    | .nilPtr => some .nilPtr
    | .nilSl => some .nilSl
    | _ => none

def SV.cells : SV → List SV
  | .agg cs => cs
  | v => [v]
def sones (l : List SV) : Bool := List.rec (motive := fun _ => Bool) true (fun v _ ih => bif v.one then ih else false) l
def SC.ones : SC → Bool
  | .lit l => sones l
  | .rows .. => true
def SBlk.with (b : SBlk) (cs : SC) : SBlk := ⟨cs, b.k, b.ver, b.fz, b.lz⟩

/-! What is known less of. -/
def pairL (f : SV → SV → Prop) : List SV → List SV → Prop
  | [], [] => True
  | a :: r, b :: s => f a b ∧ pairL f r s
  | _, _ => Stuck 3
def SB.iff : SB → SB → Prop
  | .lit a, .lit b => a = b
  | a, b => (a.holds ↔ b.holds)
/-- All that the first may be, the second may be. -/
def sle : Nat → SV → SV → Prop
  | 0, _, _ => Stuck 4
  | n + 1, a, b => match a, b with
    | _, .any => True
    | .int k x, .int l y => (if k = l then x.val = y.val else Stuck 5)
    | .bool x, .bool y => x.iff y
    | .str s, .str s' => s = s'
    | .strS l, .strS l' => l = l'
    | .str s, .strS l' => s = strOfNums l'
    | .agg cs, .agg ds => pairL (sle n) cs ds
    | .tup cs, .tup ds => pairL (sle n) cs ds
    | .iface t v, .iface t' v' => (if t = t' then sle n v v' else Stuck 6)
    | .nilIface, .nilIface => True
    | .func f a b, .func f' a' b' => f = f' ∧ pairL (sle n) a a' ∧ pairL (sle n) b b'
    | .nilFunc, .nilFunc => True
    | .nilPtr, .nilPtr => True
    | .nilSl, .nilSl => True
    | .nilSl, .slI _ cs m _ => m.val = 0 ∧ COK cs
    | .ptrB b e k f v, .ptrB b' e' k' f' v' => (if b = b' ∧ k = k' ∧ f = f' ∧ v = v' then e.val = e'.val else Stuck 7)
    | .slB b e k v m, .slB b' e' k' v' m' => (if b = b' ∧ k = k' ∧ v = v' then e.val = e'.val ∧ m.val = m'.val else Stuck 8)
    | .slI fr cs m tt, .slI fr' cs' m' tt' => (bif (!fr' || fr) && (!tt' || tt) then m.val = m'.val ∧ (match cs, cs' with
      | .lit l, .lit l' => pairL (sle n) l l'
      | .lit l, .rows e k d fl xs => ROK e k d fl ∧ pairL (sle n) l (xs.flatMap e)
      | .rows e k d fl xs, .lit l => pairL (sle n) (xs.flatMap e) l
      | a, b => a = b) else Stuck 9)
    | .ptrI fr ex cs, .ptrI fr' ex' cs' => (bif (!fr' || fr) && (!ex' || ex) then (match cs, cs' with
      | .lit l, .lit l' => pairL (sle n) l l'
      | .lit l, .rows e k d fl xs => ROK e k d fl ∧ pairL (sle n) l (xs.flatMap e)
      | .rows e k d fl xs, .lit l => pairL (sle n) (xs.flatMap e) l
      | a, b => a = b) else Stuck 10)
    | _, _ => Stuck 11
abbrev sles : List SV → List SV → Prop := pairL (sle 12)

/-! Memory. -/
def partS (P : Program) (t : TypeId) (cs : List SV) (off : Nat) (K : SV → Prop) : Prop :=
  match tySz P t with
  | some (true, n) => bif Nat.ble (off + n) (slen cs) then K (.agg (stake (sdrop cs off) n)) else Stuck 12
  | some (false, _) => match sdrop cs off with
    | v :: _ => K v
    | [] => Stuck 13
  | none => Stuck 14
/-- The cells from a pointer's on, as many as are asked for at the least. -/
def cellsS (H : SHeap) (n : Nat) (p : SV) (K : List SV → Prop) : Prop :=
  match p with
  | .ptrI _ _ (.lit cs) => bif Nat.ble n (slen cs) then K cs else Stuck 15
  | .ptrB b e k f ver => match sget H b with
    | some blk => bif Nat.beq blk.ver ver then match blk.cells with
      | .lit cs => caseN e (bif Nat.beq k 0 then slen cs + 1 else slen cs) fun i => bif Nat.ble (i * k + f + n) (slen cs) then K (sdrop cs (i * k + f)) else Stuck 16
      | .rows r k' d fl xs => bif Nat.beq k' k then e.val < xs.length ∧ ∀ x, xs[e.val]? = some x → (bif Nat.ble (f + n) (slen (r x)) then K (sdrop (r x) f) else Stuck 17) else Stuck 18
      else Stuck 19
    | none => Stuck 20
  | _ => Stuck 21
def loadS (P : Program) (H : SHeap) (t : TypeId) (p : SV) (K : SV → Prop) : Prop :=
  match tySz P t with
  | some (g, n) => cellsS H (bif g then n else 1) p fun cs => bif g then K (.agg (stake cs n)) else match cs with
    | v :: _ => K v
    | [] => Stuck 22
  | none => Stuck 23
def storeS (P : Program) (H : SHeap) (t : TypeId) (p v : SV) (K : SEff → Prop) : Prop :=
  match tySz P t, p with
  | some (_, n), .ptrB b e k f ver => match sget H b with
    | some blk => bif Nat.beq blk.ver ver && !blk.fz && Nat.beq (slen v.cells) n && sones v.cells then match blk.cells with
      | .lit cs => caseN e (bif Nat.beq k 0 then slen cs + 1 else slen cs) fun i => bif Nat.ble (i * k + f + n) (slen cs) then K ⟨.tup [], [(b, blk.with (.lit (ssetCells cs (i * k + f) v.cells)))], []⟩ else Stuck 24
      | .rows r k' d fl xs => bif Nat.beq k' k then e.val < xs.length ∧ (bif Nat.beq f 0 && Nat.beq n k then
            ∃ y, sles v.cells (r y) ∧ K ⟨.tup [], [(b, blk.with (.rows r k' d fl (xs.set e.val y)))], []⟩
          else ∀ x, xs[e.val]? = some x → (bif Nat.ble (f + n) (slen (r x)) then ∃ y, sles (ssetCells (r x) f v.cells) (r y) ∧ K ⟨.tup [], [(b, blk.with (.rows r k' d fl (xs.set e.val y)))], []⟩ else Stuck 25)) else Stuck 26
      else Stuck 27
    | none => Stuck 28
  | _, _ => Stuck 29
def ptrAddS (H : SHeap) (p : SV) (c : Nat) (K : SV → Prop) : Prop :=
  match p with
  | .ptrI fr ex (.lit cs) => K (.ptrI fr ex (.lit (sdrop cs c)))
  | .ptrB b e k f ver => match sget H b with
    | some blk => bif Nat.beq blk.ver ver && !blk.lz then K (.ptrB b e k (f + c) ver) else Stuck 30
    | none => Stuck 31
  | _ => Stuck 32
def idxAddrS (P : Program) (H : SHeap) (t : TypeId) (x : SV) (i : SI) (K : SV → Prop) : Prop :=
  match P.underlying t with
  | some (.slice el) => match tySz P el, x with
    | some (_, k), .slI fr cs n _ => req (SI.le (.lit 0) i) (req (SI.lt i n.toI) (match cs with
      | .lit l => caseN i.toN (slen l) fun j => K (.ptrI fr true (.lit (sdrop l (j * k))))
      | .rows r k' d fl xs => bif Nat.beq k' k then i.val.toNat < xs.length ∧ ∀ y, xs[i.val.toNat]? = some y → K (.ptrI fr false (.lit (r y))) else Stuck 33))
    | some (_, k), .slB b e k' ver n => match sget H b with
      | some blk => bif Nat.beq blk.ver ver && Nat.beq k' k then req (SI.le (.lit 0) i) (req (SI.lt i n.toI) (K (.ptrB b (e.add i.toN) k 0 ver))) else Stuck 34
      | none => Stuck 35
    | _, _ => Stuck 36
  | some (.array n el) => match tySz P el with
    | some (_, k) => req (SI.le (.lit 0) i) (req (SI.lt i (.lit (n : Int))) (caseN i.toN n fun j => ptrAddS H x (j * k) K))
    | none => Stuck 37
  | _ => Stuck 38

/-- The cells of a row, and how many things. -/
def SC.cut (cs : SC) (k : Nat) (e n : SN) (K : SC → Prop) : Prop :=
  match cs with
  | .lit l => match e, n with
    | .lit e, .lit n => bif Nat.ble ((e + n) * k) (slen l) then K (.lit (stake (sdrop l (e * k)) (n * k))) else Stuck 39
    | _, _ => Stuck 40
  | .rows r k' d fl xs => bif Nat.beq k' k then req (SN.le (e.add n) (.sym xs.length)) (K (.rows r k' d fl ((rdrop e xs).take n.val))) else Stuck 41
def rowS (H : SHeap) (k : Nat) (v : SV) (K : SC → SN → Prop) : Prop :=
  match v with
  | .nilSl => K (.lit []) (.lit 0)
  | .slI _ cs n _ => cs.cut k (.lit 0) n fun c => K c n
  | .slB b e k' ver n => match sget H b with
    | some blk => bif Nat.beq blk.ver ver && Nat.beq k' k then blk.cells.cut k e n fun c => K c n else Stuck 42
    | none => Stuck 43
  | .str s => bif Nat.beq k 1 then K (.lit (s.data.toList.map fun b => .int .u8 (.lit b.toNat))) (.lit s.size) else Stuck 44
  | _ => Stuck 45
def lenS (H : SHeap) : SV → Option SN
  | .nilSl => some (.lit 0)
  | .slI _ _ n _ => some n
  | .slB b _ _ ver n => match sget H b with
    | some blk => bif Nat.beq blk.ver ver then some n else none
    | none => none
  | _ => none

/-- One row behind another. -/
def SC.app (a b : SC) (K : SC → Prop) : Prop :=
  match a, b with
  | .lit l, .lit m => K (.lit (l ++ m))
  | .lit [], .rows r k d fl xs => K (.rows r k d fl xs)
  | .rows r k d fl xs, .lit m => match m with
    | [] => K (.rows r k d fl xs)
    | m => bif Nat.beq (slen m) k then ∃ y, sles m (r y) ∧ K (.rows r k d fl (xs ++ [y])) else ∃ ys, sles m (ys.flatMap r) ∧ K (.rows r k d fl (xs ++ ys))
  | .rows r k d fl xs, b => ∃ ys, b = .rows r k d fl ys ∧ K (.rows r k d fl (xs ++ ys))
  | .lit l, .rows r k d fl xs => ∃ ys, sles l (ys.flatMap r) ∧ K (.rows r k d fl (ys ++ xs))

/-- How the things of a kind are to be told, where there is a number of them that has a name. -/
structure SRow where
  α : Type
  r : α → List SV
  k : Nat
  d : Nat
  fl : Bool
  zero : α
structure SCfg where
  row : TypeId → Option SRow
def zeroS (P : Program) (t : TypeId) : Option (List SV) := (zeroV P t).map fun z => z.map (toS 9)
def szeros (z : List SV) : Nat → List SV
  | 0 => []
  | n + 1 => z ++ szeros z n
def makeS (cx : SCfg) (P : Program) (e : TypeId) (l : SN) (z : List SV) (K : SC → Prop) : Prop :=
  match l with
  | .lit l => K (.lit (szeros z l))
  | .sym l => match cx.row e with
    | some w => ROK w.r w.k w.d w.fl ∧ (bif Nat.beq w.k (slen z) then sles z (w.r w.zero) ∧ K (.rows w.r w.k w.d w.fl (List.replicate l w.zero)) else Stuck 46)
    | none => Stuck 47

/-- The cells from a slice's first on, where it ends with the block. -/
def SC.from (cs : SC) (k : Nat) (o n : SN) (K : SC → Prop) : Prop :=
  match cs with
  | .lit l => match o, n with
    | .lit o, .lit n => bif Nat.beq ((o + n) * k) (slen l) then K (.lit (sdrop l (o * k))) else Stuck 201
    | _, _ => Stuck 202
  | .rows r k' d fl xs => bif Nat.beq k' k then (SN.add o n).val = xs.length ∧ K (.rows r k' d fl (rdrop o xs)) else Stuck 203
def appTo (H : SHeap) (base k bytes : Nat) (s : SV) (new : SC) (m : SN) (K : SEff → Prop) : Prop :=
  match s with
  | .nilSl => req (SN.le m (.lit (2 ^ 40 / bytes))) (K ⟨.slB base (.lit 0) k 0 m, [], [⟨new, k, 0, false, false⟩]⟩)
  | .slI fr cs n true => req (SN.le (n.add m) (.lit (2 ^ 40 / bytes))) (bra (SN.eq n (.lit 0))
      (K ⟨.slB base (.lit 0) k 0 m, [], [⟨new, k, 0, false, false⟩]⟩)
      (cs.cut k (.lit 0) n fun c => bra (SN.eq m (.lit 0)) (K (SEff.pure (.slI fr cs n true))) (c.app new fun c => K ⟨.slB base (.lit 0) k 0 (n.add m), [], [⟨c, k, 0, false, false⟩]⟩)))
  | .slB b o k' ver n => match sget H b with
    | some blk => bif Nat.beq blk.ver ver && !blk.fz && Nat.beq blk.k k && Nat.beq k' k then
        req (SN.le (n.add m) (.lit (2 ^ 40 / bytes))) (blk.cells.from k o n fun c => c.app new fun c => K ⟨.slB b (.lit 0) k (ver + 1) (n.add m), [(b, ⟨c, k, ver + 1, false, false⟩)], []⟩)
      else Stuck 204
    | none => Stuck 205
  | _ => Stuck 206
def appendS (cx : SCfg) (P : Program) (H : SHeap) (base : Nat) (e : TypeId) (zeros : Bool) (s x : SV) (K : SEff → Prop) : Prop :=
  match zeroS P e, P.info? e with
  | some z, some i => bif Nat.ble i.bytes (2 ^ 20) && !Nat.beq i.bytes 0 then
      (bif zeros then match x with
        | .int _ l => req (SI.le (.lit 0) l) (req (SI.le l (.lit 1099511627776)) (makeS cx P e l.toN z fun c => bif c.ones then appTo H base (slen z) i.bytes s c l.toN K else Stuck 211))
        | _ => Stuck 207
      else rowS H (slen z) x fun c m => bif c.ones then appTo H base (slen z) i.bytes s c m K else Stuck 210)
    else Stuck 208
  | _, _ => Stuck 209

/-- Cells written over others, from one thing on. -/
def SC.over (cs : SC) (k : Nat) (e cnt : SN) (new : SC) (K : SC → Prop) : Prop :=
  match cs with
  | .lit l => match e, cnt, new with
    | .lit e, .lit c, .lit m => bif Nat.ble ((e + c) * k) (slen l) && Nat.ble (c * k) (slen m) then K (.lit (ssetCells l (e * k) (stake m (c * k)))) else Stuck 226
    | _, _, _ => Stuck 227
  | .rows r k' d fl xs => bif Nat.beq k' k then req (SN.le (e.add cnt) (.sym xs.length))
      (∃ ys, (match new with | .lit m => sles m (ys.flatMap r) | new => new = .rows r k' d fl ys) ∧ cnt.val ≤ ys.length ∧ K (.rows r k' d fl (xs.take e.val ++ ys.take cnt.val ++ xs.drop (e.val + cnt.val)))) else Stuck 228
def copyS (P : Program) (H : SHeap) (e : TypeId) (d x : SV) (K : SEff → Prop) : Prop :=
  match tySz P e, d with
  | some (_, k), .slB b o k' ver n => (match sget H b with
    | some blk => bif Nat.beq blk.ver ver && !blk.fz && Nat.beq k' k && !blk.lz then
        rowS H k x fun new m => bif new.ones then blk.cells.over k o (SN.min m n) new fun c => K ⟨.int .i64 (SN.min m n).toI, [(b, blk.with c)], []⟩ else Stuck 229
      else Stuck 230
    | none => Stuck 231)
  | _, _ => Stuck 232
def clearS (P : Program) (H : SHeap) (e : TypeId) (d : SV) (K : SEff → Prop) : Prop :=
  match tySz P e, zeroS P e, d with
  | some (_, k), some z, .slB b o k' ver n => (match sget H b with
    | some blk => bif Nat.beq blk.ver ver && !blk.fz && Nat.beq k' k && !blk.lz && Nat.beq (slen z) k && sones z then
        (match blk.cells with
        | .lit l => (match n with
          | .lit n => SC.over (.lit l) k o (.lit n) (.lit (szeros z n)) fun c => K ⟨.tup [], [(b, blk.with c)], []⟩
          | .sym _ => Stuck 233)
        | .rows r k'' d fl xs => ∃ y, sles z (r y) ∧ SC.over (.rows r k'' d fl xs) k o n (.rows r k'' d fl (List.replicate n.val y)) fun c => K ⟨.tup [], [(b, blk.with c)], []⟩)
      else Stuck 234
    | none => Stuck 235)
  | _, _, _ => Stuck 236

def optS (t : List SV) : Option Operand → Option (Option SI)
  | none => some none
  | some x => match evalS t x with
    | some (.int _ n) => some (some n)
    | _ => none
/-- A bound that is told, or the other one. -/
def orS (x : Option SI) (d : SI) : SI := match x with | some l => l | none => d
def zeroI : SI → Bool | .lit n => decide (n = 0) | .sym _ => false
def tightS (n : SN) (tight : Bool) (hi mx : Option SI) : Bool :=
  match hi, mx with
  | some (.lit h), some (.lit m) => decide (m = h)
  | none, none => tight
  | some (.lit h), none => (match n with | .lit n => tight && decide (h = (n : Int)) | .sym _ => false)
  | _, _ => false
def cutI (k : Nat) (fr : Bool) (cs : SC) (tt : Bool) (l h : SI) (K : SV → Prop) : Prop :=
  match cs with
  | .lit c => caseN l.toN (slen c + 1) fun j => bif Nat.beq (j * k) 0 || Nat.ble (j * k) (slen c) then K (.slI fr (.lit (sdrop c (j * k))) (h.toN.sub (.lit j)) tt) else Stuck 212
  | .rows r k' d fl xs => bif Nat.beq k' k then K (.slI fr (.rows r k' d fl (rdrop l.toN xs)) (h.toN.sub l.toN) tt) else Stuck 213
/-- s[l:h:m]. -/
def cutS (H : SHeap) (k : Nat) (x : SV) (lo hi mx : Option SI) (K : SV → Prop) : Prop :=
  bif mx.isSome && hi.isNone then Stuck 200 else
  match x with
  | .nilSl => bif zeroI (orS lo (.lit 0)) && zeroI (orS hi (.lit 0)) && zeroI (orS mx (.lit 0)) then K .nilSl else Stuck 214
  | .slI fr cs n tight => req (SI.le (.lit 0) (orS lo (.lit 0))) (req (SI.le (orS lo (.lit 0)) (orS hi n.toI)) (req (SI.le (orS hi n.toI) (orS mx n.toI)) (req (SI.le (orS mx n.toI) n.toI)
      (cutI k fr cs (tightS n tight hi mx) (orS lo (.lit 0)) (orS hi n.toI) K))))
  | .slB b e k' ver n => match sget H b with
    | some blk => bif Nat.beq blk.ver ver && Nat.beq k' k && Nat.beq blk.k k && !blk.lz then
        req (SI.le (.lit 0) (orS lo (.lit 0))) (req (SI.le (orS lo (.lit 0)) (orS hi n.toI)) (req (SI.le (orS hi n.toI) (orS mx n.toI)) (req (SI.le (orS mx n.toI) n.toI)
          (bra (match mx with | none => SI.eq (orS lo (.lit 0)) (.lit 0) | some _ => .lit false) (K (.slB b e k ver (orS hi n.toI).toN))
            (bra (SI.eq (orS hi n.toI) (orS lo (.lit 0))) (K (.slI true (.lit []) (.lit 0) false)) (K (.slB b (e.add (orS lo (.lit 0)).toN) k ver ((orS hi n.toI).toN.sub (orS lo (.lit 0)).toN))))))))
      else Stuck 215
    | none => Stuck 216
  | _ => Stuck 217

def fillS (place : Nat → Option (Nat × Nat)) (cells : List SV) : List (Nat × SV) → Option (List SV)
  | [] => some cells
  | (i, v) :: rest =>
    match place i with
    | none => none
    | some (off, size) =>
      bif Nat.beq (slen v.cells) size && Nat.ble (off + size) (slen cells) && sones v.cells then fillS place (ssetCells cells off v.cells) rest else none
def buildS (P : Program) (t : List SV) (ty : TypeId) (parts : Array (Nat × Operand)) : Option SV :=
  match zeroS P ty, evalSP t parts.toList, P.underlying ty with
  | some z, some vs, some (.struct fields) =>
    match fields.toList.mapM (fun f => (P.info? f.type).map fun i => (f.offset, i.size)) with
    | some places => (fillS (places.toArray[·]?) z vs).map .agg
    | none => none
  | some z, some vs, some (.array _ e) =>
    match P.info? e with
    | some i => (fillS (fun j => some (j * i.size, i.size)) z vs).map .agg
    | none => none
  | _, _, _ => none
def buildSliceS (P : Program) (t : List SV) (ty : TypeId) (len : Nat) (parts : Array (Nat × Operand)) : Option SV :=
  match P.underlying ty with
  | some (.slice e) => match zeroS P e, evalSP t parts.toList with
    | some z, some vs => bif Nat.ble (len * slen z) 16777216 then match fillS (fun i => some (i * slen z, slen z)) (szeros z len) vs with
      | some cells => some (.slI true (.lit cells) (.lit len) true)
      | none => none else none
    | _, _ => none
  | _ => none

/-! Numbers, strings and comparisons. -/
def bitsOf (f : Nat → Nat → Nat) (k : IntKind) (a b : Int) : Int := k.wrap ((f (a % 2 ^ k.bits).toNat (b % 2 ^ k.bits).toNat : Nat) : Int)
def SI.map2 (f : Int → Int → Int) : SI → SI → SI
  | .lit a, .lit b => .lit (f a b)
  | a, b => .sym (f a.val b.val)
def binS (op : BinOp) (k l : IntKind) (a b : SI) (K : SV → Prop) : Prop :=
  match op with
  | .shr => (match b with
    | .lit b => bif decide (b < 0) then Stuck 66 else K (.int k (match a with | .lit a => .lit (a.fdiv (2 ^ Min.min b.toNat k.bits)) | .sym a => .sym (a.fdiv (2 ^ Min.min b.toNat k.bits))))
    | .sym b => 0 ≤ b ∧ K (.int k (.sym (a.val.fdiv (2 ^ Min.min b.toNat k.bits)))))
  | .shl => (match b with
    | .lit b => bif decide (b < 0) then Stuck 67 else K (.int k (match a with | .lit a => .lit (k.wrap (a * 2 ^ Min.min b.toNat k.bits)) | .sym a => .sym (k.wrap (a * 2 ^ Min.min b.toNat k.bits))))
    | .sym b => 0 ≤ b ∧ K (.int k (.sym (k.wrap (a.val * 2 ^ Min.min b.toNat k.bits)))))
  | op => if k = l then
      (fun (ar : (Int → Int → Int) → Prop) (cm : SB → Prop) => match op with
        | .add => ar (fun a b => k.wrap (a + b))
        | .sub => ar (fun a b => k.wrap (a - b))
        | .mul => ar (fun a b => k.wrap (a * b))
        | .and => ar (fun a b => bitsOf (· &&& ·) k a b)
        | .or => ar (fun a b => bitsOf (· ||| ·) k a b)
        | .xor => ar (fun a b => bitsOf (· ^^^ ·) k a b)
        | .andNot => ar (fun a b => k.wrap ((BitVec.ofInt k.bits a &&& ~~~ BitVec.ofInt k.bits b).toNat : Int))
        | .quo => req (SI.eq b (.lit 0)).not (ar (fun a b => k.wrap (a.tdiv b)))
        | .rem => req (SI.eq b (.lit 0)).not (ar (fun a b => a.tmod b))
        | .eql => cm (SI.eq a b)
        | .neq => cm (SI.eq a b).not
        | .lss => cm (SI.lt a b)
        | .leq => cm (SI.le a b)
        | .gtr => cm (SI.lt b a)
        | .geq => cm (SI.le b a)
        | _ => Stuck 68)
      (fun f => K (.int k (SI.map2 f a b)))
      (fun s => K (.bool s))
    else Stuck 69

end
end Go.Proofs.Ytnnfcebnmogdmaa.VM
/- Values with labels: the machine. No conditions. -/
namespace Go.Proofs.Ytnnfcebnmogdmaa.VM
set_option linter.unusedSimpArgs false
set_option linter.unusedVariables false
open Go Go.RowKit
noncomputable section

/-! What is handed to a call. -/
def sreifyL (f : SV → (SV → List Nat → Prop) → Prop) : List SV → (List SV → List Nat → Prop) → Prop
  | [], K => K [] []
  | v :: r, K => f v fun x a => sreifyL f r fun xs b => K (x :: xs) (a ++ b)
def SC.reify (n : Nat) (f : SV → (SV → List Nat → Prop) → Prop) (cs : SC) (K : SC → List Nat → Prop) : Prop :=
  match cs with
  | .lit l => sreifyL f l fun l rs => K (.lit l) rs
  | .rows e k d fl xs => bif Nat.ble d n then K (.rows e k d fl xs) [] else Stuck 218
/-- Cells that are written out are there. -/
def fitsS (cs : SC) (n : SN) : Bool :=
  match cs with
  | .lit [] => true
  | .lit _ => (match n with | .lit k => !Nat.beq k 0 | .sym _ => false)
  | .rows .. => true
def sreify (H : SHeap) (res : Bool) : Nat → SV → (SV → List Nat → Prop) → Prop
  | 0, _, _ => Stuck 70
  | n + 1, v, K => match v with
    | .any => Stuck 71
    | .int k i => K (.int k i) []
    | .bool b => K (.bool b) []
    | .str s => K (.str s) []
    | .strS s => K (.strS s) []
    | .nilIface => K .nilIface []
    | .nilFunc => K .nilFunc []
    | .nilPtr => K .nilPtr []
    | .nilSl => K .nilSl []
    | .agg cs => sreifyL (sreify H res n) cs fun cs rs => K (.agg cs) rs
    | .tup cs => sreifyL (sreify H res n) cs fun cs rs => K (.tup cs) rs
    | .iface t v => sreify H res n v fun v rs => K (.iface t v) rs
    | .func fn f c => sreifyL (sreify H res n) f fun f a => sreifyL (sreify H res n) c fun c b => K (.func fn f c) (a ++ b)
    | .ptrI fr ex cs => bif ex then cs.reify n (sreify H res n) fun c rs => K (.ptrI (fr && res) true c) rs else Stuck 72
    | .slI fr cs m tt => bif fitsS cs m then cs.reify n (sreify H res n) fun c rs => K (.slI (fr && res) c m tt) rs else Stuck 219
    | .ptrB b e k f ver => match sget H b, e with
      | some blk, .lit e => bif Nat.beq blk.ver ver && !blk.lz then match blk.cells with
          | .lit l => bif Nat.ble (e * k + f) (slen l) then sreifyL (sreify H res n) (sdrop l (e * k + f)) fun l rs => K (.ptrI res true (.lit l)) (b :: rs) else Stuck 73
          | _ => Stuck 74
        else Stuck 75
      | _, _ => Stuck 76
    | .slB b e k ver m => match sget H b with
      | some blk => bif Nat.beq blk.ver ver && Nat.beq blk.k k then blk.cells.cut k e m fun c => c.reify n (sreify H res n) fun c rs => K (.slI res c m false) (b :: rs) else Stuck 77
      | none => Stuck 78
def saliasL (f : SV → Bool) : List SV → Bool
  | [] => false
  | v :: r => f v || saliasL f r
def salias : Nat → SV → Bool
  | 0, _ => true
  | n + 1, v => match v with
    | .any => true
    | .agg cs => saliasL (salias n) cs
    | .tup cs => saliasL (salias n) cs
    | .iface _ v => salias n v
    | .func _ f c => saliasL (salias n) f || saliasL (salias n) c
    | .ptrI fr ex cs => !fr || !ex || (match cs with | .lit l => saliasL (salias n) l | .rows _ _ _ fl _ => !fl)
    | .slI fr cs m _ => match cs, m with
      | .lit [], .lit 0 => false
      | .lit l, _ => !fr || saliasL (salias n) l
      | .rows _ _ _ fl _, _ => !fr || !fl
    | _ => false
def sfreeze (H : SHeap) : List Nat → Option (List (Nat × SBlk))
  | [] => some []
  | b :: r => match sget H b, sfreeze H r with
    | some blk, some l => some ((b, ⟨blk.cells, blk.k, blk.ver, true, blk.lz⟩) :: l)
    | _, _ => none
abbrev SCall := FuncId → Nat → List SV → (SV → List SBlk → Prop) → Prop
def scallE (call : SCall) (H : SHeap) (base : Nat) (f : FuncId) (vs : List SV) (K : SEff → Prop) : Prop :=
  sreifyL (sreify H false 50) vs fun as rs => call f base as fun rv blks =>
    match sfreeze H (bif salias 50 rv || blks.any (fun b => match b.cells with | .lit l => saliasL (salias 50) l | .rows _ _ _ fl _ => !fl) then rs else []) with
    | some wr => K ⟨rv, wr, blks⟩
    | none => Stuck 79

/-! Operations. -/
def pureS (P : Program) (t : List SV) (o : Oper) (K : SEff → Prop) : Prop :=
  bif o.op.operands.toList.all (fun x => ((evalS t x).bind (toV 9)).isSome) then
    match pureOp P (t.map fun s => (toV 9 s).getD (.tup [])) o with
    | some e => K (SEff.pure (toS 9 e.v))
    | none => Stuck 80
  else Stuck 81
def eB (n : Int) : List SV := [.int .u8 (.sym n)]
def bytesC (l : List Int) : SC := .rows eB 1 1 true l
def sintsL : List SV → Option (List Int)
  | [] => some []
  | .int .u8 (.lit n) :: r => (sintsL r).map fun p => n :: p
  | .int .u8 (.sym n) :: r => (sintsL r).map fun p => n :: p
  | _ => none
def slits : List SV → Bool
  | [] => true
  | .int .u8 (.lit _) :: r => slits r
  | _ => false
def sints (l : List SV) : Option (List Int × Bool) := (sintsL l).map fun p => (p, slits l)
def isBytes (l : List Int) : Prop := ∀ x ∈ l, 0 ≤ x ∧ x < 256
def strNums (s : ByteArray) : List Int := s.data.toList.map fun b => (b.toNat : Int)
def SV.text : SV → Option (List Int × Bool)
  | .str s => some (strNums s, true)
  | .strS l => some (l, false)
  | _ => none
def textEqS (a b : SV) (K : Prop → Prop) : Prop :=
  match a.text, b.text with
  | some (l, x), some (m, y) => (fun G : Prop => bif x then G else isBytes l ∧ G) ((fun G : Prop => bif y then G else isBytes m ∧ G) (K (l = m)))
  | _, _ => Stuck 82
def SB.and : SB → SB → SB
  | .lit true, b => b
  | .lit false, _ => .lit false
  | a, .lit true => a
  | a, b => .sym (a.holds ∧ b.holds)
def SB.same : SB → SB → SB
  | .lit a, .lit b => .lit (a == b)
  | a, b => .sym (a.holds ↔ b.holds)
def isSc : SV → Bool
  | .int .. => true
  | .bool _ => true
  | _ => false
def allSc (l : List SV) : Bool := List.rec (motive := fun _ => Bool) true (fun v _ ih => bif isSc v then ih else false) l
def partO (P : Program) (t : TypeId) (cs : List SV) (off : Nat) : Option SV :=
  match tySz P t with
  | some (true, n) => some (.agg (stake (sdrop cs off) n))
  | some (false, _) => (match sdrop cs off with
    | v :: _ => some v
    | [] => none)
  | none => none
def eqF (f : TypeId → SV → SV → Option SB) (P : Program) (xs ys : List SV) : List Field → Option SB
  | [] => some (.lit true)
  | g :: r => if g.name ≠ "_" then
      match partO P g.type xs g.offset, partO P g.type ys g.offset with
      | some a, some b => (match f g.type a b, eqF f P xs ys r with
        | some p, some q => some (p.and q)
        | _, _ => none)
      | _, _ => none
    else eqF f P xs ys r
/-- Are two values of a type the same? -/
def eqS (P : Program) : Nat → TypeId → SV → SV → Option SB
  | 0, _, _, _ => none
  | d + 1, t, x, y => match P.underlying t, x, y with
    | some .bool, .bool a, .bool b => some (a.same b)
    | some (.int _), .int k a, .int l b => if k = l then some (SI.eq a b) else none
    | some (.struct fs), .agg xs, .agg ys => bif allSc xs && allSc ys && !P.stoodInHeld t then eqF (eqS P d) P xs ys fs.toList else none
    | _, _, _ => none
def boolTy (P : Program) (ty : TypeId) : Bool := match P.underlying ty with | some .bool => true | _ => false
/-- There is a thing in a row. -/
def nonE (cs : SC) (n : SN) (K : Prop) : Prop :=
  match cs, n with
  | .lit (_ :: _), .lit (_ + 1) => K
  | .rows _ k _ _ xs, n => bif Nat.blt 0 k then 0 < n.val ∧ 0 < xs.length ∧ K else Stuck 277
  | _, _ => Stuck 278
def sliceTy (P : Program) (ty : TypeId) : Bool := match P.underlying ty with | some (.slice _) => true | _ => false
def binOpS (P : Program) (t : List SV) (o : Oper) (op : BinOp) (ty : TypeId) (x y : SV) (K : SEff → Prop) : Prop :=
  match x, y with
  | .int k a, .int l b => binS op k l a b fun v => K (SEff.pure v)
  | .bool (.sym p), .bool b => bif boolTy P ty then (match op with
    | .eql => K (SEff.pure (.bool (.sym (p ↔ b.holds))))
    | .neq => K (SEff.pure (.bool (.sym (¬ (p ↔ b.holds)))))
    | _ => Stuck 220) else Stuck 221
  | .bool (.lit a), .bool (.sym q) => bif boolTy P ty then (match op with
    | .eql => K (SEff.pure (.bool (.sym (a = true ↔ q))))
    | .neq => K (SEff.pure (.bool (.sym (¬ (a = true ↔ q)))))
    | _ => Stuck 222) else Stuck 223
  | .agg xs, .agg ys => bif P.eqGuardType P.depth ty || !(allSc xs && allSc ys) then Stuck 265 else (match eqS P 9 ty (.agg xs) (.agg ys) with
    | some s => (match op with
      | .eql => K (SEff.pure (.bool s))
      | .neq => K (SEff.pure (.bool s.not))
      | _ => Stuck 266)
    | none => Stuck 267)
  | .strS l, y => (match op with
    | .eql => textEqS (.strS l) y fun p => K (SEff.pure (.bool (.sym p)))
    | .neq => textEqS (.strS l) y fun p => K (SEff.pure (.bool (.sym (¬ p))))
    | _ => Stuck 224)
  | .str s, .strS l => (match op with
    | .eql => textEqS (.str s) (.strS l) fun p => K (SEff.pure (.bool (.sym p)))
    | .neq => textEqS (.str s) (.strS l) fun p => K (SEff.pure (.bool (.sym (¬ p))))
    | _ => Stuck 225)
  | .slI _ cs n _, .nilSl => bif sliceTy P ty then (match op with
    | .eql => nonE cs n (K (SEff.pure (.bool (.lit false))))
    | .neq => nonE cs n (K (SEff.pure (.bool (.lit true))))
    | _ => Stuck 275) else Stuck 276
  | _, _ => pureS P t o K
def builtinS (cx : SCfg) (P : Program) (H : SHeap) (base : Nat) (t : List SV) (o : Oper) (b : Builtin) (args : List Operand) (ats : Array TypeId) (K : SEff → Prop) : Prop :=
  match b, args, ats.toList with
  | .append, [x, y], [ty, tyx] => (match P.underlying ty, P.underlying tyx, evalS t x, evalS t y with
    | some (.slice e), some d, some s, some v => appendS cx P H base e (isInt d) s v K
    | _, _, _, _ => Stuck 237)
  | .copy, [x, y], ty :: _ => (match P.underlying ty, evalS t x, evalS t y with
    | some (.slice e), some d, some v => copyS P H e d v K
    | _, _, _ => Stuck 238)
  | .clear, [x], ty :: _ => (match P.underlying ty, evalS t x with
    | some (.slice e), some d => clearS P H e d K
    | _, _ => Stuck 239)
  | .len, [x], [ty] => (match P.underlying ty, evalS t x with
    | some (.slice e), some v => (match lenS H v with
      | some n => K (SEff.pure (.int .i64 n.toI))
      | none => Stuck 240)
    | some .string, some (.str s) => pureS P t o K
    | _, _ => Stuck 241)
  | .min, [x, y], _ => (match evalS t x, evalS t y with
    | some (.int k a), some (.int _ b) => K (SEff.pure (.int k (SI.map2 (fun a b => if b < a then b else a) a b)))
    | _, _ => Stuck 242)
  | .max, [x, y], _ => (match evalS t x, evalS t y with
    | some (.int k a), some (.int _ b) => K (SEff.pure (.int k (SI.map2 (fun a b => if b > a then b else a) a b)))
    | _, _ => Stuck 243)
  | _, _, _ => Stuck 244
def resolveS (P : Program) (t : List SV) (c : Call) : Option (FuncId × List SV) :=
  match evalSL t c.args.toList with
  | some vs => match c.callee with
    | .value x => match evalS t x with
      | some (.func (.func f) first captured) => if okFn P f = true then some (f, first ++ vs ++ captured) else none
      | _ => none
    | .invoke x name => match evalS t x with
      | some (.iface ty v) => match methodV P ty name with
        | some f => if okFn P f = true then some (f, v :: vs) else none
        | none => none
      | _ => none
    | .builtin _ => none
  | none => none
def textS (c : SC) (K : SV → Prop) : Prop :=
  match c with
  | .lit l => (match sints l with
    | some (ns, b) => K (bif b then .str (strOfNums ns) else .strS ns)
    | none => Stuck 248)
  | .rows r k d fl xs => ∃ ns, SC.rows r k d fl xs = bytesC ns ∧ K (.strS ns)
def isU8 (P : Program) (e : TypeId) : Bool := match P.underlying e with | some (.int .u8) => true | _ => false
def convS (P : Program) (H : SHeap) (base : Nat) (src dst : TypeId) (ds dd : TypeDesc) (s : SV) (K : SEff → Prop) : Prop :=
  match dd with
  | .int k => (match s with
    | .int _ n => K (SEff.pure (.int k (match n with | .lit n => .lit (k.wrap n) | .sym n => .sym (k.wrap n))))
    | _ => Stuck 249)
  | .string => (match ds with
    | .slice e => (match s with
      | .str _ => Stuck 258
      | s => bif isU8 P e then rowS H 1 s fun c n => textS c fun s => K (SEff.pure s) else Stuck 250)
    | _ => Stuck 251)
  | .slice e' => (match ds with
    | .string => (match s with
      | .str s => bif isU8 P e' then K ⟨.slB base (.lit 0) 1 0 (.lit s.size), [], [⟨.lit (s.data.toList.map fun b => .int .u8 (.lit b.toNat)), 1, 0, false, false⟩]⟩ else Stuck 252
      | _ => Stuck 253)
    | .slice e => (match s with
      | .slI true (.lit (v :: cs)) (.lit (n + 1)) tight => bif isU8 P e && Nat.beq src dst then K (SEff.pure (.slI true (.lit (v :: cs)) (.lit (n + 1)) tight)) else Stuck 254
      | _ => Stuck 255)
    | _ => Stuck 256)
  | _ => Stuck 257
/-- All bits of a number turned. -/
def complI (k : IntKind) (n : Int) : Int := k.wrap ((BitVec.ofInt k.bits (if k.signed then -1 else k.max) ^^^ BitVec.ofInt k.bits n).toNat : Int)
def sop (cx : SCfg) (P : Program) (call : SCall) (H : SHeap) (base : Nat) (t : List SV) (o : Oper) (K : SEff → Prop) : Prop :=
  match o.op with
  | .move x => (match evalS t x with | some v => K (SEff.pure v) | none => Stuck 89)
  | .assign x => (match evalS t x with | some v => K (SEff.pure v) | none => Stuck 90)
  | .pick c x y => (match evalS t c, evalS t x, evalS t y with
    | some (.bool b), some x, some y => bra b (K (SEff.pure x)) (K (SEff.pure y))
    | _, _, _ => Stuck 91)
  | .alloc ty => (match zeroS P ty with
    | some z => K ⟨.ptrB base (.lit 0) 0 0 0, [], [⟨.lit z, 0, 0, false, false⟩]⟩
    | none => Stuck 92)
  | .box ty x => (match evalS t x with
    | some v => bif sones v.cells then K ⟨.ptrB base (.lit 0) 0 0 0, [], [⟨.lit v.cells, 0, 0, false, false⟩]⟩ else Stuck 93
    | none => Stuck 94)
  | .build ty parts => (match buildS P t ty parts with | some v => K (SEff.pure v) | none => Stuck 95)
  | .buildSlice ty len parts => (match buildSliceS P t ty len parts with | some v => K (SEff.pure v) | none => Stuck 96)
  | .load ty x => (match evalS t x with
    | some p => loadS P H ty p fun v => K (SEff.pure v)
    | none => Stuck 97)
  | .store ty x y => (match evalS t x, evalS t y with
    | some p, some v => storeS P H ty p v K
    | _, _ => Stuck 98)
  | .nilCheck x => (match evalS t x with
    | some p => ptrAddS H p 0 fun _ => K (SEff.pure p)
    | none => Stuck 99)
  | .convert src dst x => (match P.underlying src, P.underlying dst, evalS t x with
    | some ds, some dd, some s => convS P H base src dst ds dd s K
    | _, _, _ => Stuck 247)
  | .makeInterface ty x => (match P.underlying ty, evalS t x with
    | some (.interface _), _ => Stuck 105
    | some _, some v => K (SEff.pure (.iface ty v))
    | _, _ => Stuck 106)
  | .makeFunc fn first captured => (match evalSL t first.toList, evalSL t captured.toList with
    | some f, some c => K (SEff.pure (.func fn f c))
    | _, _ => Stuck 107)
  | .makeSlice ty x y => (match P.underlying ty, evalS t x, evalS t y with
    | some (.slice e), some (.int _ l), some (.int _ c) => (match zeroS P e, P.info? e with
      | some z, some i => bif Nat.ble i.bytes 256 then req (SI.le (.lit 0) l) (req (SI.le l c) (req (SI.le c (.lit 1099511627776)) (makeS cx P e l.toN z fun cs => K ⟨.slB base (.lit 0) (slen z) 0 l.toN, [], [⟨cs, slen z, 0, false, false⟩]⟩))) else Stuck 108
      | _, _ => Stuck 109)
    | _, _, _ => Stuck 110)
  | .slice ty x lo hi mx => (match P.underlying ty, evalS t x, optS t lo, optS t hi, optS t mx with
    | some (.slice e), some s, some l, some h, some m => (match tySz P e with
      | some (_, k) => cutS H k s l h m fun v => K (SEff.pure v)
      | none => Stuck 111)
    | _, _, _, _, _ => Stuck 112)
  | .fieldAddr s x f => (match evalS t x, fieldOff P s f with
    | some p, some (off, _) => ptrAddS H p off fun v => K (SEff.pure v)
    | _, _ => Stuck 113)
  | .field s x f => (match P.underlying s, evalS t x with
    | some (.struct fs), some (.agg cs) => (match fs[f]? with
      | some fl => partS P fl.type cs fl.offset fun v => K (SEff.pure v)
      | none => Stuck 114)
    | _, _ => Stuck 115)
  | .indexAddr s x y => (match evalS t x, evalS t y with
    | some p, some (.int _ i) => idxAddrS P H s p i fun v => K (SEff.pure v)
    | _, _ => Stuck 116)
  | .index s x y => (match P.underlying s, evalS t x, evalS t y with
    | some (.array n e), some (.agg cs), some (.int _ i) => (match tySz P e with
      | some (_, k) => req (SI.le (.lit 0) i) (req (SI.lt i (.lit (n : Int))) (caseN i.toN n fun j => partS P e cs (j * k) fun v => K (SEff.pure v)))
      | none => Stuck 117)
    | _, _, _ => Stuck 245)
  | .extract x i => (match evalS t x with
    | some (.tup vs) => (match vs[i]? with | some v => K (SEff.pure v) | none => Stuck 118)
    | _ => Stuck 119)
  | .call c => (match c.callee with
    | .builtin b => builtinS cx P H base t o b c.args.toList c.argTypes K
    | _ => (match resolveS P t c with
      | some (f, vs) => scallE call H base f vs K
      | none => Stuck 120))
  | .binOp op ty x y _ => (match evalS t x, evalS t y with
    | some a, some b => binOpS P t o op ty a b K
    | _, _ => Stuck 121)
  | .unOp op ty x => (match op, evalS t x with
    | .not, some (.bool (.sym p)) => K (SEff.pure (.bool (.sym (¬ p))))
    | .xor, some (.int k (.sym n)) => K (SEff.pure (.int k (.sym (complI k n))))
    | _, _ => pureS P t o K)
  | _ => pureS P t o K

/-! The machine. -/
structure SSt where
  t : List SV
  H : SHeap
  nx : Nat
abbrev SKont := Ex → SSt → Prop
/-- What is known of a loop. -/
structure SLoop where
  f : FuncId
  k : Nat
  C : SSt → SKont → Prop
/-- The loops of a code, the outer ones first. -/
def loopsIn : Code → List Code
  | .seq x y => loopsIn x ++ loopsIn y
  | .cond _ x y => loopsIn x ++ loopsIn y
  | .block _ b => loopsIn b
  | .scope b => loopsIn b
  | .loop b => b :: loopsIn b
  | _ => []
def loopBody (P : Program) (f : FuncId) (k : Nat) : Code := match bodyOf P f with
  | some (_, c) => ((loopsIn c)[k]?).getD .skip
  | none => .skip
structure SameCode (a b : Code) : Prop where
  eq : a = b
structure SX where
  row : TypeId → Option SRow
  ct : FuncId → Option SCall
  loop : Nat → Option SLoop
def SX.cfg (sx : SX) : SCfg := ⟨sx.row⟩
def putS (t : List SV) (d : Option Tmp) (v : SV) : List SV :=
  match d with
  | some d => ssetn t d v
  | none => t
def wantedS (ops : List Oper) (t : List SV) (o : Oper) (K : Bool → List SV → Prop) : Prop :=
  match o.guard with
  | none => K true t
  | some (j, want) => match (ops[j]?).bind (·.dst) with
    | some d => match snth t d with
      | .bool (.lit b) => K (b == want) t
      | .bool (.sym p) => (p → K want (ssetn t d (.bool (.lit true)))) ∧ (¬ p → K (!want) (ssetn t d (.bool (.lit false))))
      | .tup [] => K false t
      | _ => Stuck 122
    | none => K false t
def sharedS (P : Program) (cf : Cfg) (t : List SV) (o : Oper) : Option (FuncId × List SV) :=
  match o.op with
  | .call c => match c.callee with
    | .builtin _ => none
    | _ => match resolveS P t c with
      | some (f, vs) => if cf.shared f then some (f, vs) else none
      | none => none
  | _ => none
abbrev SShare := FuncId → List SV → SHeap → Nat → (SV → SHeap → Nat → Prop) → Prop
def sstep (sx : SX) (P : Program) (cf : Cfg) (call : SCall) (sh : SShare) (ops : List Oper) (st : SSt) (o : Oper) (K : SSt → Prop) : Prop :=
  wantedS ops st.t o fun w t => bif w then
    (match sharedS P cf t o with
    | some (f, vs) => sh f vs st.H st.nx fun v H' nx' => K ⟨putS t o.dst v, H', nx'⟩
    | none => sop sx.cfg P call st.H st.nx t o fun e => K ⟨putS t o.dst e.v, sapply st.H st.nx e, st.nx + e.new.length⟩)
  else K ⟨putS t o.dst (.tup []), st.H, st.nx⟩
def sseq (sx : SX) (P : Program) (cf : Cfg) (call : SCall) (sh : SShare) (ops l : List Oper) (st : SSt) (K : SSt → Prop) : Prop :=
  List.rec (motive := fun _ => SSt → Prop) K (fun o _ ih st => sstep sx P cf call sh ops st o ih) l st
/-- What an operation of a region that draws its order has made and written. -/
structure SRec where
  base : Nat
  eff : SEff
  fr : Bool
  ld : Option Nat
def SEff.w (e : SEff) : Bool := match e.wr with | [] => false | _ => true
def rlen (l : List SRec) : Nat := List.rec (motive := fun _ => Nat) 0 (fun _ _ ih => Nat.succ ih) l
/-- The heap behind those of these operations (the last is the first) that are chosen. -/
def sheapM (H0 : SHeap) (D : Nat → Bool) : List SRec → SHeap
  | [] => H0
  | r :: rest => bif D (rlen rest) then sapply (sheapM H0 D rest) r.base r.eff else sheapM H0 D rest
/-- All that does anything is among these. -/
def ldOK (ws : List (Nat × SBlk)) (ld : Option Nat) : Bool := match ld with | some b => ws.all (fun p => !Nat.beq p.1 b) | none => false
def fullX (D : Nat → Bool) (ws : List (Nat × SBlk)) : List SRec → Bool
  | [] => true
  | r :: rest => (D (rlen rest) || r.fr || ldOK ws r.ld) && fullX D ws rest
/-- One that writes, and all that comes ahead of it, comes ahead. -/
def seenM (D : Nat → Bool) : List SRec → Bool
  | [] => true
  | r :: rest => (bif r.eff.w then D (rlen rest) && fullX D r.eff.wr rest else true) && seenM D rest
def SEff.nil (e : SEff) : Bool := match e.wr, e.new with | [], [] => true | _, _ => false
/-- The block that a load looks at. -/
def loadSB (H : SHeap) (t : List SV) (o : Oper) : Option Nat :=
  match o.op with
  | .load _ x => (match evalS t x with
    | some (.ptrB b _ _ _ ver) => (match sget H b with
      | some blk => bif Nat.beq blk.ver ver then some b else none
      | none => none)
    | _ => none)
  | .fieldAddr _ x _ => (match evalS t x with
    | some (.ptrB b _ _ _ ver) => (match sget H b with
      | some blk => bif Nat.beq blk.ver ver then some b else none
      | none => none)
    | _ => none)
  | _ => none
def sfwd (sx : SX) (P : Program) (cf : Cfg) (call : SCall) (ops : List Oper) (ms : List Nat) (H0 : SHeap) (K : SSt → Prop) (l : List Oper) (i : Nat) (recs : List SRec) (t : List SV) (nx : Nat) : Prop :=
  List.rec (motive := fun _ => Nat → List SRec → List SV → Nat → Prop) (fun _ recs t nx => K ⟨t, sheapM H0 (fun _ => true) recs, nx⟩) (fun o _ ih i recs t nx =>
    bif seenM (bitM ms i) recs then
      wantedS ops t o fun w t => bif w then
        (match sharedS P cf t o with
        | some _ => Stuck 260
        | none => sop sx.cfg P call (sheapM H0 (bitM ms i) recs) nx t o fun e =>
          bif (bif e.w then fullX (bitM ms i) e.wr recs else true) then ih (i + 1) (⟨nx, e, freeOp o && e.nil, bif e.nil then loadSB (sheapM H0 (bitM ms i) recs) t o else none⟩ :: recs) (putS t o.dst e.v) (nx + e.new.length) else Stuck 261)
      else ih (i + 1) (⟨nx, SEff.pure (.tup []), true, none⟩ :: recs) (putS t o.dst (.tup [])) nx
    else Stuck 262) l i recs t nx
def sdraw (sx : SX) (P : Program) (cf : Cfg) (call : SCall) (ops : List Oper) (st : SSt) (K : SSt → Prop) : Prop :=
  bif drawOK ops (masks ops []) then sfwd sx P cf call ops (masks ops []) st.H K ops 0 [] st.t st.nx else Stuck 263

def sresults (P : Program) (t : List SV) (H : SHeap) : List ResultVar → (List SV → Prop) → Prop
  | [], K => K []
  | .tmp i :: r, K => sresults P t H r fun vs => K (snth t i :: vs)
  | .cell a ty :: r, K => loadS P H ty (snth t a) fun v => sresults P t H r fun vs => K (v :: vs)
def sresult (vs : List SV) : SV := match vs with | [v] => v | vs => .tup vs
def sframe (fn : Func) (vs : List SV) : List SV := vs ++ List.replicate (fn.ntmps - slen vs) (.tup [])

/-! Rows that go back and may be written on. -/
def stopIds : SV → List (Nat × SN × Nat × Nat × SN)
  | .slB b e k ver n => [(b, e, k, ver, n)]
  | .agg cs => cs.filterMap fun | .slB b e k ver n => some (b, e, k, ver, n) | _ => none
  | _ => []
def sallIds : SV → List (Nat × SN × Nat × Nat × SN)
  | .tup vs => vs.flatMap stopIds
  | v => stopIds v
def shrem : SHeap → List Nat → SHeap
  | [], _ => []
  | (b, x) :: r, X => bif X.contains b then shrem r X else (b, x) :: shrem r X
def sexpC (H : SHeap) (ids : List Nat) (base : Nat) (v : SV) (K : SV → Prop) : Prop :=
  match v with
  | .slB b _ k _ n => (match idxN ids b 0 with
    | some j => K (.slB (base + j) (.lit 0) k 0 n)
    | none => Stuck 127)
  | v => sreify H true 50 v fun v _ => K v
def sexpL (f : SV → (SV → Prop) → Prop) : List SV → (List SV → Prop) → Prop
  | [], K => K []
  | v :: r, K => f v fun x => sexpL f r fun xs => K (x :: xs)
def sexpT (H : SHeap) (ids : List Nat) (base : Nat) (v : SV) (K : SV → Prop) : Prop :=
  match v with
  | .agg cs => sexpL (sexpC H ids base) cs fun cs => K (.agg cs)
  | v => sexpC H ids base v K
def sexpV (H : SHeap) (ids : List Nat) (base : Nat) (v : SV) (K : SV → Prop) : Prop :=
  match v with
  | .tup vs => sexpL (sexpT H ids base) vs fun vs => K (.tup vs)
  | v => sexpT H ids base v K
def sexpB (H L : SHeap) : List (Nat × SN × Nat × Nat × SN) → (List SBlk → Prop) → Prop
  | [], K => K []
  | (b, e, k, ver, n) :: r, K => match sget H b with
    | some blk => bif Nat.beq blk.ver ver && !blk.fz && Nat.beq blk.k k && !blk.lz then blk.cells.cut k e n fun c => c.reify 50 (sreify L true 50) fun c _ => sexpB H L r fun bs => K (⟨c, k, 0, false, false⟩ :: bs) else Stuck 128
    | none => Stuck 129
def sexportT (H : SHeap) (base : Nat) (v : SV) (K : SV → List SBlk → Prop) : Prop :=
  (fun qs => (fun ids => bif nodupB ids then (fun L => sexpV L ids base v fun v' => sexpB H L qs fun bs => K v' bs) (shrem H ids) else Stuck 130) (qs.map (·.1))) (sallIds v)

/-! Values that are worked out, ahead of what comes behind. -/
def forceN (a : Nat) (K : Nat → Prop) : Prop := Nat.rec (motive := fun _ => Prop) (K 0) (fun m _ => K (m + 1)) a
def forceB (b : Bool) (K : Bool → Prop) : Prop := match b with | true => K true | false => K false
def forceI (n : Int) (K : Int → Prop) : Prop := match n with | .ofNat a => forceN a fun a => K (.ofNat a) | .negSucc a => forceN a fun a => K (.negSucc a)
def forceSN (n : SN) (K : SN → Prop) : Prop := match n with | .lit a => forceN a fun a => K (.lit a) | .sym a => K (.sym a)
def forceVL (f : SV → (SV → Prop) → Prop) : List SV → (List SV → Prop) → Prop
  | [], K => K []
  | v :: r, K => f v fun v => forceVL f r fun r => K (v :: r)
def forceC (f : SV → (SV → Prop) → Prop) (c : SC) (K : SC → Prop) : Prop := match c with | .lit l => forceVL f l fun l => K (.lit l) | .rows e k d fl xs => K (.rows e k d fl xs)
def forceV : Nat → SV → (SV → Prop) → Prop
  | 0, v, K => K v
  | n + 1, v, K => match v with
    | .int k i => (match i with | .lit m => forceI m fun m => K (.int k (.lit m)) | .sym e => K (.int k (.sym e)))
    | .bool b => (match b with | .lit x => forceB x fun x => K (.bool (.lit x)) | .sym p => K (.bool (.sym p)))
    | .agg cs => forceVL (forceV n) cs fun cs => K (.agg cs)
    | .tup cs => forceVL (forceV n) cs fun cs => K (.tup cs)
    | .iface t v => forceV n v fun v => K (.iface t v)
    | .func fn a b => forceVL (forceV n) a fun a => forceVL (forceV n) b fun b => K (.func fn a b)
    | .ptrI fr ex c => forceB fr fun fr => forceB ex fun ex => forceC (forceV n) c fun c => K (.ptrI fr ex c)
    | .ptrB b e k f ver => forceN b fun b => forceSN e fun e => forceN k fun k => forceN f fun f => forceN ver fun ver => K (.ptrB b e k f ver)
    | .slI fr c m tt => forceB fr fun fr => forceC (forceV n) c fun c => forceSN m fun m => forceB tt fun tt => K (.slI fr c m tt)
    | .slB b e k ver m => forceN b fun b => forceSN e fun e => forceN k fun k => forceN ver fun ver => forceSN m fun m => K (.slB b e k ver m)
    | v => K v
def forceH : SHeap → (SHeap → Prop) → Prop
  | [], K => K []
  | (b, x) :: r, K => forceN b fun b => forceC (forceV 12) x.cells fun c => forceN x.k fun k => forceN x.ver fun ver => forceB x.fz fun fz => forceB x.lz fun lz => forceH r fun r => K ((b, ⟨c, k, ver, fz, lz⟩) :: r)
def SSt.force (st : SSt) (K : SSt → Prop) : Prop := forceVL (forceV 12) st.t fun t => forceH st.H fun H => forceN st.nx fun nx => K ⟨t, H, nx⟩
/-- What is known of a condition behind a look at it. -/
def SSt.know (st : SSt) (c : Operand) (b : Bool) : SSt :=
  match c with
  | .tmp i => ⟨ssetn st.t i (.bool (.lit b)), st.H, st.nx⟩
  | _ => st
abbrev SExec := Code → SSt → SKont → Prop
def firstId : Code → Option Nat
  | .region id _ _ => some id
  | .seq x y => (firstId x).or (firstId y)
  | .block _ b => firstId b
  | .loop b => firstId b
  | .scope b => firstId b
  | _ => none
def scallI (sx : SX) (P : Program) (cf : Cfg) (ih : SExec) : SCall := fun f base vs K =>
  match sx.ct f with
  | some C => C f base vs K
  | none => match cf.ext f with
    | some _ => Stuck 131
    | none => match bodyOf P f with
      | some (fn, c) => ih c ⟨sframe fn vs, [], 0⟩ fun ex st => match ex with
        | .exit _ => Stuck 132
        | _ => sresults P st.t st.H fn.results.toList fun vs => bif cf.thaw f then sexportT st.H base (sresult vs) K else sreify st.H true 50 (sresult vs) fun v _ => K v []
      | none => Stuck 133
def scallS (P : Program) (ih : SExec) : SShare := fun f vs H nx K =>
  match bodyOf P f with
  | some (fn, c) => ih c ⟨sframe fn vs, H, nx⟩ fun ex st => match ex with
    | .exit _ => Stuck 134
    | _ => sresults P st.t st.H fn.results.toList fun vs => K (sresult vs) st.H st.nx
  | none => Stuck 135
def siter (f : SSt → SKont → Prop) (n : Nat) (st : SSt) (K : SKont) : Prop :=
  Nat.rec (motive := fun _ => SSt → Prop) (fun _ => Stuck 136) (fun _ ih st => f st fun ex st' => match ex with
    | .normal => ih st'
    | ex => K ex st') n st
def sexecStep (sx : SX) (P : Program) (cf : Cfg) (n : Nat) (ih : SExec) : SExec := fun c st K =>
  match c with
  | .skip => K .normal st
  | .label _ => K .normal st
  | .region _ ops draw => bif draw then sdraw sx P cf (scallI sx P cf ih) ops.toList st (fun st => st.force (K .normal)) else sseq sx P cf (scallI sx P cf ih) (scallS P ih) ops.toList ops.toList st (fun st => st.force (K .normal))
  | .seq x y => ih x st fun ex st' => (match ex with
    | .normal => ih y st' K
    | ex => K ex st')
  | .cond c x y => (match evalS st.t c with
    | some (.bool (.lit b)) => bif b then ih x st K else ih y st K
    | some (.bool (.sym p)) => (p → ih x (st.know c true) K) ∧ (¬ p → ih y (st.know c false) K)
    | _ => Stuck 137)
  | .block id body => ih body st fun ex st' => (match ex with
    | .exit id' => bif Nat.beq id' id then K .normal st' else K (.exit id') st'
    | ex => K ex st')
  | .loop body => (match (firstId body).bind sx.loop with
    | some L => SameCode (loopBody P L.f L.k) body ∧ L.C st K
    | none => siter (ih body) n st K)
  | .scope body => ih body st K
  | .exit id => K (.exit id) st
  | .ret => K .ret st
  | _ => Stuck 138
def sexec (sx : SX) (P : Program) (cf : Cfg) (m : Nat) : SExec := Nat.rec (motive := fun _ => SExec) (fun _ _ _ => Stuck 139) (fun n ih => sexecStep sx P cf n ih) m

end
end Go.Proofs.Ytnnfcebnmogdmaa.VM
/- Values with labels: how heaps stand to each other. No conditions. -/
namespace Go.Proofs.Ytnnfcebnmogdmaa.VM
set_option linter.unusedSimpArgs false
set_option linter.unusedVariables false
open Go Go.RowKit
noncomputable section

@[simp] theorem SI.val_lit (n : Int) : (SI.lit n).val = n := rfl
@[simp] theorem SI.val_sym (n : Int) : (SI.sym n).val = n := rfl
@[simp] theorem SN.val_lit (n : Nat) : (SN.lit n).val = n := rfl
@[simp] theorem SN.val_sym (n : Nat) : (SN.sym n).val = n := rfl
theorem rdrop_eq {α : Type} (e : SN) (xs : List α) : rdrop e xs = xs.drop e.val := by
  unfold rdrop
  split
  · rfl
  · rfl
theorem req_of {b : SB} {K : Prop} (h : req b K) : b.holds ∧ K := by
  unfold req at h
  split at h
  · exact ⟨rfl, h⟩
  · cases h
  · exact h
theorem bra_of {b : SB} {K1 K2 : Prop} (h : bra b K1 K2) : (b.holds ∧ K1) ∨ (¬ b.holds ∧ K2) := by
  unfold bra at h
  split at h
  · exact .inl ⟨rfl, h⟩
  · exact .inr ⟨by simp [SB.holds], h⟩
  · rename_i p
    by_cases hp : p
    · exact .inl ⟨hp, h.1 hp⟩
    · exact .inr ⟨hp, h.2 hp⟩
theorem SB.not_holds (b : SB) : b.not.holds ↔ ¬ b.holds := by
  cases b with
  | lit b => cases b <;> simp [SB.not, SB.holds]
  | sym p => simp [SB.not, SB.holds]
theorem SI.lt_holds (a b : SI) : (SI.lt a b).holds ↔ a.val < b.val := by
  cases a <;> cases b <;> simp [SI.lt, SB.holds, SI.val]
theorem SI.le_holds (a b : SI) : (SI.le a b).holds ↔ a.val ≤ b.val := by
  cases a <;> cases b <;> simp [SI.le, SB.holds, SI.val]
theorem SI.eq_holds (a b : SI) : (SI.eq a b).holds ↔ a.val = b.val := by
  cases a <;> cases b <;> simp [SI.eq, SB.holds, SI.val]
theorem SN.le_holds (a b : SN) : (SN.le a b).holds ↔ a.val ≤ b.val := by
  cases a <;> cases b <;> simp [SN.le, SB.holds, SN.val]
theorem SN.eq_holds (a b : SN) : (SN.eq a b).holds ↔ a.val = b.val := by
  cases a <;> cases b <;> simp [SN.eq, SB.holds, SN.val]
theorem SN.add_val (a b : SN) : (a.add b).val = a.val + b.val := by
  cases a with
  | lit a => cases b with
    | lit b => rfl
    | sym b => simp only [SN.add, SN.val]; cases h : Nat.beq a 0 <;> simp [SN.val]; have := Nat.eq_of_beq_eq_true h; omega
  | sym a => cases b with
    | lit b => simp only [SN.add, SN.val]; cases h : Nat.beq b 0 <;> simp [SN.val]; have := Nat.eq_of_beq_eq_true h; omega
    | sym b => rfl
theorem SN.sub_val (a b : SN) : (a.sub b).val = a.val - b.val := by
  cases a with
  | lit a => cases b with
    | lit b => rfl
    | sym b => rfl
  | sym a => cases b with
    | lit b => simp only [SN.sub, SN.val]; cases h : Nat.beq b 0 <;> simp [SN.val]; have := Nat.eq_of_beq_eq_true h; omega
    | sym b => rfl
theorem SI.toN_val (a : SI) : a.toN.val = a.val.toNat := by cases a <;> rfl
theorem SN.toI_val (a : SN) : a.toI.val = (a.val : Int) := by cases a <;> rfl
theorem allN_of {m : Nat} {f : Nat → Prop} (h : allN m f) : ∀ j, j < m → f j := by
  induction m with
  | zero => intro j hj; omega
  | succ m ih =>
    intro j hj
    have h' : allN m f ∧ f m := h
    by_cases q : j = m
    · subst q; exact h'.2
    · exact ih h'.1 j (by omega)
theorem caseN_of {i : SN} {m : Nat} {K : Nat → Prop} (h : caseN i m K) : i.val < m ∧ K i.val := by
  unfold caseN at h
  split at h
  · rename_i j
    cases q : Nat.blt j m
    · rw [q] at h; cases h
    · rw [q] at h
      exact ⟨by simpa [SN.val] using q, h⟩
  · rename_i j
    exact ⟨h.1, allN_of h.2 j h.1 rfl⟩

theorem sget_cons (j : Nat) (b : SBlk) (H : SHeap) (i : Nat) : sget ((j, b) :: H) i = if i = j then some b else sget H i := by
  show (bif Nat.beq j i then some b else sget H i) = _
  cases h : Nat.beq j i
  · have : i ≠ j := fun e => by subst e; simp at h
    simp [this]
  · have : i = j := (Nat.eq_of_beq_eq_true h).symm
    simp [this]
theorem sget_sset (H : SHeap) (j : Nat) (x : SBlk) (k : Nat) : sget (sset H j x) k = if k = j then some x else sget H k := by
  induction H with
  | nil => exact sget_cons j x [] k
  | cons p r ih =>
    obtain ⟨i, b⟩ := p
    show sget (bif Nat.beq i j then (i, x) :: r else (i, b) :: sset r j x) k = _
    cases h : Nat.beq i j
    · simp only [cond_false]
      rw [sget_cons, ih, sget_cons]
      have hne : i ≠ j := fun e => by subst e; simp at h
      by_cases h1 : k = i
      · have h2 : k ≠ j := by omega
        rw [if_pos h1, if_neg h2, if_pos h1]
      · rw [if_neg h1, if_neg h1]
    · have he : i = j := Nat.eq_of_beq_eq_true h
      subst he
      simp only [cond_true]
      rw [sget_cons, sget_cons]
      by_cases h1 : k = i <;> simp [h1]

theorem snth_rel {ε : Nat → Option BE} : ∀ {t : List SV} {tv : List V}, RL ε t tv → ∀ i, RV ε (snth t i) (nth tv i)
  | _, _, .nil, i => .any _
  | _, _, .cons r s, 0 => r
  | _, _, .cons r s, i + 1 => snth_rel s i
theorem ssetn_eq : ∀ (t : List SV) (i : Nat) (x : SV), ssetn t i x = t.set i x
  | [], i, x => rfl
  | v :: r, 0, x => rfl
  | v :: r, i + 1, x => by have := ssetn_eq r i x; exact congrArg (v :: ·) this
theorem sdrop_eq : ∀ (n : Nat) (l : List SV), sdrop l n = l.drop n
  | 0, l => rfl
  | n + 1, [] => rfl
  | n + 1, x :: l => by have := sdrop_eq n l; exact this
theorem stake_eq : ∀ (n : Nat) (l : List SV), stake l n = l.take n
  | 0, l => rfl
  | n + 1, [] => rfl
  | n + 1, x :: l => by have := stake_eq n l; exact congrArg (x :: ·) this
theorem slen_eq : ∀ (l : List SV), slen l = l.length
  | [] => rfl
  | x :: l => by have := slen_eq l; exact congrArg Nat.succ this
theorem ssetCells_rel {ε : Nat → Option BE} : ∀ {vs : List SV} {cvs : List V} {l : List SV} {cl : List V} (i : Nat), RL ε vs cvs → RL ε l cl → RL ε (ssetCells l i vs) (setCells cl i cvs)
  | _, _, _, _, _, .nil, h => h
  | _, _, _, _, i, .cons r s, h => by
    rw [ssetCells, setCells, ssetn_eq]
    exact ssetCells_rel (i + 1) s (h.set i r)

mutual
theorem toS_rel {ε : Nat → Option BE} : ∀ (n : Nat) (v : V), RV ε (toS n v) v
  | 0, v => .any v
  | n + 1, v => by
    have ihl : ∀ l : List V, RL ε (l.map (toS n)) l := fun l => toSL_rel n l
    cases v <;> simp only [toS]
    case int k i => exact .int _ _ _ rfl
    case bool b => exact .bool _ _ Iff.rfl
    case str s => exact .str s
    case agg cs => exact .agg (ihl cs)
    case tup cs => exact .tup (ihl cs)
    case iface t v => exact .iface t (toS_rel n v)
    case nilIface => exact .nilIface
    case func fn f c => exact .func fn (ihl f) (ihl c)
    case nilFunc => exact .nilFunc
    case nilPtr => exact .nilPtr
    case nilSl => exact .nilSl
    all_goals exact .any _
theorem toSL_rel {ε : Nat → Option BE} : ∀ (n : Nat) (l : List V), RL ε (l.map (toS n)) l
  | n, [] => .nil
  | n, v :: l => .cons (toS_rel n v) (toSL_rel n l)
end
theorem mapS_eq {ε : Nat → Option BE} {f : SV → Option V} (hf : ∀ s v v', f s = some v → RV ε s v' → v' = v) : ∀ {l : List SV} {r r' : List V}, mapS f l = some r → RL ε l r' → r' = r
  | [], r, _, h, .nil => by cases h; rfl
  | a :: l, r, _, h, .cons q s => by
    simp only [mapS] at h
    cases h1 : f a with
    | none => rw [h1] at h; cases h
    | some b =>
      cases h2 : mapS f l with
      | none => rw [h1, h2] at h; cases h
      | some bs =>
        rw [h1, h2] at h
        cases h
        rw [hf a b _ h1 q, mapS_eq hf h2 s]
theorem toV_eq {ε : Nat → Option BE} : ∀ (n : Nat) {s : SV} {v v' : V}, toV n s = some v → RV ε s v' → v' = v
  | 0, s, v, v', h, _ => by cases h
  | n + 1, s, v, v', h, r => by
    have ih := fun s v v' => toV_eq (ε := ε) n (s := s) (v := v) (v' := v')
    cases r <;> simp only [toV] at h
    case any => cases h
    case int k i m hm =>
      cases i with
      | lit i => cases h; rw [hm]; rfl
      | sym i => cases h
    case bool b c hb =>
      cases b with
      | lit b =>
        cases h
        simp only [SB.holds] at hb
        cases c <;> cases b <;> simp_all
      | sym p => cases h
    case agg s =>
      obtain ⟨r, h1, rfl⟩ := map_some h
      rw [mapS_eq ih h1 s]
    case iface t s =>
      obtain ⟨r, h1, rfl⟩ := map_some h
      rw [ih _ _ _ h1 s]
    all_goals first | (cases h; rfl) | cases h

theorem evalS_rel {ε : Nat → Option BE} {t : List SV} {tv : List V} (ht : RL ε t tv) {x : Operand} {v : SV} (h : evalS t x = some v) : ∃ v', evalV tv x = some v' ∧ RV ε v v' := by
  cases x with
  | tmp i => cases h; exact ⟨_, rfl, snth_rel ht i⟩
  | const c =>
    simp only [evalS] at h
    obtain ⟨w, h1, rfl⟩ := mapU_some h
    exact ⟨w, h1, toS_rel 9 w⟩
  | func f => cases h; exact ⟨_, rfl, .func _ .nil .nil⟩
  | global g => cases h
theorem evalSL_rel {ε : Nat → Option BE} {t : List SV} {tv : List V} (ht : RL ε t tv) : ∀ {xs : List Operand} {vs : List SV}, evalSL t xs = some vs → ∃ vs', evalL tv xs = some vs' ∧ RL ε vs vs'
  | [], vs, h => by cases h; exact ⟨[], rfl, .nil⟩
  | x :: r, vs, h => by
    simp only [evalSL] at h
    cases h1 : evalS t x with
    | none => rw [h1] at h; cases h
    | some v =>
      cases h2 : evalSL t r with
      | none => rw [h1, h2] at h; cases h
      | some ws =>
        rw [h1, h2] at h
        cases h
        obtain ⟨v', g1, g2⟩ := evalS_rel ht h1
        obtain ⟨ws', g3, g4⟩ := evalSL_rel ht h2
        exact ⟨v' :: ws', by simp [evalL, g1, g3], .cons g2 g4⟩
inductive SPRel (ε : Nat → Option BE) : List (Nat × SV) → List (Nat × V) → Prop
  | nil : SPRel ε [] []
  | cons {i : Nat} {v : SV} {c : V} {vs : List (Nat × SV)} {cs : List (Nat × V)} : RV ε v c → SPRel ε vs cs → SPRel ε ((i, v) :: vs) ((i, c) :: cs)
theorem evalSP_rel {ε : Nat → Option BE} {t : List SV} {tv : List V} (ht : RL ε t tv) : ∀ {xs : List (Nat × Operand)} {vs : List (Nat × SV)}, evalSP t xs = some vs → ∃ vs', evalParts tv xs = some vs' ∧ SPRel ε vs vs'
  | [], vs, h => by cases h; exact ⟨[], rfl, .nil⟩
  | (i, x) :: r, vs, h => by
    simp only [evalSP] at h
    cases h1 : evalS t x with
    | none => rw [h1] at h; cases h
    | some v =>
      cases h2 : evalSP t r with
      | none => rw [h1, h2] at h; cases h
      | some ws =>
        rw [h1, h2] at h
        cases h
        obtain ⟨v', g1, g2⟩ := evalS_rel ht h1
        obtain ⟨ws', g3, g4⟩ := evalSP_rel ht h2
        exact ⟨(i, v') :: ws', by simp [evalParts, g1, g3], .cons g2 g4⟩

theorem one_rel {ε : Nat → Option BE} {s : SV} {v : V} (r : RV ε s v) (h : s.one = true) : v.one = true ∧ s.cells = [s] ∧ v.cells = [v] := by
  have hc : s.cells = [s] := by cases s <;> first | rfl | (simp only [SV.one] at h; cases h)
  have hv : v.one = true := by cases r <;> first | rfl | assumption | (simp only [SV.one] at h; cases h)
  exact ⟨hv, hc, by cases v <;> first | rfl | (simp only [V.one] at hv; cases hv)⟩
theorem sones_rel {ε : Nat → Option BE} : ∀ {l : List SV} {l' : List V}, RL ε l l' → sones l = true → l'.all V.one = true
  | _, _, .nil, _ => rfl
  | v :: l, _, .cons r s, h => by
    have h' : (bif v.one then sones l else false) = true := h
    cases q : v.one with
    | false => rw [q] at h'; cases h'
    | true =>
      rw [q] at h'
      simp only [List.all_cons, Bool.and_eq_true]
      exact ⟨(one_rel r q).1, sones_rel s h'⟩
theorem cellsV_rel {ε : Nat → Option BE} {s : SV} {v : V} (r : RV ε s v) (h : sones s.cells = true) : RL ε s.cells v.cells := by
  cases s with
  | agg cs => cases r with
    | agg q => exact q
  | any => simp [SV.cells, sones, SV.one] at h
  | tup cs => simp [SV.cells, sones, SV.one] at h
  | _ =>
    have := one_rel r rfl
    rw [this.2.1, this.2.2]
    exact .cons r .nil

/-! Blocks. -/
structure RH (ε : Nat → Option BE) (H : SHeap) (L : Heap) : Prop where
  at_ : ∀ b blk, sget H b = some blk → ∃ e, ε b = some e ∧ e.sv = blk.ver ∧ COK blk.cells ∧
    ((blk.lz = true ∧ e.act = none ∧ blk.cells.list = []) ∨ ∃ b' v' ablk, e.act = some (b', v') ∧ hget L b' = some ablk ∧ ablk.ver = v' ∧ ablk.k = blk.k ∧ (blk.fz = false → ablk.fz = false) ∧ RL ε blk.cells.list ablk.cells)
  inj : ∀ b1 b2 blk1 blk2 e1 e2 b' v1 v2, sget H b1 = some blk1 → sget H b2 = some blk2 → ε b1 = some e1 → ε b2 = some e2 → e1.act = some (b', v1) → e2.act = some (b', v2) → b1 = b2
theorem RH.upd {ε : Nat → Option BE} {H H' : SHeap} {L L' : Heap} (h : RH ε H L) {b b' : Nat} {nblk : SBlk} {ablk : Blk}
    (hs : ∀ j, sget H' j = if j = b then some nblk else sget H j) (hl : ∀ j, hget L' j = if j = b' then some ablk else hget L j)
    (hex : EX ε (updF ε b ⟨nblk.ver, some (b', ablk.ver)⟩))
    (hown : (∃ blk e0 v0, sget H b = some blk ∧ ε b = some e0 ∧ e0.act = some (b', v0)) ∨ hget L b' = none)
    (hk : ablk.k = nblk.k) (hfz : nblk.fz = false → ablk.fz = false) (hc : COK nblk.cells) (hr : RL (updF ε b ⟨nblk.ver, some (b', ablk.ver)⟩) nblk.cells.list ablk.cells) :
    RH (updF ε b ⟨nblk.ver, some (b', ablk.ver)⟩) H' L' := by
  have other : ∀ b1 blk1 e1 v1, b1 ≠ b → sget H b1 = some blk1 → ε b1 = some e1 → e1.act ≠ some (b', v1) := by
    intro b1 blk1 e1 v1 hne h1 h2 h3
    rcases hown with ⟨blk, e0, v0, g1, g2, g3⟩ | hn
    · exact hne (h.inj b1 b blk1 blk e1 e0 b' v1 v0 h1 g1 h2 g2 h3 g3)
    · obtain ⟨e, q1, _, _, q⟩ := h.at_ b1 blk1 h1
      rw [h2] at q1; cases q1
      rcases q with ⟨_, q, _⟩ | ⟨b2, v2, a2, q1, q2, _⟩
      · rw [h3] at q; cases q
      · rw [h3] at q1; cases q1
        rw [hn] at q2; cases q2
  refine ⟨fun b1 blk1 h1 => ?_, fun b1 b2 blk1 blk2 e1 e2 c v1 v2 h1 h2 h3 h4 h5 h6 => ?_⟩
  · rw [hs] at h1
    by_cases hb : b1 = b
    · rw [if_pos hb] at h1
      cases h1
      exact ⟨⟨nblk.ver, some (b', ablk.ver)⟩, by simp [updF, hb], rfl, hc, .inr ⟨b', ablk.ver, ablk, rfl, by rw [hl, if_pos rfl], rfl, hk, hfz, hr⟩⟩
    · rw [if_neg hb] at h1
      obtain ⟨e, q1, q2, q3, q4⟩ := h.at_ b1 blk1 h1
      refine ⟨e, by simp [updF, hb, q1], q2, q3, q4.imp id ?_⟩
      rintro ⟨b2, v2, a2, g1, g2, g3, g4, g5, g6⟩
      refine ⟨b2, v2, a2, g1, ?_, g3, g4, g5, g6.mono hex⟩
      rw [hl, if_neg (fun q => other b1 blk1 e v2 hb h1 q1 (by rw [g1, q]))]
      exact g2
  · rw [hs] at h1 h2
    simp only [updF] at h3 h4
    by_cases hb1 : b1 = b <;> by_cases hb2 : b2 = b
    · rw [hb1, hb2]
    · rw [if_pos hb1] at h3
      rw [if_neg hb2] at h2 h4
      cases h3
      cases h5
      exact absurd h6 (other b2 blk2 e2 v2 hb2 h2 h4)
    · rw [if_pos hb2] at h4
      rw [if_neg hb1] at h1 h3
      cases h4
      cases h6
      exact absurd h5 (other b1 blk1 e1 v1 hb1 h1 h3)
    · rw [if_neg hb1] at h1 h3
      rw [if_neg hb2] at h2 h4
      exact h.inj b1 b2 blk1 blk2 e1 e2 c v1 v2 h1 h2 h3 h4 h5 h6

/-- What an operation with labels tells of one that is carried out. -/
structure ER (ε ε' : Nat → Option BE) (H : SHeap) (L : Heap) (base vbase : Nat) (se : SEff) (e : Eff) : Prop where
  ex : EX ε ε'
  v : RV ε' se.v e.v
  heap : ∀ H' L', RH ε H' L' → (∀ p ∈ se.wr, sget H' p.1 = sget H p.1) → (∀ b, vbase ≤ b → hget L' b = none) → (∀ b, base ≤ b → ε b = none) → RH ε' (sapply H' base se) (applyL L' vbase e)
  fresh : ∀ b, ε b = none → ¬ (base ≤ b ∧ b < base + se.new.length) → ε' b = none
  wrIn : ∀ p ∈ e.wr, (hget L p.1).isSome = true
  same : se.wr = [] → ∀ b e, ε b = some e → ε' b = some e
  wrE : se.wr = [] → e.wr = []
  newE : se.wr = [] → se.new.length = e.new.length
  act : ∀ sb eb b' v0, ε sb = some eb → eb.act = some (b', v0) → ∃ eb' v1, ε' sb = some eb' ∧ eb'.act = some (b', v1)
  wrAt : ∀ p ∈ e.wr, ∃ q ∈ se.wr, ∃ blk eb v0, sget H q.1 = some blk ∧ ε q.1 = some eb ∧ eb.act = some (p.1, v0)
theorem ER.pure {ε : Nat → Option BE} {H : SHeap} {L : Heap} {base vbase : Nat} {s : SV} {v : V} (h : RV ε s v) : ER ε ε H L base vbase (SEff.pure s) (Eff.pure v) :=
  ⟨EX.refl ε, h, fun H' L' hr _ _ _ => hr, fun b hb _ => hb, fun p hp => (by cases hp), fun _ b e he => he, fun _ => rfl, fun _ => rfl, fun sb eb b' v0 h k => ⟨eb, v0, h, k⟩, fun p hp => (by cases hp)⟩
theorem ER.new1 {ε : Nat → Option BE} {H : SHeap} {L : Heap} {base vbase : Nat} {s : SV} {v : V} {c : SC} {cells : List V} {k : Nat} {fz lz : Bool} (hf : ε base = none) (hc : COK c) (hr : RL ε c.list cells)
    (hv : RV (updF ε base ⟨0, some (vbase, 0)⟩) s v) : ER ε (updF ε base ⟨0, some (vbase, 0)⟩) H L base vbase ⟨s, [], [⟨c, k, 0, fz, lz⟩]⟩ ⟨v, [], [⟨cells, k, 0, false⟩]⟩ := by
  have hex : EX ε (updF ε base ⟨0, some (vbase, 0)⟩) := fun b e he => ⟨e, by
    unfold updF
    rw [if_neg (fun q => by rw [q, hf] at he; cases he)]
    exact he, .inl rfl⟩
  refine ⟨hex, hv, fun H' L' h _ hl hs => ?_, fun b hb hn => ?_, fun p hp => (by cases hp), fun _ b e he => ?_, fun _ => rfl, fun _ => rfl, fun sb eb b' v0 h k => ⟨eb, v0, by unfold updF; rw [if_neg (fun q => by rw [q, hf] at h; cases h)]; exact h, k⟩, fun p hp => (by cases hp)⟩
  · refine RH.upd (nblk := ⟨c, k, 0, fz, lz⟩) (ablk := ⟨cells, k, 0, false⟩) h (fun j => sget_cons _ _ _ _) (fun j => ?_) hex (.inr (hl _ (Nat.le_refl _))) rfl (fun _ => rfl) hc (hr.mono hex)
    show hget ((vbase, _) :: L') j = _
    rw [hget_cons]
    rfl
  · unfold updF
    simp only [List.length_singleton] at hn
    rw [if_neg (by omega)]
    exact hb
  · unfold updF
    rw [if_neg (fun q => by rw [q, hf] at he; cases he)]
    exact he
theorem updF_self' {α : Type} {ρ : Nat → Option α} {b : Nat} {e : α} (h : ρ b = some e) : updF ρ b e = ρ := updF_self h
/-- One block is written. -/
theorem ER.wr1 {ε : Nat → Option BE} {H : SHeap} {L : Heap} {base vbase : Nat} {s : SV} {v : V} {b b' : Nat} {blk : SBlk} {ablk : Blk} {e0 : BE} {nblk : SBlk} {nab : Blk} {v0 : Nat}
    (hb : sget H b = some blk) (he : ε b = some e0) (ha : e0.act = some (b', v0)) (hab : hget L b' = some ablk)
    (hver : (nblk.ver = e0.sv ∧ nab.ver = v0) ∨ e0.sv < nblk.ver) (hk : nab.k = nblk.k) (hfz : nblk.fz = false → nab.fz = false) (hc : COK nblk.cells)
    (hr : RL ε nblk.cells.list nab.cells) (hv : RV (updF ε b ⟨nblk.ver, some (b', nab.ver)⟩) s v) :
    ER ε (updF ε b ⟨nblk.ver, some (b', nab.ver)⟩) H L base vbase ⟨s, [(b, nblk)], []⟩ ⟨v, [(b', nab)], []⟩ := by
  have hex : EX ε (updF ε b ⟨nblk.ver, some (b', nab.ver)⟩) := by
    intro j e hj
    unfold updF
    by_cases q : j = b
    · subst q
      rw [he] at hj
      cases hj
      refine ⟨_, if_pos rfl, ?_⟩
      rcases hver with ⟨h1, h2⟩ | h1
      · left
        cases e0 with
        | mk sv act =>
          simp only at ha h1
          rw [h1, h2, ha]
      · exact .inr h1
    · exact ⟨e, by rw [if_neg q]; exact hj, .inl rfl⟩
  refine ⟨hex, hv, fun H' L' h hw _ _ => ?_, fun j hj _ => ?_, fun p hp => ?_, fun q => (by cases q), fun q => (by cases q), fun q => (by cases q), fun sb eb b1 v1 h k => ?_, fun p hp => ⟨(b, nblk), List.mem_singleton.2 rfl, blk, e0, v0, hb, he, by simp only [List.mem_singleton] at hp; subst hp; exact ha⟩⟩
  · have hb' : sget H' b = some blk := by rw [hw (b, nblk) (List.mem_singleton.2 rfl)]; exact hb
    refine RH.upd (nblk := nblk) (ablk := nab) h (fun j => sget_sset _ _ _ _) (fun j => ?_) hex (.inl ⟨blk, e0, v0, hb', he, ha⟩) hk hfz hc (hr.mono hex)
    show hget (hset L' b' nab) j = _
    rw [hget_hset]
    rfl
  · unfold updF
    rw [if_neg (fun q => by rw [q, he] at hj; cases hj)]
    exact hj
  · simp only [List.mem_singleton] at hp
    subst hp
    rw [hab]; rfl
  · by_cases q : sb = b
    · subst q
      rw [he] at h; cases h
      rw [ha] at k; cases k
      exact ⟨_, nab.ver, by unfold updF; exact if_pos rfl, rfl⟩
    · exact ⟨eb, v1, by unfold updF; rw [if_neg q]; exact h, k⟩
/-- A nil slice that has a label grows. -/
theorem ER.lz1 {ε : Nat → Option BE} {H : SHeap} {L : Heap} {base vbase : Nat} {s : SV} {v : V} {b : Nat} {blk : SBlk} {e0 : BE} {nblk : SBlk} {nab : Blk}
    (hb : sget H b = some blk) (he : ε b = some e0) (hna : e0.act = none) (hver : e0.sv < nblk.ver) (hk : nab.k = nblk.k) (hfz : nblk.fz = false → nab.fz = false) (hc : COK nblk.cells)
    (hr : RL ε nblk.cells.list nab.cells) (hv : RV (updF ε b ⟨nblk.ver, some (vbase, nab.ver)⟩) s v) :
    ER ε (updF ε b ⟨nblk.ver, some (vbase, nab.ver)⟩) H L base vbase ⟨s, [(b, nblk)], []⟩ ⟨v, [], [nab]⟩ := by
  have hex : EX ε (updF ε b ⟨nblk.ver, some (vbase, nab.ver)⟩) := by
    intro j e hj
    unfold updF
    by_cases q : j = b
    · subst q
      rw [he] at hj
      cases hj
      exact ⟨_, if_pos rfl, .inr hver⟩
    · exact ⟨e, by rw [if_neg q]; exact hj, .inl rfl⟩
  refine ⟨hex, hv, fun H' L' h hw hl _ => ?_, fun j hj _ => ?_, fun p hp => (by cases hp), fun q => (by cases q), fun q => (by cases q), fun q => (by cases q), fun sb eb b1 v1 h k => ⟨eb, v1, by unfold updF; rw [if_neg (fun q => by rw [q, he] at h; cases h; rw [hna] at k; cases k)]; exact h, k⟩, fun p hp => (by cases hp)⟩
  · refine RH.upd (nblk := nblk) (ablk := nab) h (fun j => sget_sset _ _ _ _) (fun j => ?_) hex (.inr (hl _ (Nat.le_refl _))) hk hfz hc (hr.mono hex)
    show hget ((vbase, _) :: L') j = _
    rw [hget_cons]
    rfl
  · unfold updF
    rw [if_neg (fun q => by rw [q, he] at hj; cases hj)]
    exact hj
end
end Go.Proofs.Ytnnfcebnmogdmaa.VM
/- Values with labels: less is known; loads, stores and addresses. No conditions. -/
namespace Go.Proofs.Ytnnfcebnmogdmaa.VM
set_option linter.unusedSimpArgs false
set_option linter.unusedVariables false
open Go Go.RowKit
noncomputable section

theorem pairL_rel {ε : Nat → Option BE} {f : SV → SV → Prop} (hf : ∀ a b v, f a b → RV ε a v → RV ε b v) : ∀ {l m : List SV} {vs : List V}, pairL f l m → RL ε l vs → RL ε m vs
  | [], [], _, _, .nil => .nil
  | a :: l, b :: m, _, h, .cons r s => .cons (hf a b _ h.1 r) (pairL_rel hf h.2 s)
  | [], _ :: _, _, h, _ => by cases h
  | _ :: _, [], _, h, _ => by cases h
theorem SB.iff_holds {a b : SB} (h : a.iff b) : a.holds ↔ b.holds := by
  cases a <;> cases b <;> simp only [SB.iff] at h <;> first | exact h | (subst h; exact Iff.rfl)
def cle (n : Nat) (c d : SC) : Prop :=
  match c, d with
  | .lit l, .lit l' => pairL (sle n) l l'
  | .lit l, .rows e k d fl xs => ROK e k d fl ∧ pairL (sle n) l (xs.flatMap e)
  | .rows e k d fl xs, .lit l => pairL (sle n) (xs.flatMap e) l
  | a, b => a = b
theorem cle_rel {ε : Nat → Option BE} {n : Nat} (hf : ∀ a b v, sle n a b → RV ε a v → RV ε b v) {c d : SC} (h : cle n c d) : (COK c → COK d) ∧ ∀ vs, RL ε c.list vs → RL ε d.list vs := by
  unfold cle at h
  split at h
  · exact ⟨fun _ => trivial, fun vs r => pairL_rel hf h r⟩
  · exact ⟨fun _ => h.1, fun vs r => pairL_rel hf h.2 r⟩
  · exact ⟨fun _ => trivial, fun vs r => pairL_rel hf h r⟩
  · rw [h]; exact ⟨id, fun _ r => r⟩
theorem bb {a b c d : Bool} (h : ((!a || b) && (!c || d)) = true) : (a = true → b = true) ∧ (c = true → d = true) := by
  revert h; cases a <;> cases b <;> cases c <;> cases d <;> simp
theorem bif_of {b : Bool} {K : Prop} {n : Nat} (h : bif b then K else Stuck n) : b = true ∧ K := by
  cases b with
  | true => exact ⟨rfl, h⟩
  | false => cases h
theorem if_of {c : Prop} [Decidable c] {K : Prop} {n : Nat} (h : if c then K else Stuck n) : c ∧ K := by
  split at h
  · exact ⟨by assumption, h⟩
  · cases h
theorem sle_rel {ε : Nat → Option BE} : ∀ (n : Nat) (a b : SV) (v : V), sle n a b → RV ε a v → RV ε b v
  | 0, _, _, _, h, _ => by cases h
  | n + 1, a, b, v, h, r => by
    have ih := sle_rel (ε := ε) n
    have ihl := fun {l m : List SV} {vs : List V} => pairL_rel (ε := ε) ih (l := l) (m := m) (vs := vs)
    cases b
    case any => exact .any v
    case int l y =>
      cases a <;> simp only [sle] at h <;> try cases h
      obtain ⟨hk, h'⟩ := if_of h
      clear h
      subst hk
      cases r with
      | int _ _ m hm => exact .int _ _ _ (hm.trans h')
    case bool y =>
      cases a <;> simp only [sle] at h <;> try cases h
      cases r with
      | bool _ c hc => exact .bool _ _ (hc.trans (SB.iff_holds h))
    case str y =>
      cases a <;> simp only [sle] at h <;> try cases h
      exact r
    case strS y =>
      cases a <;> simp only [sle] at h <;> try cases h
      · cases r; exact .strS _
      · exact r
    case agg y =>
      cases a <;> simp only [sle] at h <;> try cases h
      cases r with
      | agg s => exact .agg (ihl h s)
    case tup y =>
      cases a <;> simp only [sle] at h <;> try cases h
      cases r with
      | tup s => exact .tup (ihl h s)
    case iface t y =>
      cases a <;> simp only [sle] at h <;> try cases h
      obtain ⟨hk, h'⟩ := if_of h
      clear h
      subst hk
      cases r with
      | iface _ s => exact .iface _ (ih _ _ _ h' s)
    case nilIface => cases a <;> simp only [sle] at h <;> try cases h
                     exact r
    case func f x y =>
      cases a <;> simp only [sle] at h <;> try cases h
      rename_i h1 h2
      subst h1
      cases r with
      | func _ s1 s2 => exact .func _ (ihl h2.1 s1) (ihl h2.2 s2)
    case nilFunc => cases a <;> simp only [sle] at h <;> try cases h
                    exact r
    case nilPtr => cases a <;> simp only [sle] at h <;> try cases h
                   exact r
    case nilSl => cases a <;> simp only [sle] at h <;> try cases h
                  exact r
    case ptrI fr' ex' cs' =>
      cases a <;> simp only [sle] at h <;> try cases h
      rename_i fr ex cs
      obtain ⟨hb, h⟩ := bif_of h
      obtain ⟨h1, h2⟩ := bb hb
      obtain ⟨g1, g2⟩ := cle_rel ih (c := cs) (d := cs') h
      cases r with
      | ptrI q1 q2 q3 q4 => exact .ptrI (fun q => q1 (h1 q)) (g2 _ q2) (g1 q3) (fun q => q4 (h2 q))
    case ptrB b' e' k' f' v' =>
      cases a <;> simp only [sle] at h <;> try cases h
      rename_i b e k f v0
      obtain ⟨⟨k1, k2, k3, k4⟩, h'⟩ := if_of h
      clear h
      subst k1 k2 k3 k4
      cases r with
      | ptrB q1 q2 q3 q4 => exact .ptrB q1 q2 (by rw [← h']; exact q3) q4
    case slI fr' cs' m' tt' =>
      cases a <;> simp only [sle] at h <;> try cases h
      · rename_i h1 h2
        cases r
        exact .slIn h1 h2
      · rename_i fr cs m tt
        obtain ⟨hb, h0, h⟩ := bif_of h
        obtain ⟨h1, h2⟩ := bb hb
        obtain ⟨g1, g2⟩ := cle_rel ih (c := cs) (d := cs') h
        cases r with
        | slI q1 q2 q3 q4 q5 => exact .slI (fun q => q1 (h1 q)) (fun q => q2 (h2 q)) (q3.trans h0) (g2 _ q4) (g1 q5)
        | slIn q1 q2 => exact .slIn (h0 ▸ q1) (g1 q2)
        | slI0 q1 q2 q3 q4 => exact .slI0 (fun q => q1 (h1 q)) (fun q => q2 (h2 q)) (h0 ▸ q3) (g1 q4)
    case slB b' e' k' v' m' =>
      cases a <;> simp only [sle] at h <;> try cases h
      rename_i b e k v0 m
      obtain ⟨⟨k1, k2, k3⟩, h1, h2⟩ := if_of h
      subst k1 k2 k3
      cases r with
      | slB q1 q2 q3 q4 => exact .slB q1 q2 (by rw [← h1, ← h2]; exact q3) q4
theorem sles_rel {ε : Nat → Option BE} {l m : List SV} {vs : List V} (h : sles l m) (r : RL ε l vs) : RL ε m vs := pairL_rel (sle_rel 12) h r

section
variable {P : Program} {ε : Nat → Option BE} {H : SHeap} {L : Heap} {t : List SV} {tv : List V} {base vbase : Nat}

theorem bleT {a b : Nat} (h : Nat.ble a b = true) : a ≤ b := Nat.le_of_ble_eq_true h
theorem beqT {a b : Nat} (h : Nat.beq a b = true) : a = b := Nat.eq_of_beq_eq_true h
theorem andT {a b : Bool} (h : (a && b) = true) : a = true ∧ b = true := by simpa using h

/-- A pointer into a block that may be looked at. -/
theorem ptrB_at (hH : RH ε H L) {b k f ver : Nat} {e : SN} {v : V} {blk : SBlk} (hb : sget H b = some blk) (hv : Nat.beq blk.ver ver = true) (r : RV ε (.ptrB b e k f ver) v) :
    ∃ e0 b' v0 ablk, ε b = some e0 ∧ e0.act = some (b', v0) ∧ e0.sv = blk.ver ∧ v = .ptrB b' (e.val * k + f) v0 ∧ hget L b' = some ablk ∧ ablk.ver = v0 ∧ ablk.k = blk.k ∧ (blk.fz = false → ablk.fz = false) ∧ RL ε blk.cells.list ablk.cells ∧ COK blk.cells := by
  cases r with
  | ptrB h1 h2 h3 h4 =>
    obtain ⟨e0, q1, q2, q3, q4⟩ := hH.at_ b blk hb
    rw [h1] at q1; cases q1
    obtain ⟨b', v', g1, g2⟩ := h3 (q2.trans (beqT hv))
    rcases q4 with ⟨_, q5, _⟩ | ⟨b2, v2, ablk, q5, q6, q7, q8, q9, q10⟩
    · rw [g1] at q5; cases q5
    · rw [g1] at q5; cases q5
      exact ⟨_, b', v', ablk, h1, g1, q2, g2, q6, q7, q8, q9, q10, q3⟩
/-- A slice of a block. -/
theorem slB_at' (hH : RH ε H L) {b k ver : Nat} {e n : SN} {v : V} {blk : SBlk} (hb : sget H b = some blk) (hv : Nat.beq blk.ver ver = true) (r : RV ε (.slB b e k ver n) v) :
    ∃ e0, ε b = some e0 ∧ e0.sv = blk.ver ∧ COK blk.cells ∧ ((∃ b' v0 ablk, e0.act = some (b', v0) ∧ v = .slB b' (e.val * k) v0 n.val ∧ hget L b' = some ablk ∧ ablk.ver = v0 ∧ ablk.k = blk.k ∧ (blk.fz = false → ablk.fz = false) ∧ RL ε blk.cells.list ablk.cells) ∨
      (blk.lz = true ∧ e0.act = none ∧ v = .nilSl ∧ n.val = 0 ∧ e.val = 0 ∧ blk.cells.list = [])) := by
  cases r with
  | slB h1 h2 h3 h4 =>
    obtain ⟨e0, q1, q2, q3, q4⟩ := hH.at_ b blk hb
    rw [h1] at q1; cases q1
    refine ⟨_, h1, q2, q3, ?_⟩
    rcases h3 (q2.trans (beqT hv)) with ⟨b', v', g1, g2⟩ | ⟨g1, g2, g3, g4⟩
    · rcases q4 with ⟨_, q5, _⟩ | ⟨b2, v2, ablk, q5, q6, q7, q8, q9, q10⟩
      · rw [g1] at q5; cases q5
      · rw [g1] at q5; cases q5
        exact .inl ⟨b', v', ablk, g1, g2, q6, q7, q8, q9, q10⟩
    · rcases q4 with ⟨q5, _, q6⟩ | ⟨b2, v2, ablk, q5, _⟩
      · exact .inr ⟨q5, g1, g2, g3, g4, q6⟩
      · rw [g1] at q5; cases q5

theorem COK.len {α : Type} {e : α → List SV} {k d : Nat} {fl : Bool} {xs : List α} (h : COK (.rows e k d fl xs)) : ∀ x, (e x).length = k := fun x => (h x).1
/-- Rows' cells, from one thing on. -/
theorem rows_at {α : Type} {r : α → List SV} {k d : Nat} {fl : Bool} {xs : List α} (hc : COK (.rows r k d fl xs)) {vs : List V} (hr : RL ε (xs.flatMap r) vs) {i : Nat} {x : α} (hx : xs[i]? = some x) :
    ∃ as bs, vs.drop (i * k) = as ++ bs ∧ RL ε (r x) as ∧ as.length = k := by
  have h1 := hr.drop (i * k)
  rw [flat_drop hc.len] at h1
  have hi : i < xs.length := by
    rcases Nat.lt_or_ge i xs.length with q | q
    · exact q
    · rw [List.getElem?_eq_none q] at hx; cases hx
  rw [List.drop_eq_getElem_cons hi, List.flatMap_cons] at h1
  have hxi : xs[i] = x := by rw [List.getElem?_eq_getElem hi] at hx; exact Option.some.inj hx
  rw [hxi] at h1
  obtain ⟨as, bs, e1, e2, e3⟩ := h1.split
  exact ⟨as, bs, e1, e2, by rw [← e2.length]; exact hc.len x⟩

/-- The cells from a pointer's on. -/
theorem cellsS_of (hH : RH ε H L) {n : Nat} {p : SV} {v : V} (r : RV ε p v) {K : List SV → Prop} (h : cellsS H n p K) :
    ∃ cs as rest, K cs ∧ cellsAt L v = some (as ++ rest) ∧ RL ε cs as ∧ n ≤ cs.length := by
  unfold cellsS at h
  split at h
  · obtain ⟨h1, h2⟩ := bif_of h
    cases r with
    | ptrI q1 q2 q3 q4 => exact ⟨_, _, _, h2, rfl, q2, by have := bleT h1; rwa [slen_eq] at this⟩
  · rename_i b e k f ver
    split at h
    · rename_i blk hb
      obtain ⟨h1, h2⟩ := bif_of h
      obtain ⟨e0, b', v0, ablk, g1, g2, g3, rfl, g5, g6, g7, g8, g9, g10⟩ := ptrB_at hH hb h1 r
      split at h2
      · rename_i cs hcs
        obtain ⟨h3, h4⟩ := caseN_of h2
        obtain ⟨h5, h6⟩ := bif_of h4
        have h7 := bleT h5
        rw [slen_eq] at h7
        rw [hcs] at g9
        have hl := g9.length
        rw [sdrop_eq] at h6
        refine ⟨_, ablk.cells.drop (e.val * k + f), [], h6, ?_, g9.drop _, by simp; omega⟩
        simp only [cellsAt, g5]
        have hl2 : cs.length = ablk.cells.length := hl
        rw [if_pos ⟨g6, by omega⟩, List.append_nil]
      · rename_i α rr k' d fl xs hcs
        obtain ⟨h3, h4, h5⟩ := bif_of h2
        have hkk := beqT h3
        subst hkk
        obtain ⟨x, hx⟩ : ∃ x, xs[e.val]? = some x := ⟨_, List.getElem?_eq_getElem h4⟩
        obtain ⟨h6, h7⟩ := bif_of (h5 x hx)
        have h8 := bleT h6
        rw [slen_eq] at h8
        rw [hcs] at g9 g10
        obtain ⟨as, bs, e1, e2, e3⟩ := rows_at g10 g9 hx
        have hl := e2.length
        have hlen : ablk.cells.length = xs.length * k' := by rw [← g9.length]; exact flat_len g10.len
        have hle : e.val * k' + k' ≤ xs.length * k' := by rw [← Nat.succ_mul]; exact Nat.mul_le_mul_right _ h4
        rw [sdrop_eq] at h7
        refine ⟨_, as.drop f, bs, h7, ?_, e2.drop f, by simp; omega⟩
        simp only [cellsAt, g5]
        rw [if_pos ⟨g6, by omega⟩, ← List.drop_drop, e1, List.drop_append_of_le_length (by omega)]
    · cases h
  · cases h
theorem loadS_of (hH : RH ε H L) {ty : TypeId} {p : SV} {v : V} (r : RV ε p v) {K : SV → Prop} (h : loadS P H ty p K) : ∃ s w, K s ∧ loadV P L ty v = some w ∧ RV ε s w := by
  unfold loadS at h
  split at h
  · rename_i g n hz
    obtain ⟨cs, as, rest, h1, h2, h3, h4⟩ := cellsS_of hH r h
    have hl := h3.length
    cases g with
    | true =>
      simp only [cond_true] at h1 h4
      rw [stake_eq] at h1
      refine ⟨_, .agg ((as ++ rest).take n), h1, ?_, ?_⟩
      · simp only [loadV, hz, h2]
        rw [if_pos (by simp; omega)]
      · rw [List.take_append_of_le_length (by omega)]
        exact .agg (h3.take n)
    | false =>
      simp only [cond_false] at h1 h4
      cases h3 with
      | nil => simp at h4
      | cons q s => exact ⟨_, _, h1, by simp [loadV, hz, h2], q⟩
  · cases h

theorem setCells_eq : ∀ (vs l : List V) (p : Nat), p + vs.length ≤ l.length → setCells l p vs = l.take p ++ vs ++ l.drop (p + vs.length)
  | [], l, p, h => by simp [setCells]
  | v :: r, l, p, h => by
    simp only [List.length_cons] at h
    rw [setCells, setCells_eq r _ (p + 1) (by simp; omega)]
    have hp : p < l.length := by omega
    rw [List.take_succ_eq_append_getElem (by simpa using hp), List.take_set_of_le (Nat.le_refl _), List.getElem_set_self, List.drop_set_of_lt (by omega), List.length_cons]
    simp [Nat.add_assoc, Nat.add_comm 1]

end
end
end Go.Proofs.Ytnnfcebnmogdmaa.VM
/- Values with labels: stores, addresses, rows. No conditions. -/
namespace Go.Proofs.Ytnnfcebnmogdmaa.VM
set_option linter.unusedSimpArgs false
set_option linter.unusedVariables false
open Go Go.RowKit
noncomputable section
section
variable {P : Program} {ε : Nat → Option BE} {H : SHeap} {L : Heap} {t : List SV} {tv : List V} {base vbase : Nat}

theorem setCells_left : ∀ (vs A l : List V) (i : Nat), setCells (A ++ l) (A.length + i) vs = A ++ setCells l i vs
  | [], A, l, i => rfl
  | v :: r, A, l, i => by
    rw [setCells, setCells, List.set_append_right _ _ (by omega), Nat.add_sub_cancel_left, Nat.add_assoc, setCells_left r]
theorem setCells_right : ∀ (vs l B : List V) (i : Nat), i + vs.length ≤ l.length → setCells (l ++ B) i vs = setCells l i vs ++ B
  | [], l, B, i, _ => rfl
  | v :: r, l, B, i, h => by
    simp only [List.length_cons] at h
    rw [setCells, setCells, List.set_append_left _ _ (by omega), setCells_right r _ _ _ (by simp; omega)]
theorem undef_rv : RV ε (.tup []) (.tup []) := .tup .nil
/-- Rows, one of whose things is another. -/
theorem rows_set {α : Type} {r : α → List SV} {k d : Nat} {fl : Bool} {xs : List α} (hc : COK (.rows r k d fl xs)) {A : List V} (hr : RL ε (xs.flatMap r) A) {i : Nat} {x y : α} (hx : xs[i]? = some x) :
    ∃ as, RL ε (r x) as ∧ as.length = k ∧ ∀ (f : Nat) (vs : List V), f + vs.length ≤ k → RL ε (r y) (setCells as f vs) → RL ε ((xs.set i y).flatMap r) (setCells A (i * k + f) vs) ∧ i * k + f + vs.length ≤ A.length := by
  have hi : i < xs.length := by
    rcases Nat.lt_or_ge i xs.length with q | q
    · exact q
    · rw [List.getElem?_eq_none q] at hx; cases hx
  have hxi : xs[i] = x := by rw [List.getElem?_eq_getElem hi] at hx; exact Option.some.inj hx
  have h0 : xs = xs.take i ++ x :: xs.drop (i + 1) := by
    rw [← hxi, ← List.drop_eq_getElem_cons hi, List.take_append_drop]
  rw [h0, List.flatMap_append, List.flatMap_cons] at hr
  obtain ⟨A1, A2, rfl, r1, r2⟩ := hr.split
  obtain ⟨as, B, rfl, r3, r4⟩ := r2.split
  have hl1 : A1.length = i * k := by
    rw [← r1.length, flat_len hc.len, List.length_take, Nat.min_eq_left (Nat.le_of_lt hi)]
  have hl2 : as.length = k := by rw [← r3.length]; exact hc.len x
  refine ⟨as, r3, hl2, fun f vs hf hy => ⟨?_, by simp; omega⟩⟩
  rw [List.set_eq_take_append_cons_drop, if_pos hi, List.flatMap_append, List.flatMap_cons, ← hl1, setCells_left, setCells_right _ _ _ _ (by omega)]
  exact r1.append (hy.append r4)

theorem storeS_of (hH : RH ε H L) {ty : TypeId} {p s : SV} {vp v : V} (rp : RV ε p vp) (rv : RV ε s v) {K : SEff → Prop} (h : storeS P H ty p s K) :
    ∃ se e ε', K se ∧ storeV P L ty vp v = some e ∧ ER ε ε' H L base vbase se e ∧ e.new.length = 0 := by
  unfold storeS at h
  split at h
  · rename_i g n b e k f ver hz
    split at h
    · rename_i blk hb
      obtain ⟨h1, h2⟩ := bif_of h
      obtain ⟨h1, hone⟩ := andT h1
      obtain ⟨h1, hn⟩ := andT h1
      obtain ⟨hver, hfz⟩ := andT h1
      have hfz : blk.fz = false := by simpa using hfz
      have hn := beqT hn
      rw [slen_eq] at hn
      obtain ⟨e0, b', v0, ablk, g1, g2, g3, rfl, g5, g6, g7, g8, g9, g10⟩ := ptrB_at hH hb hver rp
      have rc := cellsV_rel rv hone
      have hlc := rc.length
      have hself : updF ε b ⟨blk.ver, some (b', ablk.ver)⟩ = ε := by
        apply updF_self'
        rw [g1]
        cases e0 with
        | mk sv act => simp only at g2 g3; rw [g2, g3, g6]
      have fin : ∀ (c : SC) (off : Nat), COK c → RL ε c.list (setCells ablk.cells off v.cells) → off + v.cells.length ≤ ablk.cells.length → off = e.val * k + f → K ⟨.tup [], [(b, blk.with c)], []⟩ →
          ∃ se e1 ε', K se ∧ storeV P L ty (.ptrB b' (e.val * k + f) v0) v = some e1 ∧ ER ε ε' H L base vbase se e1 ∧ e1.new.length = 0 := by
        intro c off hc hr hle hoff hK
        subst hoff
        refine ⟨_, ⟨.tup [], [(b', { ablk with cells := setCells ablk.cells (e.val * k + f) v.cells })], []⟩, _, hK, ?_, ER.wr1 (blk := blk) (e0 := e0) (v0 := v0) (nblk := blk.with c) (nab := { ablk with cells := setCells ablk.cells (e.val * k + f) v.cells }) hb g1 g2 g5 (.inl ⟨g3.symm, g6⟩) g7 g8 hc hr undef_rv, rfl⟩
        simp only [storeV, hz, g5]
        rw [if_pos ⟨g6, g8 hfz, by omega, by omega, sones_rel rc hone⟩]
      split at h2
      · rename_i cs hcs
        obtain ⟨h3, h4⟩ := caseN_of h2
        obtain ⟨h5, h6⟩ := bif_of h4
        have h7 := bleT h5
        rw [slen_eq] at h7
        rw [hcs] at g9
        have hl : cs.length = ablk.cells.length := g9.length
        exact fin (.lit _) _ trivial (ssetCells_rel _ rc g9) (by omega) rfl h6
      · rename_i α r k' d fl xs hcs
        obtain ⟨h3, h4, h5⟩ := bif_of h2
        have hkk := beqT h3
        subst hkk
        rw [hcs] at g9 g10
        have hx : xs[e.val]? = some xs[e.val] := List.getElem?_eq_getElem h4
        cases hq : Nat.beq f 0 && Nat.beq n k' with
        | true =>
          rw [hq] at h5
          obtain ⟨hq1, hq2⟩ := andT hq
          have hf0 := beqT hq1
          have hnk := beqT hq2
          obtain ⟨y, hy, hK⟩ := h5
          obtain ⟨as, r1, r2, r3⟩ := rows_set (y := y) g10 g9 hx
          have r4 := r3 f v.cells (by omega) (by
            rw [setCells_eq _ _ _ (by omega), hf0, List.drop_of_length_le (by omega)]
            simpa using sles_rel hy rc)
          exact fin (.rows r k' d fl (xs.set e.val y)) _ g10 r4.1 r4.2 rfl hK
        | false =>
          rw [hq] at h5
          obtain ⟨h6, h7⟩ := bif_of (h5 _ hx)
          have h8 := bleT h6
          rw [slen_eq, g10.len] at h8
          obtain ⟨y, hy, hK⟩ := h7
          obtain ⟨as, r1, r2, r3⟩ := rows_set (y := y) g10 g9 hx
          have r4 := r3 f v.cells (by omega) (sles_rel hy (ssetCells_rel _ rc r1))
          exact fin (.rows r k' d fl (xs.set e.val y)) _ g10 r4.1 r4.2 rfl hK
    · cases h
  · cases h

theorem ptrAddS_of (hH : RH ε H L) {p : SV} {v : V} (r : RV ε p v) {c : Nat} {K : SV → Prop} (h : ptrAddS H p c K) : ∃ s w, K s ∧ ptrAdd L v c = some w ∧ RV ε s w := by
  unfold ptrAddS at h
  split at h
  · rename_i fr ex cs
    cases r with
    | ptrI q1 q2 q3 q4 =>
      rename_i fr' cs' rest
      refine ⟨_, _, h, rfl, ?_⟩
      rw [sdrop_eq]
      have hl : cs.length = cs'.length := q2.length
      rw [List.drop_append]
      refine .ptrI q1 (by exact RL.drop q2 c) trivial (fun q => by rw [q4 q]; simp)
  · rename_i b e k f ver
    split at h
    · rename_i blk hb
      obtain ⟨h1, h2⟩ := bif_of h
      obtain ⟨hver, hlz⟩ := andT h1
      obtain ⟨e0, b', v0, ablk, g1, g2, g3, rfl, g5, g6, g7, g8, g9, g10⟩ := ptrB_at hH hb hver r
      refine ⟨_, .ptrB b' (e.val * k + f + c) v0, h2, by simp [ptrAdd, g5, g6], ?_⟩
      exact .ptrB g1 (by rw [g3, beqT hver]; exact Nat.le_refl _) (fun _ => ⟨b', v0, g2, by rw [Nat.add_assoc]⟩) rfl
    · cases h
  · cases h

theorem idxAddrS_of (hH : RH ε H L) {ty : TypeId} {x : SV} {v : V} (r : RV ε x v) {i : SI} {K : SV → Prop} (h : idxAddrS P H ty x i K) : ∃ s w, K s ∧ idxAddr P L ty v i.val = some w ∧ RV ε s w := by
  unfold idxAddrS at h
  unfold idxAddr
  split at h
  · rename_i el hu
    simp only [hu]
    split at h
    · rename_i g k fr cs n tt hz
      obtain ⟨h1, h⟩ := req_of h
      obtain ⟨h2, h⟩ := req_of h
      rw [SI.le_holds] at h1
      rw [SI.lt_holds, SN.toI_val] at h2
      simp only [SI.val_lit] at h1
      simp only [hz]
      cases r with
      | slIn q1 q2 => omega
      | slI0 q1 q2 q3 q4 => omega
      | slI q1 q2 q3 q4 q5 =>
        rename_i fr' tt' cs' m
        subst q3
        simp only
        rw [if_pos ⟨h1, h2⟩]
        cases cs with
        | lit l =>
          obtain ⟨h3, h4⟩ := caseN_of h
          rw [SI.toN_val] at h3 h4
          refine ⟨_, _, h4, rfl, ?_⟩
          rw [sdrop_eq]
          have := RV.ptrI (ε := ε) (ex := true) (cs := .lit (l.drop (i.val.toNat * k))) (rest := []) q1 (RL.drop q4 _) trivial (fun _ => rfl)
          rwa [List.append_nil] at this
        | rows rr k' d fl xs =>
          obtain ⟨h3, h4, h5⟩ := bif_of h
          have hkk := beqT h3
          subst hkk
          have hx : xs[i.val.toNat]? = some xs[i.val.toNat] := List.getElem?_eq_getElem h4
          obtain ⟨as, bs, e1, e2, e3⟩ := rows_at q5 q4 hx
          refine ⟨_, _, h5 _ hx, rfl, ?_⟩
          rw [e1]
          exact .ptrI q1 e2 trivial (fun q => by cases q)
    · rename_i g k b e k' ver n hz
      split at h
      · rename_i blk hb
        obtain ⟨h0, h⟩ := bif_of h
        obtain ⟨hver, hk⟩ := andT h0
        have hk := beqT hk
        subst hk
        obtain ⟨h1, h⟩ := req_of h
        obtain ⟨h2, h⟩ := req_of h
        rw [SI.le_holds] at h1
        rw [SI.lt_holds, SN.toI_val] at h2
        simp only [SI.val_lit] at h1
        obtain ⟨e0, g1, g3, gc, hq⟩ := slB_at' hH hb hver r
        rcases hq with ⟨b', v0, ablk, g2, rfl, g5, g6, g7, g8, g9⟩ | ⟨q1, q2, q3, q4, q5, q6⟩
        · refine ⟨_, .ptrB b' (e.val * k' + i.val.toNat * k') v0, h, ?_, ?_⟩
          · simp only [hz, g5]
            rw [if_pos ⟨g6, h1, h2⟩]
          · refine .ptrB g1 (by rw [g3, beqT hver]; exact Nat.le_refl _) (fun _ => ⟨b', v0, g2, ?_⟩) rfl
            rw [SN.add_val, SI.toN_val, Nat.add_mul]
            rfl
        · omega
      · cases h
    · cases h
  · rename_i n el hu
    simp only [hu]
    split at h
    · rename_i g k hz
      obtain ⟨h1, h⟩ := req_of h
      obtain ⟨h2, h⟩ := req_of h
      rw [SI.le_holds] at h1
      rw [SI.lt_holds] at h2
      simp only [SI.val_lit] at h1 h2
      obtain ⟨h3, h4⟩ := caseN_of h
      rw [SI.toN_val] at h4
      simp only [hz]
      rw [if_pos ⟨h1, h2⟩]
      exact ptrAddS_of hH r h4
    · cases h
  · cases h

theorem SC.cut_of {cs : SC} {k : Nat} {e n : SN} {K : SC → Prop} (h : cs.cut k e n K) {A : List V} (hc : COK cs) (hr : RL ε cs.list A) :
    ∃ c, K c ∧ COK c ∧ (e.val + n.val) * k ≤ A.length ∧ RL ε c.list ((A.drop (e.val * k)).take (n.val * k)) ∧ c.list.length = n.val * k := by
  have hl := hr.length
  unfold SC.cut at h
  split at h
  · rename_i l
    split at h
    · rename_i e n
      obtain ⟨h1, h2⟩ := bif_of h
      have h3 := bleT h1
      rw [slen_eq] at h3
      have hl' : l.length = A.length := hl
      refine ⟨_, h2, trivial, by simp only [SN.val]; omega, ?_, ?_⟩
      · rw [stake_eq, sdrop_eq]
        exact (hr.drop _).take _
      · show (stake (sdrop l (e * k)) (n * k)).length = _
        rw [stake_eq, sdrop_eq]
        rw [Nat.add_mul] at h3
        simp only [SN.val, List.length_take, List.length_drop]
        omega
    · cases h
  · rename_i α r k' d fl xs
    obtain ⟨h1, h2⟩ := bif_of h
    have hk := beqT h1
    subst hk
    obtain ⟨h3, h4⟩ := req_of h2
    rw [SN.le_holds, SN.add_val] at h3
    simp only [SN.val_sym] at h3
    rw [rdrop_eq] at h4
    have hl' : xs.length * k' = A.length := by rw [← hl]; exact (flat_len hc.len).symm
    refine ⟨_, h4, hc, by rw [← hl']; exact Nat.mul_le_mul_right _ h3, ?_, ?_⟩
    · show RL ε (((xs.drop e.val).take n.val).flatMap r) _
      rw [← flat_take hc.len, ← flat_drop hc.len]
      exact (hr.drop _).take _
    · show (((xs.drop e.val).take n.val).flatMap r).length = _
      rw [flat_len hc.len]
      simp only [List.length_take, List.length_drop]
      congr 1
      omega
theorem strCells_rel (s : ByteArray) : RL ε (s.data.toList.map fun b => SV.int .u8 (.lit b.toNat)) (s.data.toList.map fun b => V.int .u8 b.toNat) := by
  induction s.data.toList with
  | nil => exact .nil
  | cons b l ih => exact .cons (.int _ _ _ rfl) ih
theorem rowS_of (hH : RH ε H L) {k : Nat} {s : SV} {v : V} (r : RV ε s v) {K : SC → SN → Prop} (h : rowS H k s K) :
    ∃ c n A, K c n ∧ rowOf L k v = some (A, n.val) ∧ COK c ∧ RL ε c.list A ∧ c.list.length = n.val * k ∧ ((∃ y, s = .str y) ∨ ∀ x, v ≠ .str x) := by
  unfold rowS at h
  split at h
  · cases r
    exact ⟨_, _, [], h, rfl, trivial, .nil, by simp [SC.list, SN.val], .inr fun x q => by cases q⟩
  · rename_i fr cs n tt
    cases r with
    | slI q1 q2 q3 q4 q5 =>
      rename_i fr' tt' cs' m
      subst q3
      obtain ⟨c, h1, h2, h3, h4, h5⟩ := SC.cut_of h q5 q4
      simp only [SN.val_lit, Nat.zero_add, Nat.zero_mul, List.drop_zero] at h3 h4
      exact ⟨c, n, _, h1, by simp only [rowOf]; rw [if_pos h3], h2, h4, h5, .inr fun x q => by cases q⟩
    | slIn q1 q2 =>
      unfold SC.cut at h
      split at h
      · split at h
        · rename_i l _ _ e n' he
          obtain ⟨h1, h2⟩ := bif_of h
          cases he
          simp only [SN.val] at q1
          subst q1
          exact ⟨_, _, [], h2, rfl, trivial, by simp only [Nat.zero_mul]; exact .nil, by simp [SC.list, SN.val, stake_eq], .inr fun x q => by cases q⟩
        · cases h
      · rename_i α rr k' d fl xs
        obtain ⟨h1, h2⟩ := bif_of h
        obtain ⟨h3, h4⟩ := req_of h2
        refine ⟨_, _, [], h4, by simp [rowOf, q1], q2, ?_, ?_, .inr fun x q => by cases q⟩
        · simp only [q1, List.take_zero]; exact .nil
        · simp [SC.list, q1]
    | slI0 q1 q2 q3 q4 =>
      unfold SC.cut at h
      split at h
      · split at h
        · rename_i l _ _ e n' he
          obtain ⟨h1, h2⟩ := bif_of h
          cases he
          simp only [SN.val] at q3
          subst q3
          exact ⟨_, _, [], h2, by simp [rowOf, SN.val], trivial, by simp only [Nat.zero_mul]; exact .nil, by simp [SC.list, SN.val, stake_eq], .inr fun x q => by cases q⟩
        · cases h
      · rename_i α rr k' d fl xs
        obtain ⟨h1, h2⟩ := bif_of h
        obtain ⟨h3, h4⟩ := req_of h2
        refine ⟨_, _, [], h4, by simp [rowOf, q3], q4, ?_, ?_, .inr fun x q => by cases q⟩
        · simp only [q3, List.take_zero]; exact .nil
        · simp [SC.list, q3]
  · rename_i b e k' ver n
    split at h
    · rename_i blk hb
      obtain ⟨h1, h2⟩ := bif_of h
      obtain ⟨hver, hk⟩ := andT h1
      have hk := beqT hk
      subst hk
      obtain ⟨e0, g1, g3, gc, hq⟩ := slB_at' hH hb hver r
      rcases hq with ⟨b', v0, ablk, g2, rfl, g5, g6, g7, g8, g9⟩ | ⟨q1, q2, rfl, q4, q5, q6⟩
      · obtain ⟨c, h3, h4, h5, h6, h7⟩ := SC.cut_of h2 gc g9
        refine ⟨c, n, _, h3, ?_, h4, h6, h7, .inr fun x q => by cases q⟩
        simp only [rowOf, g5]
        rw [if_pos ⟨g6, by rw [← Nat.add_mul]; exact h5⟩]
      · obtain ⟨c, h3, h4, h5, h6, h7⟩ := SC.cut_of (A := []) (ε := ε) h2 gc (by rw [q6]; exact .nil)
        refine ⟨c, n, [], h3, by simp [rowOf, q4], h4, ?_, h7, .inr fun x q => by cases q⟩
        simpa using h6
    · cases h
  · rename_i s
    obtain ⟨h1, h2⟩ := bif_of h
    have hk := beqT h1
    subst hk
    cases r
    refine ⟨_, _, _, h2, ?_, trivial, strCells_rel s, ?_, .inl ⟨_, rfl⟩⟩
    · simp [rowOf, SN.val]
    · simp [SC.list, SN.val]
  · cases h
theorem lenS_of (hH : RH ε H L) {s : SV} {v : V} (r : RV ε s v) {n : SN} (h : lenS H s = some n) : lenV L v = some n.val ∧ ∀ x, v ≠ .str x := by
  unfold lenS at h
  split at h
  · cases h; cases r; exact ⟨rfl, fun x q => by cases q⟩
  · cases h
    cases r with
    | slI q1 q2 q3 q4 q5 => subst q3; exact ⟨rfl, fun x q => by cases q⟩
    | slIn q1 q2 => exact ⟨by rw [q1]; rfl, fun x q => by cases q⟩
    | slI0 q1 q2 q3 q4 => exact ⟨by rw [q3]; rfl, fun x q => by cases q⟩
  · rename_i b e k ver m
    split at h
    · rename_i blk h1
      cases h2 : Nat.beq blk.ver ver with
      | false => rw [h2] at h; cases h
      | true =>
        rw [h2] at h
        cases h
        obtain ⟨e0, g1, g3, gc, hq⟩ := slB_at' hH h1 h2 r
        rcases hq with ⟨b', v0, ablk, g2, rfl, _⟩ | ⟨q1, q2, rfl, q4, q5, q6⟩
        · exact ⟨rfl, fun x q => by cases q⟩
        · exact ⟨by rw [q4]; rfl, fun x q => by cases q⟩
    · cases h
  · cases h
end
end
end Go.Proofs.Ytnnfcebnmogdmaa.VM
/- Values with labels: appends, cuts, builds. No conditions. -/
namespace Go.Proofs.Ytnnfcebnmogdmaa.VM
set_option linter.unusedSimpArgs false
set_option linter.unusedVariables false
open Go Go.RowKit
noncomputable section
section
variable {P : Program} {ε : Nat → Option BE} {H : SHeap} {L : Heap} {t : List SV} {tv : List V} {base vbase : Nat} {cx : SCfg}

theorem zeroS_of {e : TypeId} {z : List SV} (h : zeroS P e = some z) : ∃ zv, zeroV P e = some zv ∧ RL ε z zv := by
  obtain ⟨zv, h1, rfl⟩ := mapU_some h
  exact ⟨zv, h1, toSL_rel 9 zv⟩
theorem szeros_rel {z : List SV} {zv : List V} (h : RL ε z zv) : ∀ n, RL ε (szeros z n) (zerosV zv n)
  | 0 => .nil
  | n + 1 => h.append (szeros_rel h n)
theorem zerosV_len (z : List V) : ∀ n, (zerosV z n).length = n * z.length := zerosV_length z
theorem makeS_of {e : TypeId} {l : SN} {z : List SV} {zv : List V} (hz : RL ε z zv) {K : SC → Prop} (h : makeS cx P e l z K) : ∃ c, K c ∧ COK c ∧ RL ε c.list (zerosV zv l.val) := by
  unfold makeS at h
  split at h
  · exact ⟨_, h, trivial, szeros_rel hz _⟩
  · rename_i l
    split at h
    · rename_i w hw
      obtain ⟨h1, h2⟩ := h
      obtain ⟨h3, h4, h5⟩ := bif_of h2
      refine ⟨_, h5, h1, ?_⟩
      have hr := sles_rel h4 hz
      show RL ε ((List.replicate l w.zero).flatMap w.r) (zerosV zv l)
      clear h5 h2
      induction l with
      | zero => exact .nil
      | succ l ih => rw [List.replicate_succ, List.flatMap_cons]; exact hr.append ih
    · cases h
theorem SC.app_of {a b : SC} {K : SC → Prop} (h : a.app b K) {A B : List V} (ca : COK a) (cb : COK b) (ra : RL ε a.list A) (rb : RL ε b.list B) : ∃ c, K c ∧ COK c ∧ RL ε c.list (A ++ B) := by
  cases a with
  | lit l => cases b with
    | lit m => exact ⟨_, h, trivial, ra.append rb⟩
    | rows r k d fl xs => cases l with
      | nil =>
        cases ra
        exact ⟨_, h, cb, rb⟩
      | cons x l =>
        obtain ⟨ys, h1, h2⟩ := h
        refine ⟨_, h2, cb, ?_⟩
        show RL ε ((ys ++ xs).flatMap r) _
        rw [List.flatMap_append]
        exact RL.append (sles_rel h1 ra) rb
  | rows r k d fl xs => cases b with
    | lit m => cases m with
      | nil =>
        cases rb
        rw [List.append_nil]
        exact ⟨_, h, ca, ra⟩
      | cons x m =>
        have h' : bif Nat.beq (slen (x :: m)) k then ∃ y, sles (x :: m) (r y) ∧ K (.rows r k d fl (xs ++ [y])) else ∃ ys, sles (x :: m) (ys.flatMap r) ∧ K (.rows r k d fl (xs ++ ys)) := h
        cases hq : Nat.beq (slen (x :: m)) k with
        | true =>
          rw [hq] at h'
          obtain ⟨y, h1, h2⟩ := h'
          refine ⟨_, h2, ca, ?_⟩
          show RL ε ((xs ++ [y]).flatMap r) _
          rw [List.flatMap_append]
          exact RL.append ra (by rw [List.flatMap_cons, List.flatMap_nil, List.append_nil]; exact sles_rel h1 rb)
        | false =>
          rw [hq] at h'
          obtain ⟨ys, h1, h2⟩ := h'
          refine ⟨_, h2, ca, ?_⟩
          show RL ε ((xs ++ ys).flatMap r) _
          rw [List.flatMap_append]
          exact RL.append ra (sles_rel h1 rb)
    | rows r' k' d' fl' xs' =>
      obtain ⟨ys, h1, h2⟩ := h
      rw [h1] at rb
      refine ⟨_, h2, ca, ?_⟩
      show RL ε ((xs ++ ys).flatMap r) _
      rw [List.flatMap_append]
      exact RL.append ra rb

theorem room {n b : Nat} (h : n ≤ 2 ^ 40 / b) (hb : b ≠ 0) : n * b ≤ 2 ^ 40 ∧ n ≤ 2 ^ 40 := by
  have h1 : n * b ≤ 2 ^ 40 := (Nat.le_div_iff_mul_le (Nat.pos_of_ne_zero hb)).1 h
  refine ⟨h1, Nat.le_trans ?_ h1⟩
  exact Nat.le_mul_of_pos_right _ (Nat.pos_of_ne_zero hb)

theorem SC.from_of {cs : SC} {k : Nat} {o n : SN} {K : SC → Prop} (h : cs.from k o n K) {A : List V} (hc : COK cs) (hr : RL ε cs.list A) :
    ∃ c, K c ∧ COK c ∧ RL ε c.list (A.drop (o.val * k)) ∧ o.val * k + n.val * k = A.length := by
  have hl := hr.length
  unfold SC.from at h
  split at h
  · rename_i l
    split at h
    · obtain ⟨h1, h2⟩ := bif_of h
      have h3 := beqT h1
      rw [slen_eq] at h3
      refine ⟨_, h2, trivial, ?_, by rw [← Nat.add_mul]; exact h3.trans hl⟩
      rw [sdrop_eq]
      exact hr.drop _
    · cases h
  · rename_i α r k' d fl xs
    obtain ⟨h1, h2, h3⟩ := bif_of h
    have hk := beqT h1
    subst hk
    rw [SN.add_val] at h2
    rw [rdrop_eq] at h3
    refine ⟨_, h3, hc, ?_, ?_⟩
    · show RL ε ((xs.drop o.val).flatMap r) _
      rw [← flat_drop hc.len]
      exact hr.drop _
    · rw [← Nat.add_mul, h2, ← hl]
      exact (flat_len hc.len).symm

theorem appTo_of (hH : RH ε H L) {e : TypeId} {zeros : Bool} {s : SV} {sv xv : V} (rs : RV ε s sv) (hf : ε base = none) {zv : List V} {i : TypeInfo} (hzv : zeroV P e = some zv) (hi : P.info? e = some i)
    (hb1 : i.bytes ≤ 2 ^ 20) (hb2 : i.bytes ≠ 0) {new : SC} {m : SN} {B : List V} (hnew : newRowV L zv zeros xv = some (B, m.val)) (cn : COK new) (rn : RL ε new.list B) (hone : B.all V.one = true)
    {K : SEff → Prop} (h : appTo H base zv.length i.bytes s new m K) :
    ∃ se ef ε', K se ∧ appendV P L vbase e zeros sv xv = some ef ∧ ER ε ε' H L base vbase se ef := by
  have erNew : ∀ {c : SC} {A : List V} {n : SN}, COK c → RL ε c.list A →
      ER ε (updF ε base ⟨0, some (vbase, 0)⟩) H L base vbase ⟨.slB base (.lit 0) zv.length 0 n, [], [⟨c, zv.length, 0, false, false⟩]⟩ ⟨.slB vbase 0 0 n.val, [], [⟨A, zv.length, 0, false⟩]⟩ := by
    intro c A n hc hr
    exact ER.new1 hf hc hr (.slB (e := ⟨0, some (vbase, 0)⟩) (by simp [updF]) (Nat.le_refl _) (fun _ => .inl ⟨vbase, 0, rfl, by simp⟩) rfl)
  have mkNil : sv = .nilSl → m.val ≤ 2 ^ 40 / i.bytes → appendV P L vbase e zeros sv xv = some ⟨.slB vbase 0 0 m.val, [], [⟨B, zv.length, 0, false⟩]⟩ := by
    intro hs hm
    subst hs
    obtain ⟨g1, g2⟩ := room hm hb2
    simp only [appendV, hzv, hi, hnew]
    rw [if_pos ⟨hb1, hb2, g2, g1⟩]
  unfold appTo at h
  split at h
  · obtain ⟨h1, h2⟩ := req_of h
    rw [SN.le_holds] at h1
    cases rs
    exact ⟨_, _, _, h2, mkNil rfl h1, erNew cn rn⟩
  · rename_i fr cs n
    obtain ⟨h1, h2⟩ := req_of h
    rw [SN.le_holds, SN.add_val] at h1
    obtain ⟨g1, g2⟩ := room h1 hb2
    have hm2 : m.val ≤ 2 ^ 40 := by omega
    have hm3 : m.val * i.bytes ≤ 2 ^ 40 := Nat.le_trans (Nat.mul_le_mul_right _ (by omega)) g1
    cases rs with
    | slIn q1 q2 =>
      rcases bra_of h2 with ⟨h3, h4⟩ | ⟨h3, h4⟩
      · exact ⟨_, _, _, h4, mkNil rfl (by simp only [SN.val_lit] at h1; omega), erNew cn rn⟩
      · rw [SN.eq_holds] at h3
        exact absurd q1 h3
    | slI0 q1 q2 q3 q4 =>
      have ht := q2 rfl
      subst ht
      rcases bra_of h2 with ⟨h3, h4⟩ | ⟨h3, h4⟩
      · refine ⟨_, _, _, h4, ?_, erNew cn rn⟩
        simp only [appendV, hzv, hi, hnew]
        rw [if_pos ⟨hb1, hb2, hm2, hm3⟩]
        rw [if_pos ⟨by simpa using hm3, by simp, by omega⟩, if_neg (by simp)]
        simp
      · rw [SN.eq_holds] at h3
        exact absurd q3 h3
    | slI q1 q2 q3 q4 q5 =>
      rename_i fr' tt' cs' m'
      subst q3
      have ht := q2 rfl
      subst ht
      rcases bra_of h2 with ⟨h3, h4⟩ | ⟨h3, h4⟩
      · rw [SN.eq_holds] at h3
        simp only [SN.val_lit] at h3
        refine ⟨_, _, _, h4, ?_, erNew cn rn⟩
        simp only [appendV, hzv, hi, hnew]
        rw [if_pos ⟨hb1, hb2, hm2, hm3⟩]
        rw [if_pos ⟨g1, by rw [h3]; simp, g2⟩, if_neg (by simp [h3])]
        simp [h3]
      · rw [SN.eq_holds] at h3
        simp only [SN.val_lit] at h3
        obtain ⟨c, k1, k2, k3, k4, k5⟩ := SC.cut_of h4 q5 q4
        simp only [SN.val_lit, Nat.zero_add, Nat.zero_mul, List.drop_zero] at k3 k4
        rcases bra_of k1 with ⟨h5, h6⟩ | ⟨h5, h6⟩
        · rw [SN.eq_holds] at h5
          simp only [SN.val_lit] at h5
          refine ⟨_, _, _, h6, ?_, ER.pure (.slI q1 (fun _ => rfl) rfl q4 q5)⟩
          simp only [appendV, hzv, hi, hnew]
          rw [if_pos ⟨hb1, hb2, hm2, hm3⟩]
          rw [if_pos ⟨g1, k3, g2⟩, if_pos ⟨h5, h3⟩]
        · obtain ⟨c2, k6, k7, k8⟩ := SC.app_of h6 k2 cn k4 rn
          have e1 := erNew (n := n.add m) k7 k8
          rw [SN.add_val] at e1
          refine ⟨_, _, _, k6, ?_, e1⟩
          simp only [appendV, hzv, hi, hnew]
          rw [if_pos ⟨hb1, hb2, hm2, hm3⟩]
          rw [if_pos ⟨g1, k3, g2⟩, if_neg (by rw [SN.eq_holds] at h5; simp only [SN.val_lit] at h5; exact fun q => h5 q.1)]
  · rename_i b o k ver n
    split at h
    · rename_i blk hbk
      obtain ⟨hc, h0⟩ := bif_of h
      clear h
      obtain ⟨hc, hk2⟩ := andT hc
      obtain ⟨hc, hk1⟩ := andT hc
      obtain ⟨hver, hfz⟩ := andT hc
      have hfz : blk.fz = false := by simpa using hfz
      have hk1 := beqT hk1
      have hk2 := beqT hk2
      subst hk2
      obtain ⟨h1, h2⟩ := req_of h0
      rw [SN.le_holds, SN.add_val] at h1
      obtain ⟨g1, g2⟩ := room h1 hb2
      have hm2 : m.val ≤ 2 ^ 40 := by omega
      have hm3 : m.val * i.bytes ≤ 2 ^ 40 := Nat.le_trans (Nat.mul_le_mul_right _ (by omega)) g1
      obtain ⟨e0, g3, g4, gc, hq⟩ := slB_at' hH hbk hver rs
      have hv := beqT hver
      rcases hq with ⟨b', v0, ablk, q2, rfl, q5, q6, q7, q8, q9⟩ | ⟨q1, q2, rfl, q4, q5, q6⟩
      · obtain ⟨c, k1, k2, k3, k4⟩ := SC.from_of h2 gc q9
        obtain ⟨c2, k6, k7, k8⟩ := SC.app_of k1 k2 cn k3 rn
        refine ⟨_, ⟨.slB b' 0 (v0 + 1) (n.val + m.val), [(b', ⟨ablk.cells.drop (o.val * zv.length) ++ B, zv.length, v0 + 1, false⟩)], []⟩, _, k6, ?_,
          ER.wr1 (blk := blk) (e0 := e0) (v0 := v0) (nblk := ⟨c2, zv.length, ver + 1, false, false⟩) (nab := ⟨ablk.cells.drop (o.val * zv.length) ++ B, zv.length, v0 + 1, false⟩) hbk g3 q2 q5 (.inr (by rw [g4, hv]; exact Nat.lt_succ_self _)) rfl (fun _ => rfl) k7 k8 ?_⟩
        · simp only [appendV, hzv, hi, hnew]
          rw [if_pos ⟨hb1, hb2, hm2, hm3⟩]
          simp only [q5]
          rw [if_pos ⟨q6, q8 hfz, q7.trans hk1, k4, g1, g2, hone⟩]
        · refine .slB (e := ⟨ver + 1, some (b', v0 + 1)⟩) (by simp [updF]) (Nat.le_refl _) (fun _ => .inl ⟨b', v0 + 1, rfl, ?_⟩) rfl
          rw [SN.add_val]
          simp
      · obtain ⟨c, k1, k2, k3, k4⟩ := SC.from_of (ε := ε) (A := []) h2 gc (by rw [q6]; exact .nil)
        obtain ⟨c2, k6, k7, k8⟩ := SC.app_of k1 k2 cn k3 rn
        refine ⟨_, _, _, k6, mkNil rfl (by simp only [SN.val_lit] at h1; omega), ER.lz1 (blk := blk) (e0 := e0) (nblk := ⟨c2, zv.length, ver + 1, false, false⟩) (nab := ⟨B, zv.length, 0, false⟩) hbk g3 (by assumption) (by rw [g4, hv]; exact Nat.lt_succ_self _) rfl (fun _ => rfl) k7 (by simpa using k8) ?_⟩
        refine .slB (e := ⟨ver + 1, some (vbase, 0)⟩) (by simp [updF]) (Nat.le_refl _) (fun _ => .inl ⟨vbase, 0, rfl, ?_⟩) rfl
        rw [SN.add_val, q4]
        simp
    · cases h
  · cases h
theorem ones_rel {c : SC} {A : List V} (h : c.ones = true) (hc : COK c) (hr : RL ε c.list A) : A.all V.one = true := by
  cases c with
  | lit l => exact sones_rel hr h
  | rows e k d fl xs =>
    have hall : ∀ v ∈ (SC.rows e k d fl xs).list, v.one = true := by
      intro v hv
      obtain ⟨x, _, hx⟩ := List.mem_flatMap.1 hv
      exact ((hc x).2.1 v hx).2
    revert hall hr
    generalize (SC.rows e k d fl xs).list = l
    intro hr hall
    clear h hc
    induction l generalizing A with
    | nil => cases hr; rfl
    | cons v l ih =>
      cases hr with
      | cons r s =>
        simp only [List.all_cons, Bool.and_eq_true]
        exact ⟨(one_rel r (hall v (List.mem_cons_self ..))).1, ih s fun w hw => hall w (List.mem_cons_of_mem _ hw)⟩
theorem appendS_of (hH : RH ε H L) {e : TypeId} {zeros : Bool} {s x : SV} {sv xv : V} (rs : RV ε s sv) (rx : RV ε x xv) (hf : ε base = none) {K : SEff → Prop} (h : appendS cx P H base e zeros s x K) :
    ∃ se ef ε', K se ∧ appendV P L vbase e zeros sv xv = some ef ∧ ER ε ε' H L base vbase se ef := by
  unfold appendS at h
  split at h
  · rename_i z i hz hi
    obtain ⟨zv, hzv, rz⟩ := zeroS_of (ε := ε) hz
    have hzl : slen z = zv.length := by rw [slen_eq]; exact rz.length
    rw [hzl] at h
    obtain ⟨hb, h0⟩ := bif_of h
    clear h
    obtain ⟨hb1, hb2⟩ := andT hb
    have hb1 := bleT hb1
    have hb2 : i.bytes ≠ 0 := fun q => by rw [q] at hb2; cases hb2
    cases zeros with
    | true =>
      simp only [cond_true] at h0
      cases x <;> try cases h0
      case int kd l =>
        obtain ⟨h1, h⟩ := req_of h0
        obtain ⟨h2, h⟩ := req_of h
        rw [SI.le_holds] at h1 h2
        simp only [SI.val_lit] at h1 h2
        obtain ⟨c, h3, h4, h5⟩ := makeS_of rz h
        obtain ⟨h6, h7⟩ := bif_of h3
        cases rx with
        | int _ _ n hn =>
          subst hn
          refine appTo_of hH rs hf hzv hi hb1 hb2 (B := zerosV zv l.toN.val) ?_ h4 h5 (ones_rel h6 h4 h5) h7
          simp only [newRowV, if_true]
          rw [if_pos ⟨h1, h2⟩, SI.toN_val]
    | false =>
      simp only [cond_false] at h0
      obtain ⟨c, m, A, h1, h2, h3, h4, h5, _⟩ := rowS_of hH rx h0
      obtain ⟨h6, h7⟩ := bif_of h1
      exact appTo_of hH rs hf hzv hi hb1 hb2 (by simp only [newRowV, Bool.false_eq_true, if_false]; exact h2) h3 h4 (ones_rel h6 h3 h4) h7
  · cases h
end
end
end Go.Proofs.Ytnnfcebnmogdmaa.VM
/- Values with labels: cuts, builds, numbers. No conditions. -/
namespace Go.Proofs.Ytnnfcebnmogdmaa.VM
set_option linter.unusedSimpArgs false
set_option linter.unusedVariables false
open Go Go.RowKit
noncomputable section
section
variable {P : Program} {ε : Nat → Option BE} {H : SHeap} {L : Heap} {t : List SV} {tv : List V} {base vbase : Nat} {cx : SCfg}

theorem optS_rel (ht : RL ε t tv) {x : Option Operand} {r : Option SI} (h : optS t x = some r) : optV tv x = some (r.map SI.val) := by
  cases x with
  | none => cases h; rfl
  | some x =>
    simp only [optS] at h
    split at h
    · rename_i k n hx
      cases h
      obtain ⟨v, h1, h2⟩ := evalS_rel ht hx
      cases h2 with
      | int _ _ m hm => subst hm; simp [optV, h1, intV]
    · cases h
theorem toNat_le {a b : Int} (h : a ≤ b) : a.toNat ≤ b.toNat := Int.toNat_le_toNat h
theorem orS_val (x : Option SI) (d : SI) : (orS x d).val = (x.map SI.val).getD d.val := by cases x <;> rfl
theorem zeroI_val {x : SI} (h : zeroI x = true) : x.val = 0 := by
  cases x with
  | lit n => simpa [zeroI] using h
  | sym n => cases h
theorem tightS_of {n : SN} {tight tight' : Bool} {hi mx : Option SI} (h : tightS n tight hi mx = true) (ht : tight = true → tight' = true) :
    (match mx.map SI.val with | some _ => decide ((((mx.map SI.val).getD n.val).toNat) = ((hi.map SI.val).getD n.val).toNat) | none => tight' && decide (((hi.map SI.val).getD n.val).toNat = n.val)) = true := by
  unfold tightS at h
  split at h
  · simp only [decide_eq_true_eq] at h
    simp [h]
  · simp [ht h]
  · rename_i h' _
    cases n with
    | lit n =>
      simp only [Bool.and_eq_true, decide_eq_true_eq] at h
      simp [ht h.1, h.2]
    | sym n => cases h
  · cases h
theorem cutI_of {k : Nat} {fr fr' tt tt' : Bool} {cs : SC} {A : List V} (q1 : fr = true → fr' = true) (hr : RL ε cs.list A) (hc : COK cs) {l h : SI} {K : SV → Prop} (hk : cutI k fr cs tt l h K) (ht : tt = true → tt' = true) (h1 : 0 ≤ l.val) (h2 : l.val ≤ h.val) :
    ∃ s, K s ∧ (∀ w, w = (if l.val.toNat = 0 then V.slI fr' A h.val.toNat tt' else if h.val.toNat = l.val.toNat then .slI fr' [] 0 tt' else .slI fr' (A.drop (l.val.toNat * k)) (h.val.toNat - l.val.toNat) tt') → RV ε s w) := by
  have fin : ∀ (c : SC) (n : SN), COK c → RL ε c.list (A.drop (l.val.toNat * k)) → n.val = h.val.toNat - l.val.toNat → K (.slI fr c n tt) → ∃ s, K s ∧ (∀ w, w = (if l.val.toNat = 0 then V.slI fr' A h.val.toNat tt' else if h.val.toNat = l.val.toNat then .slI fr' [] 0 tt' else .slI fr' (A.drop (l.val.toNat * k)) (h.val.toNat - l.val.toNat) tt') → RV ε s w) := by
    intro c n hc hr hn hK
    refine ⟨_, hK, fun w hw => ?_⟩
    subst hw
    split
    · rename_i h0
      rw [h0] at hr hn
      simp only [Nat.zero_mul, List.drop_zero] at hr
      exact .slI q1 ht (by omega) hr hc
    · split
      · exact .slI0 q1 ht (by omega) hc
      · exact .slI q1 ht hn.symm hr hc
  unfold cutI at hk
  split at hk
  · obtain ⟨g1, g2⟩ := caseN_of hk
    obtain ⟨g3, g4⟩ := bif_of g2
    rw [SI.toN_val] at g4
    refine fin (.lit (sdrop _ (l.val.toNat * k))) _ trivial ?_ (by rw [SN.sub_val, SI.toN_val]; rfl) g4
    show RL ε (sdrop _ (l.val.toNat * k)) _
    rw [sdrop_eq]
    exact hr.drop _
  · rename_i α r k' d fl xs
    obtain ⟨g1, g2⟩ := bif_of hk
    have hkk := beqT g1
    subst hkk
    refine fin (.rows r k' d fl (rdrop l.toN xs)) (h.toN.sub l.toN) hc ?_ (by rw [SN.sub_val, SI.toN_val, SI.toN_val]) g2
    show RL ε ((rdrop l.toN xs).flatMap r) _
    rw [rdrop_eq, SI.toN_val]
    rw [← flat_drop hc.len]
    exact hr.drop _
theorem cutI0_of {k : Nat} {fr tt : Bool} {cs : SC} (hc : COK cs) {l h : SI} {K : SV → Prop} (hk : cutI k fr cs tt l h K) (he : h.val.toNat = l.val.toNat) :
    ∃ s, K s ∧ RV ε s .nilSl ∧ ∀ fr' tt' : Bool, (fr = true → fr' = true) → (tt = true → tt' = true) → RV ε s (.slI fr' [] 0 tt') := by
  have fin : ∀ (c : SC) (n : SN), COK c → n.val = 0 → K (.slI fr c n tt) → ∃ s, K s ∧ RV ε s .nilSl ∧ ∀ fr' tt' : Bool, (fr = true → fr' = true) → (tt = true → tt' = true) → RV ε s (.slI fr' [] 0 tt') :=
    fun c n hc hn hK => ⟨_, hK, .slIn hn hc, fun fr' tt' h1 h2 => .slI0 h1 h2 hn hc⟩
  unfold cutI at hk
  split at hk
  · obtain ⟨g1, g2⟩ := caseN_of hk
    obtain ⟨g3, g4⟩ := bif_of g2
    rw [SI.toN_val] at g4
    exact fin _ _ (by exact trivial) (by rw [SN.sub_val, SI.toN_val]; simp only [SN.val_lit]; omega) g4
  · rename_i α r k' d fl xs
    obtain ⟨g1, g2⟩ := bif_of hk
    exact fin (.rows r k' d fl (rdrop l.toN xs)) _ hc (by rw [SN.sub_val, SI.toN_val, SI.toN_val]; omega) g2
theorem cutS_of (hH : RH ε H L) {k : Nat} {x : SV} {xv : V} (r : RV ε x xv) {lo hi mx : Option SI} {K : SV → Prop} (h : cutS H k x lo hi mx K) :
    ∃ s w, K s ∧ cutV L k xv (lo.map SI.val) (hi.map SI.val) (mx.map SI.val) = some w ∧ RV ε s w := by
  unfold cutS at h
  cases hmx : mx.isSome && hi.isNone with
  | true => simp only [hmx, cond_true] at h; cases h
  | false =>
  simp only [hmx, cond_false] at h
  have hmi : (mx.map SI.val).isSome = true → (hi.map SI.val).isSome = true := by
    cases mx <;> cases hi <;> simp at hmx ⊢
  have hlv : (lo.map SI.val).getD 0 = (orS lo (.lit 0)).val := by rw [orS_val]; rfl
  split at h
  · obtain ⟨g0, g4⟩ := bif_of h
    obtain ⟨g0, g3⟩ := andT g0
    obtain ⟨g1, g2⟩ := andT g0
    have g1 := zeroI_val g1
    have g2 := zeroI_val g2
    have g3 := zeroI_val g3
    rw [orS_val] at g1 g2 g3
    simp only [SI.val_lit] at g1 g2 g3
    cases r
    refine ⟨_, .nilSl, g4, ?_, .nilSl⟩
    simp only [cutV, g1, g2, g3]
    rw [if_neg (by omega), if_pos ⟨by simp, trivial, trivial, hmi⟩]
  · rename_i fr cs n tight
    obtain ⟨h1, h⟩ := req_of h
    obtain ⟨h2, h⟩ := req_of h
    obtain ⟨h3, h⟩ := req_of h
    obtain ⟨h4, h⟩ := req_of h
    rw [SI.le_holds] at h1 h2 h3 h4
    rw [SN.toI_val] at h4
    simp only [SI.val_lit] at h1
    have hhv : (hi.map SI.val).getD n.val = (orS hi n.toI).val := by rw [orS_val, SN.toI_val]
    have hmv : (mx.map SI.val).getD n.val = (orS mx n.toI).val := by rw [orS_val, SN.toI_val]
    have hn0 : (n.val : Int) ≥ 0 := Int.natCast_nonneg _
    cases r with
    | slI q1 q2 q3 q4 q5 =>
      rename_i fr' tight' cs' m
      subst q3
      obtain ⟨s, k1, k2⟩ := cutI_of q1 q4 q5 h (fun ht => tightS_of ht q2) h1 h2
      refine ⟨s, _, k1, ?_, k2 _ rfl⟩
      simp only [cutV, hlv, hhv, hmv]
      rw [if_neg (by omega), if_pos ⟨by omega, by omega, toNat_le h2, toNat_le h3, by omega, hmi⟩]
      cases mx <;> (simp only [Option.map_none, Option.map_some]; split <;> (try split) <;> rfl)
    | slIn q1 q2 =>
      obtain ⟨s, k1, k2, k3⟩ := cutI0_of (ε := ε) q2 h (by omega)
      refine ⟨s, _, k1, ?_, k2⟩
      have g1 : ((hi.map SI.val).getD 0) = 0 := by rw [← hhv] at h2 h3; rw [q1] at hhv; rw [← hmv] at h3 h4; cases hi with | none => rfl | some x => simp at hhv h2 h3 ⊢; omega
      have g2 : ((mx.map SI.val).getD 0) = 0 := by cases mx with | none => rfl | some x => simp at hmv; rw [← hmv] at h3 h4; simp; omega
      simp only [cutV, hlv, g1, g2]
      rw [if_neg (by omega), if_pos ⟨by omega, trivial, trivial, hmi⟩]
    | slI0 q1 q2 q3 q4 =>
      rename_i fr' tight'
      obtain ⟨s, k1, k2, k3⟩ := cutI0_of (ε := ε) q4 h (by omega)
      rw [q3] at hhv hmv
      refine ⟨s, .slI fr' [] 0 (match mx.map SI.val with | some _ => decide ((orS mx n.toI).val.toNat = 0) | none => tight' && decide ((0 : Nat) = 0)), k1, ?_, k3 _ _ q1 (fun ht => by
        have := tightS_of ht q2
        rw [q3, hhv, hmv] at this
        have e2 : (orS hi n.toI).val.toNat = 0 := by omega
        rw [e2] at this
        exact this)⟩
      have e1 : (orS lo (.lit 0)).val.toNat = 0 := by omega
      have e2 : (orS hi n.toI).val.toNat = 0 := by omega
      simp only [cutV, hlv]
      rw [if_neg (by omega)]
      have hhv' : (hi.map SI.val).getD ((0 : Nat) : Int) = (orS hi n.toI).val := hhv
      have hmv' : (mx.map SI.val).getD ((0 : Nat) : Int) = (orS mx n.toI).val := hmv
      simp only [hhv', hmv']
      rw [if_pos ⟨by omega, by omega, toNat_le h2, toNat_le h3, by omega, hmi⟩, if_pos e1, e2]
      cases mx <;> rfl
  · rename_i b e k' ver n
    split at h
    · rename_i blk hb
      obtain ⟨h0, h⟩ := bif_of h
      obtain ⟨h0, hlz⟩ := andT h0
      obtain ⟨h0, hk2⟩ := andT h0
      obtain ⟨hver, hk1⟩ := andT h0
      have hk1 := beqT hk1
      have hk2 := beqT hk2
      subst hk1
      obtain ⟨h1, h⟩ := req_of h
      obtain ⟨h2, h⟩ := req_of h
      obtain ⟨h3, h⟩ := req_of h
      obtain ⟨h4, h⟩ := req_of h
      rw [SI.le_holds] at h1 h2 h3 h4
      rw [SN.toI_val] at h4
      simp only [SI.val_lit] at h1
      have hhv : (hi.map SI.val).getD n.val = (orS hi n.toI).val := by rw [orS_val, SN.toI_val]
      have hmv : (mx.map SI.val).getD n.val = (orS mx n.toI).val := by rw [orS_val, SN.toI_val]
      have hn0 : (n.val : Int) ≥ 0 := Int.natCast_nonneg _
      obtain ⟨e0, g1, g3, gc, hq⟩ := slB_at' hH hb hver r
      rcases hq with ⟨b', v0, ablk, q2, rfl, q5, q6, q7, q8, q9⟩ | ⟨q1, q2, rfl, q4, q5, q6⟩
      · have key : ∀ w, w = (if (orS hi n.toI).val.toNat = (orS lo (.lit 0)).val.toNat ∧ ((orS lo (.lit 0)).val.toNat ≠ 0 ∨ (mx.map SI.val).isSome = true) then V.slI true [] 0 ((mx.map SI.val).isSome && decide ((orS mx n.toI).val.toNat = (orS hi n.toI).val.toNat))
            else .slB b' (e.val * k' + (orS lo (.lit 0)).val.toNat * k') v0 ((orS hi n.toI).val.toNat - (orS lo (.lit 0)).val.toNat)) → cutV L k' (.slB b' (e.val * k') v0 n.val) (lo.map SI.val) (hi.map SI.val) (mx.map SI.val) = some w := by
          intro w hw
          subst hw
          simp only [cutV, hlv, hhv, hmv]
          rw [if_neg (by omega)]
          simp only [q5]
          rw [if_pos ⟨q6, q7.trans hk2, by omega, by omega, toNat_le h2, toNat_le h3, by omega, hmi⟩]
          split <;> rfl
        have slB' : ∀ (o m : SN), o.val * k' = e.val * k' + (orS lo (.lit 0)).val.toNat * k' → m.val = (orS hi n.toI).val.toNat - (orS lo (.lit 0)).val.toNat → RV ε (.slB b o k' ver m) (.slB b' (e.val * k' + (orS lo (.lit 0)).val.toNat * k') v0 ((orS hi n.toI).val.toNat - (orS lo (.lit 0)).val.toNat)) := by
          intro o m ho hm
          exact .slB g1 (by rw [g3, beqT hver]; exact Nat.le_refl _) (fun _ => .inl ⟨b', v0, q2, by rw [ho, hm]⟩) rfl
        rcases bra_of h with ⟨k1, k2⟩ | ⟨k1, k2⟩
        · have hmx0 : mx = none ∧ (orS lo (.lit 0)).val = 0 := by
            cases mx with
            | none => exact ⟨rfl, by simpa [SI.eq_holds] using k1⟩
            | some m => simp [SB.holds] at k1
          obtain ⟨hm0, hl0⟩ := hmx0
          refine ⟨_, _, k2, key _ rfl, ?_⟩
          rw [if_neg (by rw [hl0, hm0]; simp)]
          exact slB' _ _ (by rw [hl0]; simp) (by rw [SI.toN_val, hl0]; simp)
        · rcases bra_of k2 with ⟨k3, k4⟩ | ⟨k3, k4⟩
          · rw [SI.eq_holds] at k3
            refine ⟨_, _, k4, key _ rfl, ?_⟩
            rw [if_pos ⟨by rw [k3], by
              cases mx with
              | none =>
                left
                rw [SI.eq_holds] at k1
                simp only [SI.val_lit] at k1
                omega
              | some m => exact .inr rfl⟩]
            exact .slI (fun _ => rfl) (fun q => by cases q) rfl .nil trivial
          · rw [SI.eq_holds] at k3
            refine ⟨_, _, k4, key _ rfl, ?_⟩
            rw [if_neg (fun q => k3 (by have := q.1; omega))]
            exact slB' _ _ (by rw [SN.add_val, SI.toN_val, Nat.add_mul]) (by rw [SN.sub_val, SI.toN_val, SI.toN_val])
      · rw [q1] at hlz; cases hlz
    · cases h
  · cases h
end
end
end Go.Proofs.Ytnnfcebnmogdmaa.VM
/- Values with labels: builds, numbers, texts. No conditions. -/
namespace Go.Proofs.Ytnnfcebnmogdmaa.VM
set_option linter.unusedSimpArgs false
set_option linter.unusedVariables false
open Go Go.RowKit
noncomputable section
section
variable {P : Program} {ε : Nat → Option BE} {H : SHeap} {L : Heap} {t : List SV} {tv : List V} {base vbase : Nat} {cx : SCfg}

theorem fillS_of {place : Nat → Option (Nat × Nat)} : ∀ {vs : List (Nat × SV)} {vs' : List (Nat × V)} {cells out : List SV} {cells' : List V}, fillS place cells vs = some out → SPRel ε vs vs' → RL ε cells cells' → ∃ out', fillV place cells' vs' = some out' ∧ RL ε out out'
  | [], _, cells, out, cells', h, .nil, hr => by cases h; exact ⟨_, rfl, hr⟩
  | (i, v) :: vs, _, cells, out, cells', h, .cons (c := c) (cs := cs) r s, hr => by
    simp only [fillS] at h
    cases hp : place i with
    | none => rw [hp] at h; cases h
    | some q =>
      obtain ⟨off, size⟩ := q
      rw [hp] at h
      simp only at h
      cases hc : Nat.beq (slen v.cells) size && Nat.ble (off + size) (slen cells) && sones v.cells with
      | false => rw [hc] at h; cases h
      | true =>
        rw [hc] at h
        simp only [cond_true] at h
        obtain ⟨hc1, hone⟩ := andT hc
        obtain ⟨hc1, hc2⟩ := andT hc1
        have hc1 := beqT hc1
        have hc2 := bleT hc2
        rw [slen_eq] at hc1 hc2
        have rc := cellsV_rel r hone
        obtain ⟨out', g1, g2⟩ := fillS_of h s (ssetCells_rel off rc hr)
        refine ⟨out', ?_, g2⟩
        simp only [fillV, hp]
        rw [if_pos ⟨by rw [← rc.length]; exact hc1, by rw [← hr.length]; exact hc2, sones_rel rc hone⟩]
        exact g1
theorem buildS_of (ht : RL ε t tv) {ty : TypeId} {parts : Array (Nat × Operand)} {s : SV} (h : buildS P t ty parts = some s) : ∃ v, buildV P tv ty parts = some v ∧ RV ε s v := by
  unfold buildS at h
  split at h
  · rename_i z vs fields hz hvs hu
    obtain ⟨zv, h1, h2⟩ := zeroS_of (ε := ε) hz
    obtain ⟨vs', h3, h4⟩ := evalSP_rel ht hvs
    split at h
    · rename_i places hp
      obtain ⟨cs, h5, rfl⟩ := mapU_some h
      obtain ⟨out', h6, h7⟩ := fillS_of h5 h4 h2
      exact ⟨.agg out', by simp only [buildV, h1, h3, hu, hp]; rw [h6]; rfl, .agg h7⟩
    · cases h
  · rename_i z vs n e hz hvs hu
    obtain ⟨zv, h1, h2⟩ := zeroS_of (ε := ε) hz
    obtain ⟨vs', h3, h4⟩ := evalSP_rel ht hvs
    split at h
    · rename_i i hi
      obtain ⟨cs, h5, rfl⟩ := mapU_some h
      obtain ⟨out', h6, h7⟩ := fillS_of h5 h4 h2
      exact ⟨.agg out', by simp [buildV, h1, h3, hu, hi, h6], .agg h7⟩
    · cases h
  · cases h
theorem buildSliceS_of (ht : RL ε t tv) {ty : TypeId} {len : Nat} {parts : Array (Nat × Operand)} {s : SV} (h : buildSliceS P t ty len parts = some s) : ∃ v, buildSliceV P tv ty len parts = some (Eff.pure v) ∧ RV ε s v := by
  unfold buildSliceS at h
  split at h
  · rename_i e hu
    split at h
    · rename_i z vs hz hvs
      obtain ⟨zv, h1, h2⟩ := zeroS_of (ε := ε) hz
      obtain ⟨vs', h3, h4⟩ := evalSP_rel ht hvs
      have hzl : slen z = zv.length := by rw [slen_eq]; exact h2.length
      rw [hzl] at h
      cases hb : Nat.ble (len * zv.length) 16777216 with
      | false => rw [hb] at h; cases h
      | true =>
        rw [hb] at h
        simp only [cond_true] at h
        split at h
        · rename_i cells hc
          cases h
          obtain ⟨out', h6, h7⟩ := fillS_of hc h4 (szeros_rel h2 len)
          refine ⟨.slI true out' len true, ?_, .slI id id rfl h7 trivial⟩
          simp only [buildSliceV, hu, h1, h3]
          rw [if_pos (bleT hb), h6]
        · cases h
    · cases h
  · cases h
theorem partS_of {ty : TypeId} {cs : List SV} {cv : List V} (hr : RL ε cs cv) {off : Nat} {K : SV → Prop} (h : partS P ty cs off K) : ∃ s v, K s ∧ partV P ty cv off = some v ∧ RV ε s v := by
  unfold partS at h
  split at h
  · rename_i n hz
    obtain ⟨h1, h2⟩ := bif_of h
    rw [stake_eq, sdrop_eq] at h2
    exact ⟨_, _, h2, by simp only [partV, hz], .agg ((hr.drop off).take n)⟩
  · rename_i n hz
    rw [sdrop_eq] at h
    have hd := hr.drop off
    split at h
    · rename_i v r hq
      rw [hq] at hd
      cases hq2 : cv.drop off with
      | nil => rw [hq2] at hd; cases hd
      | cons c cs' =>
        rw [hq2] at hd
        cases hd with
        | cons q s =>
          refine ⟨_, c, h, ?_, q⟩
          simp only [partV, hz]
          have := congrArg (·[0]?) hq2
          simpa using this
    · cases h
  · cases h
theorem pureS_of {call : CallF} (ht : RL ε t tv) {o : Oper} {K : SEff → Prop} (h : pureS P t o K) : ∃ s v, K (SEff.pure s) ∧ pureOp P tv o = some (Eff.pure v) ∧ RV ε s v := by
  unfold pureS at h
  obtain ⟨h1, h2⟩ := bif_of h
  have hx : ∀ x ∈ o.op.operands, evalV (t.map fun s => (toV 9 s).getD (.tup [])) x = evalV tv x := by
    intro x hx
    have := List.all_eq_true.1 h1 x (by simpa using hx)
    cases hq : evalS t x with
    | none => rw [hq] at this; simp at this
    | some s =>
      rw [hq] at this
      simp only [Option.bind_some] at this
      obtain ⟨v, hv⟩ := Option.isSome_iff_exists.1 this
      obtain ⟨v', h3, h4⟩ := evalS_rel ht hq
      have hvv := toV_eq 9 hv h4
      subst hvv
      rw [h3]
      cases x with
      | tmp i =>
        cases hq
        simp only [evalV, Option.some.injEq]
        have hsnth : ∀ (t : List SV) (i : Nat) (w : V), toV 9 (snth t i) = some w → nth (t.map fun s => (toV 9 s).getD (.tup [])) i = w := by
          intro t
          induction t with
          | nil => intro i w hw; cases hw
          | cons a t ih =>
            intro i w hw
            cases i with
            | zero => 
              have hw' : toV 9 a = some w := hw
              show (toV 9 a).getD (.tup []) = w
              rw [hw']; rfl
            | succ i => exact ih i w hw
        exact hsnth t i _ hv
      | const c => exact h3
      | func f => exact h3
      | global g => cases hq
  rw [pureOp_congr hx] at h2
  split at h2
  · rename_i e he
    obtain ⟨v, rfl⟩ : ∃ v, e = Eff.pure v := by
      unfold pureOp at he
      split at he
      · split at he
        · cases he
        · split at he
          · obtain ⟨a, _, rfl⟩ := map_some he
            exact ⟨a, rfl⟩
          · cases he
      · cases he
    exact ⟨_, v, h2, he, toS_rel 9 v⟩
  · cases h2

theorem extBin_run {op : BinOp} {k : IntKind} {a b r : Int} (h : (op = .quo ∧ b ≠ 0 ∧ r = k.wrap (a.tdiv b)) ∨ (op = .rem ∧ b ≠ 0 ∧ r = a.tmod b) ∨ (op = .andNot ∧ r = k.wrap ((BitVec.ofInt k.bits a &&& ~~~ BitVec.ofInt k.bits b).toNat : Int)))
    {t : List V} {o : Oper} {ty : TypeId} {x y : Operand} {z : TypeId} (ho : o.op = .binOp op ty x y z)
    (hx : evalV t x = some (.int k a)) (hy : evalV t y = some (.int k b)) : pureOp P t o = some (Eff.pure (.int k r)) := by
  have h1 : o.op.operands.toList.all (fun x => ((evalV t x).bind toVal).isSome) = true := by
    rw [ho]
    simp [Op.operands, hx, hy, toVal, toAg, toSc]
  have rx : ρOf t x = .int k a := by simp [ρOf, hx, toVal, toAg, toSc]
  have ry : ρOf t y = .int k b := by simp [ρOf, hy, toVal, toAg, toSc]
  unfold pureOp
  rw [if_pos h1]
  simp only [ho]
  unfold execOp
  simp only [ho, rx, ry]
  rcases h with ⟨rfl, hb, rfl⟩ | ⟨rfl, hb, rfl⟩ | ⟨rfl, rfl⟩
  · simp [eqGuard, binOp, Op.intDiv, hb]; rfl
  · simp [eqGuard, binOp, Op.intDiv, hb]; rfl
  · simp [eqGuard, binOp, Op.intBits]; rfl

theorem binS_of {op : BinOp} {k l : IntKind} {a b : SI} {K : SV → Prop} (h : binS op k l a b K) {o : Oper} {ty : TypeId} {x y : Operand} {z : TypeId} (ho : o.op = .binOp op ty x y z)
    (hx : evalV tv x = some (.int k a.val)) (hy : evalV tv y = some (.int l b.val)) : ∃ s v, K s ∧ pureOp P tv o = some (Eff.pure v) ∧ RV ε s v := by
  have fast : ∀ {s : SV} {v : V}, K s → fastBin op k l a.val b.val = some v → RV ε s v → ∃ s v, K s ∧ pureOp P tv o = some (Eff.pure v) ∧ RV ε s v :=
    fun hK hv hr => ⟨_, _, hK, fastBin_run hv ho hx hy, hr⟩
  have ar : ∀ {f : Int → Int → Int} {r : Int}, K (.int k (SI.map2 f a b)) → r = f a.val b.val → pureOp P tv o = some (Eff.pure (.int k r)) → ∃ s v, K s ∧ pureOp P tv o = some (Eff.pure v) ∧ RV ε s v := by
    intro f r hK hr hp
    refine ⟨_, _, hK, hp, .int _ _ _ ?_⟩
    rw [hr]
    cases a <;> cases b <;> rfl
  have cm : ∀ {s : SB} {c : Bool}, K (.bool s) → (c = true ↔ s.holds) → pureOp P tv o = some (Eff.pure (.bool c)) → ∃ s v, K s ∧ pureOp P tv o = some (Eff.pure v) ∧ RV ε s v :=
    fun hK hc hp => ⟨_, _, hK, hp, .bool _ _ hc⟩
  cases op <;> simp only [binS] at h
  case shr =>
    cases b with
    | lit b =>
      simp only [] at h
      cases hd : decide (b < 0) with
      | true => rw [hd] at h; cases h
      | false =>
        rw [hd] at h
        refine fast h (if_neg (show ¬ b < 0 by simpa using hd)) (.int _ _ _ ?_)
        cases a <;> rfl
    | sym b => exact fast h.2 (if_neg (show ¬ b < 0 from Int.not_lt.2 h.1)) (.int _ _ _ rfl)
  case shl =>
    cases b with
    | lit b =>
      simp only [] at h
      cases hd : decide (b < 0) with
      | true => rw [hd] at h; cases h
      | false =>
        rw [hd] at h
        refine fast h (if_neg (show ¬ b < 0 by simpa using hd)) (.int _ _ _ ?_)
        cases a <;> rfl
    | sym b => exact fast h.2 (if_neg (show ¬ b < 0 from Int.not_lt.2 h.1)) (.int _ _ _ rfl)
  all_goals (obtain ⟨hk, h'⟩ := if_of h; clear h; subst hk; have h := h'; clear h')
  case add => exact ar (f := fun a b => k.wrap (a + b)) h rfl (fastBin_run (by simp [fastBin]) ho hx hy)
  case sub => exact ar (f := fun a b => k.wrap (a - b)) h rfl (fastBin_run (by simp [fastBin]) ho hx hy)
  case mul => exact ar (f := fun a b => k.wrap (a * b)) h rfl (fastBin_run (by simp [fastBin]) ho hx hy)
  case and => exact ar (f := fun a b => bitsOf (· &&& ·) k a b) h rfl (fastBin_run (by simp [fastBin, bitsOf]) ho hx hy)
  case or => exact ar (f := fun a b => bitsOf (· ||| ·) k a b) h rfl (fastBin_run (by simp [fastBin, bitsOf]) ho hx hy)
  case xor => exact ar (f := fun a b => bitsOf (· ^^^ ·) k a b) h rfl (fastBin_run (by simp [fastBin, bitsOf]) ho hx hy)
  case andNot => exact ar (f := fun a b => k.wrap ((BitVec.ofInt k.bits a &&& ~~~ BitVec.ofInt k.bits b).toNat : Int)) h rfl (extBin_run (.inr (.inr ⟨rfl, rfl⟩)) ho hx hy)
  case quo =>
    obtain ⟨h1, h2⟩ := req_of h
    rw [SB.not_holds, SI.eq_holds] at h1
    exact ar (f := fun a b => k.wrap (a.tdiv b)) h2 rfl (extBin_run (.inl ⟨rfl, h1, rfl⟩) ho hx hy)
  case rem =>
    obtain ⟨h1, h2⟩ := req_of h
    rw [SB.not_holds, SI.eq_holds] at h1
    exact ar (f := fun a b => a.tmod b) h2 rfl (extBin_run (.inr (.inl ⟨rfl, h1, rfl⟩)) ho hx hy)
  case eql => exact cm h (by rw [SI.eq_holds]; exact beq_iff_eq) (fastBin_run (by simp [fastBin]) ho hx hy)
  case neq => exact cm h (by rw [SB.not_holds, SI.eq_holds]; exact bne_iff_ne) (fastBin_run (by simp [fastBin]) ho hx hy)
  case lss => exact cm h (by rw [SI.lt_holds]; exact decide_eq_true_iff) (fastBin_run (by simp [fastBin]) ho hx hy)
  case leq => exact cm h (by rw [SI.le_holds]; exact decide_eq_true_iff) (fastBin_run (by simp [fastBin]) ho hx hy)
  case gtr => exact cm h (by rw [SI.lt_holds]; exact decide_eq_true_iff) (fastBin_run (by simp [fastBin]) ho hx hy)
  case geq => exact cm h (by rw [SI.le_holds]; exact decide_eq_true_iff) (fastBin_run (by simp [fastBin]) ho hx hy)
end
end
end Go.Proofs.Ytnnfcebnmogdmaa.VM
/- Values with labels: what is handed over. No conditions. -/
namespace Go.Proofs.Ytnnfcebnmogdmaa.VM
set_option linter.unusedSimpArgs false
set_option linter.unusedVariables false
open Go Go.RowKit
noncomputable section
section
variable {ε : Nat → Option BE} {H : SHeap} {L : Heap}

theorem imm_mono : ∀ (n m : Nat) (v : SV), n ≤ m → imm n v → imm m v
  | 0, _, _, _, h => by cases h
  | n + 1, 0, _, hle, _ => by omega
  | n + 1, m + 1, v, hle, h => by
    have ih := fun v => imm_mono n m v (by omega)
    cases v <;> simp only [imm] at h ⊢
    case agg cs => exact fun c hc => ih c (h c hc)
    case tup cs => exact fun c hc => ih c (h c hc)
    case iface t v => exact ih v h
    case func fn f c => exact ⟨fun v hv => ih v (h.1 v hv), fun v hv => ih v (h.2 v hv)⟩
    case slI fr cs n' tt =>
      refine ⟨h.1, ?_⟩
      cases cs with
      | lit l => exact fun c hc => ih c (h.2 c hc)
      | rows e k d fl xs => exact Nat.le_trans h.2 (by omega)
    case ptrI fr ex cs =>
      refine ⟨h.1, h.2.1, ?_⟩
      cases cs with
      | lit l => exact fun c hc => ih c (h.2.2 c hc)
      | rows e k d fl xs => exact Nat.le_trans h.2.2 (by omega)

theorem mapRL_imm {f : V → Option (V × List Nat)} : ∀ {l : List SV} {vs : List V}, RL ε l vs → (∀ s ∈ l, ∀ v, RV ε s v → ∃ w, f v = some (w, []) ∧ ∀ ε', RV ε' s w) → ∃ ws, mapRL f vs = some (ws, []) ∧ ∀ ε', RL ε' l ws
  | _, _, .nil, _ => ⟨[], rfl, fun _ => .nil⟩
  | s :: l, _, .cons r q, h => by
    obtain ⟨w, h1, h2⟩ := h s (List.mem_cons_self ..) _ r
    obtain ⟨ws, h3, h4⟩ := mapRL_imm q fun s hs => h s (List.mem_cons_of_mem _ hs)
    exact ⟨w :: ws, by simp [mapRL, h1, h3], fun ε' => .cons (h2 ε') (h4 ε')⟩
theorem rows_imm {α : Type} {e : α → List SV} {k d : Nat} {fl : Bool} {xs : List α} (hc : COK (.rows e k d fl xs)) : ∀ s ∈ (SC.rows e k d fl xs).list, imm d s := by
  intro s hs
  obtain ⟨x, _, hx⟩ := List.mem_flatMap.1 hs
  exact ((hc x).2.1 s hx).1
/-- What leads to no block of the call's own is handed on as it is. -/
theorem imm_reify {res : Bool} : ∀ (n m : Nat) (s : SV) (v : V), n ≤ m → imm n s → RV ε s v → ∃ w, reify L res m v = some (w, []) ∧ ∀ ε', RV ε' s w
  | 0, _, _, _, _, h, _ => by cases h
  | n + 1, 0, _, _, hle, _, _ => by omega
  | n + 1, m + 1, s, v, hle, h, r => by
    have ih := fun s v => imm_reify (res := res) n m s v (by omega)
    have ihl : ∀ {l : List SV} {vs : List V}, RL ε l vs → (∀ s ∈ l, imm n s) → ∃ ws, mapRL (reify L res m) vs = some (ws, []) ∧ ∀ ε', RL ε' l ws :=
      fun hl hi => mapRL_imm hl fun s hs v hv => ih s v (hi s hs) hv
    cases r <;> simp only [imm] at h
    case int k i m hm => exact ⟨_, rfl, fun _ => .int _ _ _ hm⟩
    case bool b c hb => exact ⟨_, rfl, fun _ => .bool _ _ hb⟩
    case str x => exact ⟨_, rfl, fun _ => .str x⟩
    case strS x => exact ⟨_, rfl, fun _ => .strS x⟩
    case nilIface => exact ⟨_, rfl, fun _ => .nilIface⟩
    case nilFunc => exact ⟨_, rfl, fun _ => .nilFunc⟩
    case nilPtr => exact ⟨_, rfl, fun _ => .nilPtr⟩
    case nilSl => exact ⟨_, rfl, fun _ => .nilSl⟩
    case agg q =>
      obtain ⟨ws, h1, h2⟩ := ihl q h
      exact ⟨.agg ws, by simp only [reify, h1, Option.map_some], fun ε' => .agg (h2 ε')⟩
    case tup q =>
      obtain ⟨ws, h1, h2⟩ := ihl q h
      exact ⟨.tup ws, by simp only [reify, h1, Option.map_some], fun ε' => .tup (h2 ε')⟩
    case iface t q =>
      obtain ⟨w, h1, h2⟩ := ih _ _ h q
      exact ⟨.iface _ w, by simp only [reify, h1, Option.map_some], fun ε' => .iface _ (h2 ε')⟩
    case func q1 q2 =>
      obtain ⟨ws, h1, h2⟩ := ihl q1 h.1
      obtain ⟨us, h3, h4⟩ := ihl q2 h.2
      exact ⟨.func _ ws us, by simp only [reify, h1, h3, List.append_nil], fun ε' => .func _ (h2 ε') (h4 ε')⟩
    case slI fr fr' tt tt' cs cs' n' m' q1 q2 q3 q4 q5 =>
      have hi : ∀ s ∈ cs.list, imm n s := by
        cases cs with
        | lit l => exact h.2
        | rows e k d fl xs => exact fun s hs => imm_mono d n s h.2 (rows_imm q5 s hs)
      obtain ⟨ws, h1, h2⟩ := ihl q4 hi
      exact ⟨.slI (fr' && res) ws _ tt', by simp only [reify, h1, Option.map_some], fun ε' => .slI (fun q => by rw [h.1] at q; cases q) q2 q3 (h2 ε') q5⟩
    case slIn q1 q2 => exact ⟨_, rfl, fun _ => .slIn q1 q2⟩
    case slI0 q1 q2 q3 q4 => exact ⟨_, rfl, fun _ => .slI0 (fun q => by rw [h.1] at q; cases q) q2 q3 q4⟩
    case ptrI fr fr' ex cs cs' rest q1 q2 q3 q4 =>
      have hr := q4 h.2.1
      subst hr
      have hi : ∀ s ∈ cs.list, imm n s := by
        cases cs with
        | lit l => exact h.2.2
        | rows e k d fl xs => exact fun s hs => imm_mono d n s h.2.2 (rows_imm q3 s hs)
      obtain ⟨ws, h1, h2⟩ := ihl q2 hi
      rw [List.append_nil]
      refine ⟨.ptrI (fr' && res) ws, by simp only [reify, h1, Option.map_some], fun ε' => ?_⟩
      have := RV.ptrI (ε := ε') (fr' := fr' && res) (fr := fr) (ex := ex) (rest := []) (fun q => by rw [h.1] at q; cases q) (h2 ε') q3 (fun _ => rfl)
      rwa [List.append_nil] at this

/-- The blocks that were looked at, by their labels. -/
def RS (ε : Nat → Option BE) (H : SHeap) (L : Heap) (rs rs' : List Nat) : Prop :=
  (∀ b ∈ rs, (sget H b).isSome = true) ∧ ∀ b' ∈ rs', (hget L b').isSome = true ∧ ∃ b ∈ rs, ∃ e v0, ε b = some e ∧ e.act = some (b', v0)
theorem RS.nil : RS ε H L [] [] := ⟨fun b hb => (List.not_mem_nil hb).elim, fun b hb => (List.not_mem_nil hb).elim⟩
theorem RS.append {a b a' b' : List Nat} (h : RS ε H L a a') (k : RS ε H L b b') : RS ε H L (a ++ b) (a' ++ b') := by
  refine ⟨fun x hx => ?_, fun x hx => ?_⟩
  · rcases List.mem_append.1 hx with q | q
    · exact h.1 x q
    · exact k.1 x q
  · rcases List.mem_append.1 hx with q | q
    · obtain ⟨h1, y, h2, h3⟩ := h.2 x q
      exact ⟨h1, y, List.mem_append_left _ h2, h3⟩
    · obtain ⟨h1, y, h2, h3⟩ := k.2 x q
      exact ⟨h1, y, List.mem_append_right _ h2, h3⟩

def Reified (ε : Nat → Option BE) (H : SHeap) (L : Heap) (res : Bool) (m : Nat) (v : V) (K : SV → List Nat → Prop) : Prop :=
  ∃ s rs w rs', K s rs ∧ reify L res m v = some (w, rs') ∧ (∀ ε', RV ε' s w) ∧ RS ε H L rs rs'
theorem sreifyL_of {res : Bool} {m : Nat} {f : SV → (SV → List Nat → Prop) → Prop} (hf : ∀ s v K, RV ε s v → f s K → Reified ε H L res m v K) :
    ∀ {l : List SV} {vs : List V} {K : List SV → List Nat → Prop}, RL ε l vs → sreifyL f l K → ∃ ss rs ws rs', K ss rs ∧ mapRL (reify L res m) vs = some (ws, rs') ∧ (∀ ε', RL ε' ss ws) ∧ RS ε H L rs rs'
  | _, _, K, .nil, h => ⟨[], [], [], [], h, rfl, fun _ => .nil, RS.nil⟩
  | _, _, K, .cons r q, h => by
    obtain ⟨s, rs, w, rs', h1, h2, h3, h4⟩ := hf _ _ _ r h
    obtain ⟨ss, rs2, ws, rs2', h5, h6, h7, h8⟩ := sreifyL_of hf q h1
    exact ⟨s :: ss, rs ++ rs2, w :: ws, rs' ++ rs2', h5, by simp [mapRL, h2, h6], fun ε' => .cons (h3 ε') (h7 ε'), h4.append h8⟩
theorem SCreify_of {res : Bool} {n m : Nat} (hnm : n ≤ m) {f : SV → (SV → List Nat → Prop) → Prop} (hf : ∀ s v K, RV ε s v → f s K → Reified ε H L res m v K) {cs : SC} {vs : List V} {K : SC → List Nat → Prop} (hc : COK cs) (hr : RL ε cs.list vs) (h : cs.reify n f K) :
    ∃ c rs ws rs', K c rs ∧ COK c ∧ mapRL (reify L res m) vs = some (ws, rs') ∧ (∀ ε', RL ε' c.list ws) ∧ RS ε H L rs rs' := by
  cases cs with
  | lit l =>
    obtain ⟨ss, rs, ws, rs', h1, h2, h3, h4⟩ := sreifyL_of hf (show RL ε l vs from hr) h
    exact ⟨.lit ss, rs, ws, rs', h1, trivial, h2, h3, h4⟩
  | rows e k d fl xs =>
    obtain ⟨h1, h2⟩ := bif_of (show bif Nat.ble d n then K (.rows e k d fl xs) [] else Stuck 218 from h)
    obtain ⟨ws, h3, h4⟩ := mapRL_imm (f := reify L res m) hr fun s hs v hv => imm_reify d m s v (Nat.le_trans (bleT h1) hnm) (rows_imm hc s hs) hv
    exact ⟨_, [], ws, [], h2, hc, h3, h4, RS.nil⟩
theorem sreify_of (hH : RH ε H L) {res : Bool} : ∀ (n m : Nat) (s : SV) (v : V) (K : SV → List Nat → Prop), n ≤ m → RV ε s v → sreify H res n s K → Reified ε H L res m v K
  | 0, _, _, _, _, _, _, h => by cases h
  | n + 1, 0, _, _, _, hle, _, _ => by omega
  | n + 1, mm + 1, s, v, K, hle, r, h => by
    have ih := fun s v K => sreify_of hH (res := res) n mm s v K (by omega)
    have ihl := fun {l vs K} => sreifyL_of (K := K) (l := l) (vs := vs) ih
    cases s <;> simp only [sreify] at h
    case any => cases h
    case int k i => cases r with | int _ _ m hm => exact ⟨_, _, _, _, h, rfl, fun _ => .int _ _ _ hm, RS.nil⟩
    case bool b => cases r with | bool _ c hb => exact ⟨_, _, _, _, h, rfl, fun _ => .bool _ _ hb, RS.nil⟩
    case str x => cases r; exact ⟨_, _, _, _, h, rfl, fun _ => .str _, RS.nil⟩
    case strS x => cases r; exact ⟨_, _, _, _, h, rfl, fun _ => .strS _, RS.nil⟩
    case nilIface => cases r; exact ⟨_, _, _, _, h, rfl, fun _ => .nilIface, RS.nil⟩
    case nilFunc => cases r; exact ⟨_, _, _, _, h, rfl, fun _ => .nilFunc, RS.nil⟩
    case nilPtr => cases r; exact ⟨_, _, _, _, h, rfl, fun _ => .nilPtr, RS.nil⟩
    case nilSl => cases r; exact ⟨_, _, _, _, h, rfl, fun _ => .nilSl, RS.nil⟩
    case agg cs =>
      cases r with
      | agg q =>
        obtain ⟨ss, rs, ws, rs', h1, h2, h3, h4⟩ := ihl q h
        exact ⟨_, _, .agg ws, rs', h1, by simp only [reify, h2, Option.map_some], fun ε' => .agg (h3 ε'), h4⟩
    case tup cs =>
      cases r with
      | tup q =>
        obtain ⟨ss, rs, ws, rs', h1, h2, h3, h4⟩ := ihl q h
        exact ⟨_, _, .tup ws, rs', h1, by simp only [reify, h2, Option.map_some], fun ε' => .tup (h3 ε'), h4⟩
    case iface t x =>
      cases r with
      | iface _ q =>
        obtain ⟨ss, rs, w, rs', h1, h2, h3, h4⟩ := ih _ _ _ q h
        exact ⟨_, _, .iface t w, rs', h1, by simp only [reify, h2, Option.map_some], fun ε' => .iface _ (h3 ε'), h4⟩
    case func fn f c =>
      cases r with
      | func _ q1 q2 =>
        obtain ⟨ss, rs, ws, rs', h1, h2, h3, h4⟩ := ihl q1 h
        obtain ⟨ss2, rs2, ws2, rs2', h5, h6, h7, h8⟩ := ihl q2 h1
        exact ⟨_, _, .func fn ws ws2, rs' ++ rs2', h5, by simp only [reify, h2, h6], fun ε' => .func _ (h3 ε') (h7 ε'), h4.append h8⟩
    case ptrI fr ex cs =>
      obtain ⟨hex, h⟩ := bif_of h
      cases r with
      | ptrI q1 q2 q3 q4 =>
        rename_i fr' cs' rest
        have hr := q4 hex
        subst hr
        rw [List.append_nil]
        obtain ⟨c, rs, ws, rs', h1, hc, h2, h3, h4⟩ := SCreify_of (by omega) ih q3 q2 h
        refine ⟨_, _, .ptrI (fr' && res) ws, rs', h1, by simp only [reify, h2, Option.map_some], fun ε' => ?_, h4⟩
        have := RV.ptrI (ε := ε') (fr' := fr' && res) (fr := fr && res) (ex := true) (rest := []) (fun q => by
          simp only [Bool.and_eq_true] at q ⊢
          exact ⟨q1 q.1, q.2⟩) (h3 ε') hc (fun _ => rfl)
        rwa [List.append_nil] at this
    case slI fr cs m tt =>
      obtain ⟨hfit, h⟩ := bif_of h
      cases r with
      | slI q1 q2 q3 q4 q5 =>
        rename_i fr' tt' cs' m'
        obtain ⟨c, rs, ws, rs', h1, hc, h2, h3, h4⟩ := SCreify_of (by omega) ih q5 q4 h
        exact ⟨_, _, .slI (fr' && res) ws m' tt', rs', h1, by simp only [reify, h2, Option.map_some], fun ε' => .slI (fun q => by
          simp only [Bool.and_eq_true] at q ⊢
          exact ⟨q1 q.1, q.2⟩) q2 q3 (h3 ε') hc, h4⟩
      | slIn q1 q2 =>
        cases cs with
        | lit l =>
          cases l with
          | nil => exact ⟨_, _, _, _, h, rfl, fun ε' => .slIn q1 trivial, RS.nil⟩
          | cons x l => cases m with
            | lit k => simp only [fitsS, SN.val_lit] at hfit q1; subst q1; cases hfit
            | sym k => cases hfit
        | rows e k d fl xs =>
          obtain ⟨g1, g2⟩ := bif_of (show bif Nat.ble d n then _ else Stuck 218 from h)
          exact ⟨_, _, _, _, g2, rfl, fun ε' => .slIn q1 q2, RS.nil⟩
      | slI0 q1 q2 q3 q4 =>
        rename_i fr' tt'
        cases cs with
        | lit l =>
          cases l with
          | nil => exact ⟨_, _, .slI (fr' && res) [] 0 tt', [], h, rfl, fun ε' => .slI0 (fun q => by
              simp only [Bool.and_eq_true] at q ⊢
              exact ⟨q1 q.1, q.2⟩) q2 q3 trivial, RS.nil⟩
          | cons x l => cases m with
            | lit k => simp only [fitsS, SN.val_lit] at hfit q3; subst q3; cases hfit
            | sym k => cases hfit
        | rows e k d fl xs =>
          obtain ⟨g1, g2⟩ := bif_of (show bif Nat.ble d n then _ else Stuck 218 from h)
          exact ⟨_, _, .slI (fr' && res) [] 0 tt', [], g2, rfl, fun ε' => .slI0 (fun q => by
              simp only [Bool.and_eq_true] at q ⊢
              exact ⟨q1 q.1, q.2⟩) q2 q3 q4, RS.nil⟩
    case ptrB b e k f ver =>
      split at h
      · rename_i blk e hb
        obtain ⟨h0, h⟩ := bif_of h
        obtain ⟨hver, hlz⟩ := andT h0
        obtain ⟨e0, b', v0, ablk, g1, g2, g3, rfl, g5, g6, g7, g8, g9, g10⟩ := ptrB_at hH hb hver r
        split at h
        · rename_i l hl
          obtain ⟨h1, h⟩ := bif_of h
          have h1 := bleT h1
          rw [slen_eq] at h1
          rw [hl] at g9
          rw [sdrop_eq] at h
          obtain ⟨ss, rs, ws, rs', k1, k2, k3, k4⟩ := ihl (RL.drop (show RL ε l ablk.cells from g9) (e * k + f)) h
          refine ⟨_, _, .ptrI res ws, b' :: rs', k1, ?_, fun ε' => ?_, ?_⟩
          · simp only [reify, g5, g6, if_true, SN.val_lit, k2, Option.map_some]
          · have := RV.ptrI (ε := ε') (fr' := res) (fr := res) (ex := true) (cs := .lit ss) (rest := []) id (k3 ε') trivial (fun _ => rfl)
            rwa [List.append_nil] at this
          · refine RS.append (a := [b]) (a' := [b']) ⟨fun x hx => ?_, fun x hx => ?_⟩ k4
            · rw [List.mem_singleton.1 hx, hb]; rfl
            · rw [List.mem_singleton.1 hx, g5]
              exact ⟨rfl, b, List.mem_singleton.2 rfl, e0, v0, g1, g2⟩
        · cases h
      · cases h
    case slB b e k ver m =>
      split at h
      · rename_i blk hb
        obtain ⟨h0, h⟩ := bif_of h
        obtain ⟨hver, hk⟩ := andT h0
        have hk := beqT hk
        subst hk
        obtain ⟨e0, g1, g3, gc, hq⟩ := slB_at' hH hb hver r
        rcases hq with ⟨b', v0, ablk, q2, rfl, q5, q6, q7, q8, q9⟩ | ⟨q1, q2, rfl, q4, q5, q6⟩
        · obtain ⟨c, h3, h4, h5, h6, h7⟩ := SC.cut_of h gc q9
          obtain ⟨c2, rs, ws, rs', k1, kc, k2, k3, k4⟩ := SCreify_of (by omega) ih h4 h6 h3
          refine ⟨_, _, .slI res ws m.val false, b' :: rs', k1, ?_, fun ε' => .slI id id rfl (k3 ε') kc, ?_⟩
          · simp only [reify, q5]
            rw [if_pos ⟨q6, by rw [q7, ← Nat.add_mul]; exact h5⟩, q7, k2]
            rfl
          · refine RS.append (a := [b]) (a' := [b']) ⟨fun x hx => ?_, fun x hx => ?_⟩ k4
            · rw [List.mem_singleton.1 hx, hb]; rfl
            · rw [List.mem_singleton.1 hx, q5]
              exact ⟨rfl, b, List.mem_singleton.2 rfl, e0, v0, g1, q2⟩
        · obtain ⟨c, h3, h4, h5, h6, h7⟩ := SC.cut_of (ε := ε) (A := []) h gc (by rw [q6]; exact .nil)
          have h6' : RL ε c.list [] := by simpa using h6
          obtain ⟨c2, rs, ws, rs', k1, kc, k2, k3, k4⟩ := SCreify_of (by omega) ih h4 h6' h3
          cases k2
          refine ⟨_, _, .nilSl, [], k1, rfl, fun ε' => .slIn q4 kc, ⟨fun x hx => ?_, fun x hx => (List.not_mem_nil hx).elim⟩⟩
          rcases List.mem_cons.1 hx with rfl | hx
          · rw [hb]; rfl
          · exact k4.1 x hx
      · cases h
end
end
end Go.Proofs.Ytnnfcebnmogdmaa.VM
/- Values with labels: calls, and all operations. No conditions. -/
namespace Go.Proofs.Ytnnfcebnmogdmaa.VM
set_option linter.unusedSimpArgs false
set_option linter.unusedVariables false
open Go Go.RowKit
noncomputable section
section
variable {P : Program} {ε : Nat → Option BE} {H : SHeap} {L : Heap} {t : List SV} {tv : List V} {base vbase : Nat} {cx : SCfg}

theorem aliasL_of {f : SV → Bool} {g : V → Bool} : ∀ {l : List SV} {vs : List V}, RL ε l vs → (∀ s ∈ l, ∀ v, RV ε s v → f s = false → g v = false) → saliasL f l = false → aliasL g vs = false
  | _, _, .nil, _, _ => rfl
  | s :: l, _, .cons r q, h, ha => by
    simp only [saliasL, Bool.or_eq_false_iff] at ha
    simp only [aliasL, Bool.or_eq_false_iff]
    exact ⟨h s (List.mem_cons_self ..) _ r ha.1, aliasL_of q (fun s hs => h s (List.mem_cons_of_mem _ hs)) ha.2⟩
theorem scalar_alias {s : SV} {v : V} (r : RV ε s v) (h : scalar s) (m : Nat) : alias (m + 1) v = false := by
  cases r <;> simp only [scalar] at h <;> rfl
theorem flat_alias {α : Type} {e : α → List SV} {k d : Nat} {xs : List α} (hc : COK (.rows e k d true xs)) {vs : List V} (hr : RL ε (SC.rows e k d true xs).list vs) (m : Nat) : aliasL (alias (m + 1)) vs = false := by
  have hall : ∀ s ∈ (SC.rows e k d true xs).list, scalar s := by
    intro s hs
    obtain ⟨x, _, hx⟩ := List.mem_flatMap.1 hs
    exact (hc x).2.2 rfl s hx
  revert hall hr
  generalize (SC.rows e k d true xs).list = l
  intro hr hall
  clear hc
  induction l generalizing vs with
  | nil => cases hr; rfl
  | cons s l ih =>
    cases hr with
    | cons r q =>
      simp only [aliasL, Bool.or_eq_false_iff]
      exact ⟨scalar_alias r (hall s (List.mem_cons_self ..)) m, ih q fun w hw => hall w (List.mem_cons_of_mem _ hw)⟩
theorem salias_of (hcur : ∀ b e, ε b = some e → e.sv = 0 ∧ ∃ p, e.act = some p) : ∀ (n m : Nat) (s : SV) (v : V), n ≤ m → RV ε s v → salias n s = false → alias (m + 1) v = false
  | 0, _, _, _, _, _, h => by cases h
  | n + 1, 0, _, _, hle, _, _ => by omega
  | n + 1, m + 1, s, v, hle, r, h => by
    have ih := fun s v => salias_of hcur n m s v (by omega)
    have ihl : ∀ {l : List SV} {vs : List V}, RL ε l vs → saliasL (salias n) l = false → aliasL (alias (m + 1)) vs = false := fun hl ha => aliasL_of hl (fun s _ v hv hs => ih s v hv hs) ha
    cases r <;> simp only [salias] at h
    case any => cases h
    case int => rfl
    case bool => rfl
    case str => rfl
    case strS => rfl
    case nilIface => rfl
    case nilFunc => rfl
    case nilPtr => rfl
    case nilSl => rfl
    case agg q => exact ihl q h
    case tup q => exact ihl q h
    case iface q => exact ih _ _ q h
    case func q1 q2 =>
      simp only [Bool.or_eq_false_iff] at h
      simp only [alias, Bool.or_eq_false_iff]
      exact ⟨ihl q1 h.1, ihl q2 h.2⟩
    case ptrI fr fr' ex cs cs' rest q1 q2 q3 q4 =>
      simp only [Bool.or_eq_false_iff, Bool.not_eq_false'] at h
      obtain ⟨⟨h1, h2⟩, h3⟩ := h
      have hr := q4 h2
      subst hr
      rw [List.append_nil]
      simp only [alias, Bool.or_eq_false_iff, Bool.not_eq_false']
      refine ⟨q1 h1, ?_⟩
      cases cs with
      | lit l => exact ihl (show RL ε l cs' from q2) h3
      | rows e k d fl xs =>
        simp only [Bool.not_eq_false'] at h3
        subst h3
        exact flat_alias q3 q2 m
    case ptrB he hv hp ho =>
      obtain ⟨h1, p, h2⟩ := hcur _ _ he
      obtain ⟨b', v', _, rfl⟩ := hp (by omega)
      rfl
    case slI fr fr' tt tt' cs cs' n' m' q1 q2 q3 q4 q5 =>
      simp only [alias]
      split
      · rfl
      · rename_i hne
        simp only [Bool.or_eq_false_iff, Bool.not_eq_false']
        cases cs with
        | lit l =>
          have hh : (!fr || saliasL (salias n) l) = false := by
            cases l with
            | nil =>
              cases n' with
              | lit k =>
                cases k with
                | zero => cases q4; subst q3; simp at hne
                | succ k => exact h
              | sym k => exact h
            | cons x l => exact h
          simp only [Bool.or_eq_false_iff, Bool.not_eq_false'] at hh
          exact ⟨q1 hh.1, ihl (show RL ε l cs' from q4) hh.2⟩
        | rows e k d fl xs =>
          simp only [Bool.or_eq_false_iff, Bool.not_eq_false'] at h
          obtain ⟨h1, h2⟩ := h
          subst h2
          exact ⟨q1 h1, flat_alias q5 q4 m⟩
    case slIn => rfl
    case slI0 => rfl
    case slB he hv hp ho =>
      obtain ⟨h1, p, h2⟩ := hcur _ _ he
      rcases hp (by omega) with ⟨b', v', _, rfl⟩ | ⟨q, _⟩
      · rfl
      · rw [h2] at q; cases q

/-! Blocks that come back. -/
def newsE (ε : Nat → Option BE) (base vbase n : Nat) : Nat → Option BE := fun b => if base ≤ b ∧ b < base + n then some ⟨0, some (vbase + (b - base), 0)⟩ else ε b
inductive NewR (ε : Nat → Option BE) : List SBlk → List Blk → Prop
  | nil : NewR ε [] []
  | cons {s : SBlk} {b : Blk} {ss : List SBlk} {bs : List Blk} : COK s.cells → s.ver = 0 → b.ver = 0 → b.k = s.k → (s.fz = false → b.fz = false) → s.lz = false → RL ε s.cells.list b.cells → NewR ε ss bs → NewR ε (s :: ss) (b :: bs)
theorem NewR.length {ss : List SBlk} {bs : List Blk} (h : NewR ε ss bs) : ss.length = bs.length := by
  induction h with
  | nil => rfl
  | cons _ _ _ _ _ _ _ _ ih => simp [ih]
theorem NewR.mono {ε' : Nat → Option BE} (hx : EX ε ε') {ss : List SBlk} {bs : List Blk} (h : NewR ε ss bs) : NewR ε' ss bs := by
  induction h with
  | nil => exact .nil
  | cons h1 h2 h3 h4 h5 h6 h7 _ ih => exact .cons h1 h2 h3 h4 h5 h6 (h7.mono hx) ih
theorem NewR.get {ss : List SBlk} {bs : List Blk} (h : NewR ε ss bs) : ∀ (i : Nat) (s : SBlk), ss[i]? = some s → ∃ b, bs[i]? = some b ∧ COK s.cells ∧ s.ver = 0 ∧ b.ver = 0 ∧ b.k = s.k ∧ (s.fz = false → b.fz = false) ∧ s.lz = false ∧ RL ε s.cells.list b.cells := by
  induction h with
  | nil => intro i s hs; simp at hs
  | cons h1 h2 h3 h4 h5 h6 h7 _ ih =>
    intro i s hs
    cases i with
    | zero => simp at hs; subst hs; exact ⟨_, rfl, h1, h2, h3, h4, h5, h6, h7⟩
    | succ i => simp at hs; obtain ⟨b, g⟩ := ih i s hs; exact ⟨b, by simpa using g.1, g.2⟩
theorem sget_snews : ∀ (l : List SBlk) (j : Nat) (H : SHeap) (i : Nat), sget (snews l j H) i = if j ≤ i ∧ i < j + l.length then l[i - j]? else sget H i
  | [], j, H, i => by simp [snews]; intro h1 h2; omega
  | b :: r, j, H, i => by
    rw [snews, sget_snews r, sget_cons]
    simp only [List.length_cons]
    by_cases h1 : j + 1 ≤ i ∧ i < j + 1 + r.length
    · rw [if_pos h1, if_pos (by omega), show i - j = (i - (j + 1)) + 1 by omega, List.getElem?_cons_succ]
    · rw [if_neg h1]
      by_cases h2 : i = j
      · subst h2
        rw [if_pos rfl, if_pos (by omega)]
        simp
      · rw [if_neg h2, if_neg (by omega)]
theorem sget_ssets_fz {H : SHeap} : ∀ {rs : List Nat} {wr : List (Nat × SBlk)}, sfreeze H rs = some wr → ∀ (H' : SHeap), (∀ p ∈ wr, sget H' p.1 = sget H p.1) → ∀ j, sget (ssets wr H') j = if j ∈ rs then (sget H j).map fun b => ⟨b.cells, b.k, b.ver, true, b.lz⟩ else sget H' j
  | [], wr, h, H', _, j => by cases h; simp [ssets]
  | b :: rs, wr, h, H', hw, j => by
    simp only [sfreeze] at h
    cases h1 : sget H b with
    | none => rw [h1] at h; cases h
    | some blk =>
      cases h2 : sfreeze H rs with
      | none => rw [h1, h2] at h; cases h
      | some l =>
        rw [h1, h2] at h
        cases h
        rw [ssets]
        -- the rest, over a heap one of whose blocks is told anew
        have hgen : ∀ {rs : List Nat} {wr : List (Nat × SBlk)}, sfreeze H rs = some wr → ∀ (G : SHeap) (j : Nat), sget (ssets wr G) j = if j ∈ rs then (sget H j).map fun b => ⟨b.cells, b.k, b.ver, true, b.lz⟩ else sget G j := by
          intro rs
          induction rs with
          | nil => intro wr h G j; cases h; simp [ssets]
          | cons c rs ih =>
            intro wr h G j
            simp only [sfreeze] at h
            cases g1 : sget H c with
            | none => rw [g1] at h; cases h
            | some cb =>
              cases g2 : sfreeze H rs with
              | none => rw [g1, g2] at h; cases h
              | some m =>
                rw [g1, g2] at h
                cases h
                rw [ssets, ih g2, sget_sset]
                by_cases q1 : j ∈ rs
                · rw [if_pos q1, if_pos (List.mem_cons_of_mem _ q1)]
                · rw [if_neg q1]
                  by_cases q2 : j = c
                  · subst q2
                    rw [if_pos rfl, if_pos (List.mem_cons_self ..), g1]
                    rfl
                  · rw [if_neg q2, if_neg (by simp [q1, q2])]
        rw [hgen h2, sget_sset]
        by_cases q1 : j ∈ rs
        · rw [if_pos q1, if_pos (List.mem_cons_of_mem _ q1)]
        · rw [if_neg q1]
          by_cases q2 : j = b
          · subst q2
            rw [if_pos rfl, if_pos (List.mem_cons_self ..), h1]
            rfl
          · rw [if_neg q2, if_neg (by simp [q1, q2])]
theorem freezeL_get : ∀ {rs : List Nat}, (∀ b ∈ rs, (hget L b).isSome = true) → ∃ wr, freezeL L rs = some wr ∧ (∀ p ∈ wr, (hget L p.1).isSome = true ∧ p.1 ∈ rs) ∧ ∀ (G : Heap) j, hget (hsets wr G) j = if j ∈ rs then (hget L j).map fun b => { b with fz := true } else hget G j
  | [], _ => ⟨[], rfl, fun p hp => (List.not_mem_nil hp).elim, fun G j => by rw [hsets, if_neg List.not_mem_nil]⟩
  | b :: rs, h => by
    obtain ⟨wr, h1, h2, h3⟩ := freezeL_get fun x hx => h x (List.mem_cons_of_mem _ hx)
    obtain ⟨blk, hb⟩ := Option.isSome_iff_exists.1 (h b (List.mem_cons_self ..))
    refine ⟨(b, { blk with fz := true }) :: wr, by simp [freezeL, hb, h1], fun p hp => ?_, fun G j => ?_⟩
    · rcases List.mem_cons.1 hp with rfl | hp
      · simp [hb]
      · exact ⟨(h2 p hp).1, List.mem_cons_of_mem _ (h2 p hp).2⟩
    · rw [hsets, h3, hget_hset]
      unfold updF
      by_cases q1 : j ∈ rs
      · rw [if_pos q1, if_pos (List.mem_cons_of_mem _ q1)]
      · rw [if_neg q1]
        by_cases q2 : j = b
        · subst q2
          rw [if_pos rfl, if_pos (List.mem_cons_self ..), hb]
          rfl
        · rw [if_neg q2, if_neg (by simp [q1, q2])]

theorem newsE_ex {n : Nat} (hf : ∀ b, base ≤ b → ε b = none) : EX ε (newsE ε base vbase n) := fun b e he => ⟨e, by
  unfold newsE
  rw [if_neg (fun q => by rw [hf b q.1] at he; cases he)]
  exact he, .inl rfl⟩
theorem newsE_none {n : Nat} : EX (newsE (fun _ => none) base vbase n) (newsE ε base vbase n) := by
  intro b e he
  refine ⟨e, ?_, .inl rfl⟩
  unfold newsE at he ⊢
  split at he
  · rename_i h; rw [if_pos h]; exact he
  · cases he
/-- What a call leaves: rows that are written no more, and new ones. -/
theorem sfreeze_mem : ∀ {rs : List Nat} {wr : List (Nat × SBlk)}, sfreeze H rs = some wr → ∀ b ∈ rs, ∃ x, (b, x) ∈ wr
  | [], wr, _, b, hb => by cases hb
  | c :: rs, wr, h, b, hb => by
    simp only [sfreeze] at h
    cases g1 : sget H c with
    | none => rw [g1] at h; cases h
    | some cb =>
      cases g2 : sfreeze H rs with
      | none => rw [g1, g2] at h; cases h
      | some m =>
        rw [g1, g2] at h
        cases h
        rcases List.mem_cons.1 hb with rfl | hb
        · exact ⟨_, List.mem_cons_self ..⟩
        · obtain ⟨x, hx⟩ := sfreeze_mem g2 b hb
          exact ⟨x, List.mem_cons_of_mem _ hx⟩
theorem call_er {rs rz' : List Nat} {wr : List (Nat × SBlk)} {wr' : List (Nat × Blk)} {ss : List SBlk} {bs : List Blk} {s : SV} {v : V} (hH : RH ε H L) (hf : ∀ b, base ≤ b → ε b = none) (hfz : sfreeze H rs = some wr)
    (hfz' : ∀ (G : Heap) j, hget (hsets wr' G) j = if j ∈ rz' then (hget L j).map fun b => { b with fz := true } else hget G j) (hwi : ∀ p ∈ wr', (hget L p.1).isSome = true ∧ p.1 ∈ rz')
    (hrs : ∀ b' ∈ rz', (hget L b').isSome = true ∧ ∃ b ∈ rs, ∃ e v0, ε b = some e ∧ e.act = some (b', v0)) (hin : ∀ b ∈ rs, (sget H b).isSome = true)
    (hwe : rs = [] → wr' = []) (hn : NewR (newsE (fun _ => none) base vbase ss.length) ss bs) (hv : RV (newsE (fun _ => none) base vbase ss.length) s v) :
    ER ε (newsE ε base vbase ss.length) H L base vbase ⟨s, wr, ss⟩ ⟨v, wr', bs⟩ := by
  have hex := newsE_ex (vbase := vbase) (n := ss.length) hf
  have hlen := hn.length
  refine ⟨hex, hv.mono newsE_none, fun H' L' hr hw hl hs => ?_, fun b hb hn => ?_, fun p hp => (hwi p hp).1, fun _ b e he => ?_, fun q => hwe ?_, fun _ => hlen, fun sb eb b' v0 h k => ⟨eb, v0, by unfold newsE; rw [if_neg (fun q => by rw [hf sb q.1] at h; cases h)]; exact h, k⟩, fun p hp => ?_⟩
  rotate_left 2
  · unfold newsE
    rw [if_neg (fun q => by rw [hf b q.1] at he; cases he)]
    exact he
  · cases rs with
    | nil => rfl
    | cons c rs =>
      exfalso
      simp only [sfreeze] at hfz
      cases g1 : sget H c with
      | none => rw [g1] at hfz; cases hfz
      | some cb => cases g2 : sfreeze H rs with
        | none => rw [g1, g2] at hfz; cases hfz
        | some m => rw [g1, g2] at hfz; cases hfz; cases q
  · obtain ⟨_, b, hb, e, v0, k1, k2⟩ := hrs p.1 (hwi p hp).2
    obtain ⟨x, hx⟩ := sfreeze_mem hfz b hb
    obtain ⟨blk, hblk⟩ := Option.isSome_iff_exists.1 (hin b hb)
    exact ⟨(b, x), hx, blk, e, v0, hblk, k1, k2⟩
  · have gS : ∀ j, sget (sapply H' base ⟨s, wr, ss⟩) j = if base ≤ j ∧ j < base + ss.length then ss[j - base]? else if j ∈ rs then (sget H j).map fun b => ⟨b.cells, b.k, b.ver, true, b.lz⟩ else sget H' j := by
      intro j
      rw [sapply, sget_snews, sget_ssets_fz hfz H' hw]
    have gL : ∀ j, hget (applyL L' vbase ⟨v, wr', bs⟩) j = if vbase ≤ j ∧ j < vbase + bs.length then bs[j - vbase]? else if j ∈ rz' then (hget L j).map fun b => { b with fz := true } else hget L' j := by
      intro j
      rw [applyL, hget_hnews, newsF_get, hfz']
    have hHw : ∀ b ∈ rs, sget H' b = sget H b := by
      intro b hb
      obtain ⟨blk, hblk⟩ := Option.isSome_iff_exists.1 (hin b hb)
      have hmem : ∀ {rs : List Nat} {wr : List (Nat × SBlk)}, sfreeze H rs = some wr → ∀ b ∈ rs, ∃ x, (b, x) ∈ wr := by
        intro rs
        induction rs with
        | nil => intro wr _ b hb; cases hb
        | cons c rs ih =>
          intro wr h b hb
          simp only [sfreeze] at h
          cases g1 : sget H c with
          | none => rw [g1] at h; cases h
          | some cb =>
            cases g2 : sfreeze H rs with
            | none => rw [g1, g2] at h; cases h
            | some m =>
              rw [g1, g2] at h
              cases h
              rcases List.mem_cons.1 hb with rfl | hb
              · exact ⟨_, List.mem_cons_self ..⟩
              · obtain ⟨x, hx⟩ := ih g2 b hb
                exact ⟨x, List.mem_cons_of_mem _ hx⟩
      obtain ⟨x, hx⟩ := hmem hfz b hb
      exact hw (b, x) hx
    have old : ∀ b e, ε b = some e → newsE ε base vbase ss.length b = some e ∧ ¬ (base ≤ b ∧ b < base + ss.length) := by
      intro b e he
      have : ¬ (base ≤ b ∧ b < base + ss.length) := fun q => by rw [hf b q.1] at he; cases he
      exact ⟨by unfold newsE; rw [if_neg this]; exact he, this⟩
    -- an elder label's block
    have elder : ∀ b blk1, ¬ (base ≤ b ∧ b < base + ss.length) → sget (sapply H' base ⟨s, wr, ss⟩) b = some blk1 → ∃ blk, sget H' b = some blk ∧ blk1.cells = blk.cells ∧ blk1.k = blk.k ∧ blk1.ver = blk.ver ∧ blk1.lz = blk.lz ∧ (b ∉ rs → blk1.fz = blk.fz) ∧ (b ∈ rs → blk1.fz = true) := by
      intro b blk1 hb h1
      rw [gS, if_neg hb] at h1
      by_cases q : b ∈ rs
      · rw [if_pos q, ← hHw b q] at h1
        obtain ⟨blk, g1, rfl⟩ := mapU_some h1
        exact ⟨blk, g1, rfl, rfl, rfl, rfl, fun q' => absurd q q', fun _ => rfl⟩
      · rw [if_neg q] at h1
        exact ⟨blk1, h1, rfl, rfl, rfl, rfl, fun _ => rfl, fun q' => absurd q' q⟩
    refine ⟨fun b blk1 h1 => ?_, fun b1 b2 blk1 blk2 e1 e2 c v1 v2 h1 h2 h3 h4 h5 h6 => ?_⟩
    · by_cases hb : base ≤ b ∧ b < base + ss.length
      · rw [gS, if_pos hb] at h1
        obtain ⟨ab, k1, k2, k3, k4, k5, k6, k7, k8⟩ := hn.get _ _ h1
        refine ⟨⟨0, some (vbase + (b - base), 0)⟩, by unfold newsE; rw [if_pos hb], k3.symm, k2, .inr ⟨_, _, ab, rfl, ?_, k4, k5, k6, k8.mono newsE_none⟩⟩
        rw [gL, if_pos (by omega), Nat.add_sub_cancel_left]
        exact k1
      · obtain ⟨blk, g1, g2, g3, g4, g5, g6, g7⟩ := elder b blk1 hb h1
        obtain ⟨e, k1, k2, k3, k4⟩ := hr.at_ b blk g1
        refine ⟨e, (old b e k1).1, k2.trans g4.symm, by rw [g2]; exact k3, ?_⟩
        rcases k4 with ⟨k4, k5, k6⟩ | ⟨b', v', ab, k4, k5, k6, k7, k8, k9⟩
        · exact .inl ⟨g5.trans k4, k5, by rw [g2]; exact k6⟩
        · right
          have hlt : b' < vbase := by
            rcases Nat.lt_or_ge b' vbase with q | q
            · exact q
            · rw [hl b' q] at k5; cases k5
          by_cases q : b' ∈ rz'
          · obtain ⟨q1, c, hc, e2, v2, q2, q3⟩ := hrs b' q
            obtain ⟨cb, hcb⟩ := Option.isSome_iff_exists.1 (hin c hc)
            have hcc : c = b := hr.inj c b cb blk e2 e b' v2 v' (by rw [hHw c hc]; exact hcb) g1 q2 k1 q3 k4
            subst hcc
            -- the same block in both heaps
            obtain ⟨e', j1, j2, j3, j4⟩ := hH.at_ c cb hcb
            rw [k1] at j1; cases j1
            rcases j4 with ⟨_, j5, _⟩ | ⟨b3, v3, ab3, j5, j6, j7, j8, j9, j10⟩
            · rw [k4] at j5; cases j5
            · rw [k4] at j5; cases j5
              have hcells : cb = blk := by
                have := hHw c hc
                rw [g1, hcb] at this
                exact (Option.some.inj this).symm
              subst hcells
              refine ⟨b', v', { ab3 with fz := true }, k4, ?_, j7, j8.trans g3.symm, fun q' => (by rw [g7 hc] at q'; cases q'), by rw [g2]; exact j10.mono hex⟩
              rw [gL, if_neg (by omega), if_pos q, j6]
              rfl
          · refine ⟨b', v', ab, k4, by rw [gL, if_neg (by omega), if_neg q]; exact k5, k6, k7.trans g3.symm, fun q' => k8 ?_, by rw [g2]; exact k9.mono hex⟩
            by_cases q2 : b ∈ rs
            · rw [g7 q2] at q'; cases q'
            · rw [← g6 q2]; exact q'
    · have side : ∀ b blk e v0, sget (sapply H' base ⟨s, wr, ss⟩) b = some blk → newsE ε base vbase ss.length b = some e → e.act = some (c, v0) → (base ≤ b ∧ b < base + ss.length ∧ c = vbase + (b - base)) ∨ (∃ blk0, sget H' b = some blk0 ∧ ε b = some e ∧ c < vbase) := by
        intro b blk e v0 g1 g2 g3
        by_cases hb : base ≤ b ∧ b < base + ss.length
        · unfold newsE at g2
          rw [if_pos hb] at g2
          cases g2
          simp only [Option.some.injEq, Prod.mk.injEq] at g3
          exact .inl ⟨hb.1, hb.2, g3.1.symm⟩
        · obtain ⟨blk0, k1, _⟩ := elder b blk hb g1
          have g2' : ε b = some e := by unfold newsE at g2; rw [if_neg hb] at g2; exact g2
          refine .inr ⟨blk0, k1, g2', ?_⟩
          obtain ⟨e', j1, j2, j3, j4⟩ := hr.at_ b blk0 k1
          rw [g2'] at j1; cases j1
          rcases j4 with ⟨_, j5, _⟩ | ⟨b3, v3, ab3, j5, j6, _⟩
          · rw [g3] at j5; cases j5
          · rw [g3] at j5; cases j5
            rcases Nat.lt_or_ge c vbase with q | q
            · exact q
            · rw [hl c q] at j6; cases j6
      rcases side b1 blk1 e1 v1 h1 h3 h5 with ⟨p1, p2, p3⟩ | ⟨p1, p2, p3, p4⟩ <;> rcases side b2 blk2 e2 v2 h2 h4 h6 with ⟨q1, q2, q3⟩ | ⟨q1, q2, q3, q4⟩
      · omega
      · omega
      · omega
      · exact hr.inj b1 b2 p1 q1 e1 e2 c v1 v2 p2 q2 p3 q3 h5 h6
  · unfold newsE
    rw [if_neg hn]
    exact hb
end
end
end Go.Proofs.Ytnnfcebnmogdmaa.VM
/- Values with labels: a call. No conditions. -/
namespace Go.Proofs.Ytnnfcebnmogdmaa.VM
set_option linter.unusedSimpArgs false
set_option linter.unusedVariables false
open Go Go.RowKit
noncomputable section
section
variable {P : Program} {ε : Nat → Option BE} {H : SHeap} {L : Heap} {t : List SV} {tv : List V} {base vbase : Nat} {cx : SCfg}

def noE : Nat → Option BE := fun _ => none
/-- What a call with labels tells of one that is carried out. -/
def SCallOK (call : SCall) (C : Nat → CallF) : Prop :=
  ∀ f base as K, call f base as K → ∀ as', RL noE as as' → ∀ vbase, ∃ rv blks srv sblks, (∃ N, ∀ n, N ≤ n → C n f vbase as' = some (rv, blks)) ∧ K srv sblks ∧ NewR (newsE noE base vbase sblks.length) sblks blks ∧ RV (newsE noE base vbase sblks.length) srv rv
theorem newsE_cur {n : Nat} : ∀ b e, newsE noE base vbase n b = some e → e.sv = 0 ∧ ∃ p, e.act = some p := by
  intro b e h
  unfold newsE at h
  split at h
  · cases h; exact ⟨rfl, _, rfl⟩
  · cases h
theorem newR_alias (hcur : ∀ b e, ε b = some e → e.sv = 0 ∧ ∃ p, e.act = some p) {sblks : List SBlk} {blks : List Blk} (h : NewR ε sblks blks)
    (hs : (sblks.any (fun b => match b.cells with | .lit l => saliasL (salias 50) l | .rows _ _ _ fl _ => !fl)) = false) : blks.any (fun b => aliasL (alias 60) b.cells) = false := by
  induction h with
  | nil => rfl
  | @cons s b ss bs g1 g2 g3 g4 g5 g6 g7 _ ih =>
    simp only [List.any_cons, Bool.or_eq_false_iff] at hs ⊢
    refine ⟨?_, ih hs.2⟩
    cases hq : s.cells with
    | lit l =>
      rw [hq] at g7 hs
      exact aliasL_of (show RL ε l b.cells from g7) (fun s _ v r hs => salias_of hcur 50 59 s v (by omega) r hs) hs.1
    | rows e k d fl xs =>
      rw [hq] at g7 hs g1
      have hfl : fl = true := by simpa using hs.1
      subst hfl
      exact flat_alias g1 g7 59
theorem scallE_of {call : SCall} {C : Nat → CallF} (hC : SCallOK call C) (hH : RH ε H L) (hf : ∀ b, base ≤ b → ε b = none) {f : FuncId} {vs : List SV} {vs' : List V} (hvs : RL ε vs vs') {K : SEff → Prop} (h : scallE call H base f vs K) :
    ∃ se e ε', K se ∧ (∃ N, ∀ n, N ≤ n → callE (C n) L vbase f vs' = some e) ∧ ER ε ε' H L base vbase se e := by
  unfold scallE at h
  obtain ⟨ss, rs, ws, rs', h1, h2, h3, h4⟩ := sreifyL_of (fun s v K r hk => sreify_of hH 50 60 s v K (by omega) r hk) hvs h
  obtain ⟨rv, blks, srv, sblks, ⟨N, hN⟩, h5, h6, h7⟩ := hC f base ss _ h1 ws (h3 _) vbase
  generalize hsal : (salias 50 srv || sblks.any (fun b => match b.cells with | .lit l => saliasL (salias 50) l | .rows _ _ _ fl _ => !fl)) = sal at h5
  have hcur := newsE_cur (base := base) (vbase := vbase) (n := sblks.length)
  have hal : sal = false → callAl rs' rv blks = true → rs' = [] := by
    intro hs hc
    subst hs
    simp only [Bool.or_eq_false_iff] at hsal
    have a1 := salias_of hcur 50 59 srv rv (by omega) h7 hsal.1
    have a2 := newR_alias hcur h6 hsal.2
    unfold callAl at hc
    rw [a1, a2, Bool.or_false, Bool.or_false] at hc
    exact List.isEmpty_iff.1 hc
  -- what is written no more
  have hz' : ∀ b' ∈ (if callAl rs' rv blks then rs' else []), b' ∈ rs' := fun b' hb => by split at hb; exact hb; cases hb
  obtain ⟨wr', k1, k2, k3⟩ := freezeL_get (L := L) (rs := if callAl rs' rv blks then rs' else []) fun b hb => (h4.2 b (hz' b hb)).1
  split at h5
  · rename_i wr hwr
    refine ⟨_, ⟨rv, wr', blks⟩, _, h5, ⟨N, fun n hn => ?_⟩, call_er hH hf hwr k3 k2 (fun b' hb => ?_) (fun b hb => ?_) (fun hrs => ?_) h6 h7⟩
    · simp only [callE, h2, hN n hn, k1]
    · obtain ⟨g1, g2⟩ := h4.2 b' (hz' b' hb)
      refine ⟨g1, ?_⟩
      cases sal with
      | true => exact g2
      | false =>
        split at hb
        · rename_i hc
          rw [hal rfl hc] at hb
          cases hb
        · cases hb
    · cases sal with
      | true => exact h4.1 b hb
      | false => cases hb
    · have hz : (if callAl rs' rv blks then rs' else []) = [] := by
        apply List.eq_nil_iff_forall_not_mem.2
        intro b' hb
        cases sal with
        | true =>
          have hrs' : rs = [] := hrs
          obtain ⟨_, b, hb2, _⟩ := h4.2 b' (hz' b' hb)
          rw [hrs'] at hb2
          cases hb2
        | false =>
          split at hb
          · rename_i hc
            rw [hal rfl hc] at hb
            cases hb
          · cases hb
      rw [hz] at k1
      cases k1
      rfl
  · cases h5

theorem resolveS_of (ht : RL ε t tv) {c : Call} {f : FuncId} {vs : List SV} (h : resolveS P t c = some (f, vs)) : ∃ vs', resolveV P tv c = some (f, vs') ∧ RL ε vs vs' := by
  unfold resolveS at h
  split at h
  · rename_i ws hws
    obtain ⟨ws', h1, h2⟩ := evalSL_rel ht hws
    unfold resolveV
    rw [h1]
    simp only
    cases hc : c.callee with
    | value x =>
      rw [hc] at h
      simp only at h ⊢
      split at h
      · rename_i g fi ca hx
        split at h
        · rename_i hok
          cases h
          obtain ⟨v', h3, h4⟩ := evalS_rel ht hx
          cases h4 with
          | func _ q1 q2 =>
            rw [h3]
            simp only
            rw [if_pos hok]
            exact ⟨_, rfl, (q1.append h2).append q2⟩
        · cases h
      · cases h
    | invoke x name =>
      rw [hc] at h
      simp only at h ⊢
      split at h
      · rename_i ty v hx
        split at h
        · rename_i g hm
          split at h
          · rename_i hok
            cases h
            obtain ⟨v', h3, h4⟩ := evalS_rel ht hx
            cases h4 with
            | iface _ q =>
              rw [h3]
              simp only [hm]
              rw [if_pos hok]
              exact ⟨_, rfl, .cons q h2⟩
          · cases h
        · cases h
      · cases h
    | builtin b => rw [hc] at h; cases h
  · cases h
end
end
end Go.Proofs.Ytnnfcebnmogdmaa.VM
/- Values with labels: all operations. No conditions. -/
namespace Go.Proofs.Ytnnfcebnmogdmaa.VM
set_option linter.unusedSimpArgs false
set_option linter.unusedVariables false
open Go Go.RowKit
noncomputable section
section
variable {P : Program} {ε : Nat → Option BE} {H : SHeap} {L : Heap} {t : List SV} {tv : List V} {base vbase : Nat} {cx : SCfg}

theorem sintsL_of : ∀ {l : List SV} {A : List V}, RL ε l A → ∀ {p : List Int}, sintsL l = some p → bytesN A = some p
  | _, _, .nil, p, h => by cases h; rfl
  | _, _, .cons r s, p, h => by
    cases r <;> try (simp only [sintsL] at h; cases h; done)
    rename_i k i m hm
    cases k <;> cases i <;> simp only [sintsL] at h <;> try (cases h; done)
    all_goals (obtain ⟨q, h1, rfl⟩ := mapU_some h; subst hm; simp only [bytesN, sintsL_of s h1]; rfl)
theorem sints_of {l : List SV} {A : List V} (r : RL ε l A) {p : List Int × Bool} (h : sints l = some p) : bytesN A = some p.1 := by
  obtain ⟨q, h1, rfl⟩ := mapU_some h
  exact sintsL_of r h1
theorem bytesC_of : ∀ {l : List Int} {A : List V}, RL ε (bytesC l).list A → bytesN A = some l
  | [], A, h => by cases h; rfl
  | n :: l, A, h => by
    have h' : RL ε (.int .u8 (.sym n) :: (bytesC l).list) A := h
    cases h' with
    | cons r s =>
      cases r with
      | int _ _ m hm => subst hm; simp only [bytesN, bytesC_of s]; rfl
theorem ofNat_inj {a b : Int} (ha : 0 ≤ a ∧ a < 256) (hb : 0 ≤ b ∧ b < 256) (h : UInt8.ofNat a.toNat = UInt8.ofNat b.toNat) : a = b := by
  have := congrArg UInt8.toNat h
  simp only [UInt8.toNat_ofNat'] at this
  omega
theorem strOfNums_inj : ∀ {l m : List Int}, isBytes l → isBytes m → (strOfNums l).toList = (strOfNums m).toList → l = m := by
  intro l m hl hm h
  rw [ByteArray.toList_eq, ByteArray.toList_eq, strOfNums_data, strOfNums_data] at h
  induction l generalizing m with
  | nil => cases m with | nil => rfl | cons b m => simp at h
  | cons a l ih =>
    cases m with
    | nil => simp at h
    | cons b m =>
      simp only [List.map_cons, List.cons.injEq] at h
      rw [ofNat_inj (hl a (List.mem_cons_self ..)) (hm b (List.mem_cons_self ..)) h.1, ih (fun x hx => hl x (List.mem_cons_of_mem _ hx)) (fun x hx => hm x (List.mem_cons_of_mem _ hx)) h.2]
theorem strNums_str (s : ByteArray) : strOfNums (strNums s) = s ∧ isBytes (strNums s) := by
  constructor
  · unfold strOfNums strNums
    cases s with
    | mk d =>
      congr 1
      rw [List.map_map]
      have : ((fun n : Int => UInt8.ofNat n.toNat) ∘ fun b : UInt8 => (b.toNat : Int)) = id := by
        funext b
        simp
      rw [this, List.map_id]
  · intro x hx
    obtain ⟨b, _, rfl⟩ := List.mem_map.1 hx
    have := b.toNat_lt
    constructor <;> omega
theorem text_of {s : SV} {v : V} (r : RV ε s v) {l : List Int} {x : Bool} (h : s.text = some (l, x)) : v = .str (strOfNums l) ∧ (x = true → isBytes l) := by
  cases r <;> simp only [SV.text] at h <;> try (cases h; done)
  · cases h; exact ⟨by rw [(strNums_str _).1], fun _ => (strNums_str _).2⟩
  · cases h; exact ⟨rfl, fun q => by cases q⟩
theorem textEqS_of {a b : SV} {va vb : V} (ra : RV ε a va) (rb : RV ε b vb) {K : Prop → Prop} (h : textEqS a b K) : ∃ (p : Prop) (x y : ByteArray), K p ∧ va = .str x ∧ vb = .str y ∧ ((x.toList == y.toList) = true ↔ p) := by
  unfold textEqS at h
  split at h
  · rename_i l x m y ha hb
    obtain ⟨h1, h2⟩ := text_of ra ha
    obtain ⟨h3, h4⟩ := text_of rb hb
    have main : isBytes l → isBytes m → K (l = m) → ∃ (p : Prop) (x y : ByteArray), K p ∧ va = .str x ∧ vb = .str y ∧ ((x.toList == y.toList) = true ↔ p) :=
      fun q1 q2 hK => ⟨_, _, _, hK, h1, h3, ⟨fun q => strOfNums_inj q1 q2 (by simpa using q), fun q => by rw [q]; simp⟩⟩
    cases x <;> cases y <;> simp only [cond_true, cond_false] at h
    · exact main h.1 h.2.1 h.2.2
    · exact main h.1 (h4 rfl) h.2
    · exact main (h2 rfl) h.1 h.2
    · exact main (h2 rfl) (h4 rfl) h
  · cases h
theorem strEq_run {op : BinOp} {a b : ByteArray} {r : Bool} (h : (op = .eql ∧ r = (a.toList == b.toList)) ∨ (op = .neq ∧ r = !(a.toList == b.toList))) {t : List V} {o : Oper} {ty : TypeId} {x y : Operand} {z : TypeId} (ho : o.op = .binOp op ty x y z)
    (hx : evalV t x = some (.str a)) (hy : evalV t y = some (.str b)) : pureOp P t o = some (Eff.pure (.bool r)) := by
  have h1 : o.op.operands.toList.all (fun x => ((evalV t x).bind toVal).isSome) = true := by
    rw [ho]
    simp [Op.operands, hx, hy, toVal, toAg, toSc]
  have rx : ρOf t x = .string a := by simp [ρOf, hx, toVal, toAg, toSc]
  have ry : ρOf t y = .string b := by simp [ρOf, hy, toVal, toAg, toSc]
  unfold pureOp
  rw [if_pos h1]
  simp only [ho]
  unfold execOp
  simp only [ho, rx, ry]
  rcases h with ⟨rfl, rfl⟩ | ⟨rfl, rfl⟩
  · simp [eqGuard, binOp, Op.stringOp]; rfl
  · simp [eqGuard, binOp, Op.stringOp]; rfl
theorem boolEq_run {op : BinOp} {a b r : Bool} (h : (op = .eql ∧ r = (a == b)) ∨ (op = .neq ∧ r = (a != b))) {t : List V} {o : Oper} {ty : TypeId} {x y : Operand} {z : TypeId} (ho : o.op = .binOp op ty x y z) (hu : P.underlying ty = some .bool)
    (hx : evalV t x = some (.bool a)) (hy : evalV t y = some (.bool b)) : pureOp P t o = some (Eff.pure (.bool r)) := by
  have h1 : o.op.operands.toList.all (fun x => ((evalV t x).bind toVal).isSome) = true := by
    rw [ho]
    simp [Op.operands, hx, hy, toVal, toAg, toSc]
  have rx : ρOf t x = .bool a := by simp [ρOf, hx, toVal, toAg, toSc]
  have ry : ρOf t y = .bool b := by simp [ρOf, hy, toVal, toAg, toSc]
  unfold pureOp
  rw [if_pos h1]
  simp only [ho]
  unfold execOp
  simp only [ho, rx, ry]
  have heq : pureRun P (Op.equal ty (.bool a) (.bool b)) = some (a == b) := by
    unfold Op.equal
    rw [show Op.maxDepth = 9999 + 1 from rfl, Op.equalIn]
    rw [pureRun_bind]
    have : pureRun P (underlying ty) = some .bool := by
      show pureRun P (match P.underlying ty with | some d => pure d | none => stuck "no such type") = _
      rw [hu]; rfl
    rw [this]
    rfl
  have hg : ∀ op, eqGuard op ty x y (.bool a) (.bool b) = pure () := by
    intro op
    cases op <;> rfl
  have hb : ∀ (f : Bool → Value), pureRun P (do pure (f (← Op.equal ty (.bool a) (.bool b)))) = some (f (a == b)) := by
    intro f
    rw [pureRun_bind, heq]
    rfl
  rcases h with ⟨rfl, rfl⟩ | ⟨rfl, rfl⟩
  · rw [hg, pureRun_bind, pureRun_bind, show pureRun P (pure () : Sem Unit) = some () from rfl, Option.bind_some, show binOp .eql ty (.bool a) (.bool b) = (do pure (.bool (← Op.equal ty (.bool a) (.bool b)))) from rfl, hb]
    rfl
  · rw [hg, pureRun_bind, pureRun_bind, show pureRun P (pure () : Sem Unit) = some () from rfl, Option.bind_some, show binOp .neq ty (.bool a) (.bool b) = (do pure (.bool (!(← Op.equal ty (.bool a) (.bool b))))) from rfl, hb fun c => .bool (!c)]
    rfl
end
end
end Go.Proofs.Ytnnfcebnmogdmaa.VM
