/- Values with labels: what is known of a value ahead of a run. No conditions. -/
import Derived.Test.YtifgifhbefhkmaaVMz
namespace Go.Proofs.Ytifgifhbefhkmaa.VM
set_option linter.unusedSimpArgs false
set_option linter.unusedVariables false
open Go Go.RowKit
noncomputable section

/-- A whole number that is written out, or one that has a name. -/
inductive SI where | lit (n : Int) | sym (n : Int)
def SI.val : SI → Int | .lit n => n | .sym n => n
inductive SB where | lit (b : Bool) | sym (p : Prop)
def SB.holds : SB → Prop | .lit b => b = true | .sym p => p
inductive SN where | lit (n : Nat) | sym (n : Nat)
def SN.val : SN → Nat | .lit n => n | .sym n => n

mutual
/-- A value with labels. -/
inductive SV : Type 1 where
  | any
  | int (k : IntKind) (n : SI)
  | bool (b : SB)
  | str (s : ByteArray)
  | strS (l : List Int)
  | agg (cs : List SV)
  | tup (vs : List SV)
  | iface (t : TypeId) (v : SV)
  | nilIface
  | func (fn : Fn) (first captured : List SV)
  | nilFunc
  | nilPtr
  | ptrI (fr ex : Bool) (cs : SC)
  | ptrB (b : Nat) (e : SN) (k f ver : Nat)
  | nilSl
  | slI (fr : Bool) (cs : SC) (n : SN) (tight : Bool)
  | slB (b : Nat) (e : SN) (k ver : Nat) (n : SN)
/-- Cells: written out, or those of the things of a list. -/
inductive SC : Type 1 where
  | lit (l : List SV)
  | rows {α : Type} (e : α → List SV) (k d : Nat) (flat : Bool) (xs : List α)
end
def SC.list : SC → List SV
  | .lit l => l
  | .rows e _ _ _ xs => xs.flatMap e

structure SBlk where
  cells : SC
  k : Nat
  ver : Nat
  fz : Bool
  lz : Bool

abbrev SHeap := List (Nat × SBlk)
structure SEff where
  v : SV
  wr : List (Nat × SBlk)
  new : List SBlk

/-- A value of one cell that leads nowhere. -/
def scalar : SV → Prop
  | .int .. => True
  | .bool _ => True
  | _ => False
/-- A value that leads to no block of the call's own, of so many layers; nothing in it is said to be new. -/
def imm : Nat → SV → Prop
  | 0, _ => False
  | n + 1, v => match v with
    | .int .. | .bool _ | .str _ | .strS _ | .nilIface | .nilFunc | .nilPtr | .nilSl => True
    | .agg cs => ∀ c ∈ cs, imm n c
    | .tup cs => ∀ c ∈ cs, imm n c
    | .iface _ v => imm n v
    | .func _ f c => (∀ v ∈ f, imm n v) ∧ ∀ v ∈ c, imm n v
    | .slI fr cs _ _ => fr = false ∧ match cs with
      | .lit l => ∀ c ∈ l, imm n c
      | .rows _ _ d _ _ => d ≤ n
    | .ptrI fr ex cs => fr = false ∧ ex = true ∧ match cs with
      | .lit l => ∀ c ∈ l, imm n c
      | .rows _ _ d _ _ => d ≤ n
    | _ => False
def SV.one : SV → Bool
  | .agg _ | .tup _ | .any => false
  | _ => true
/-- What may be the thing of a list. -/
def ROK {α : Type} (e : α → List SV) (k d : Nat) (flat : Bool) : Prop :=
  ∀ x, (e x).length = k ∧ (∀ v ∈ e x, imm d v ∧ SV.one v = true) ∧ (flat = true → ∀ v ∈ e x, scalar v)
def COK : SC → Prop
  | .lit _ => True
  | .rows e k d flat _ => ROK e k d flat

/-- A block that has a label: the label's version, the block and its version; none: it is a nil slice yet. -/
structure BE where
  sv : Nat
  act : Option (Nat × Nat)

mutual
inductive RV (ε : Nat → Option BE) : SV → V → Prop
  | any (v : V) : RV ε .any v
  | int (k : IntKind) (n : SI) (m : Int) : m = n.val → RV ε (.int k n) (.int k m)
  | bool (b : SB) (c : Bool) : (c = true ↔ b.holds) → RV ε (.bool b) (.bool c)
  | str (s : ByteArray) : RV ε (.str s) (.str s)
  | strS (l : List Int) : RV ε (.strS l) (.str (strOfNums l))
  | agg {cs : List SV} {cs' : List V} : RL ε cs cs' → RV ε (.agg cs) (.agg cs')
  | tup {cs : List SV} {cs' : List V} : RL ε cs cs' → RV ε (.tup cs) (.tup cs')
  | iface (t : TypeId) {v : SV} {v' : V} : RV ε v v' → RV ε (.iface t v) (.iface t v')
  | nilIface : RV ε .nilIface .nilIface
  | func (fn : Fn) {f c : List SV} {f' c' : List V} : RL ε f f' → RL ε c c' → RV ε (.func fn f c) (.func fn f' c')
  | nilFunc : RV ε .nilFunc .nilFunc
  | nilPtr : RV ε .nilPtr .nilPtr
  | ptrI {fr fr' ex : Bool} {cs : SC} {cs' rest : List V} : (fr = true → fr' = true) → RL ε cs.list cs' → COK cs → (ex = true → rest = []) → RV ε (.ptrI fr ex cs) (.ptrI fr' (cs' ++ rest))
  | ptrB {b k f ver : Nat} {o : SN} {v : V} {e : BE} : ε b = some e → ver ≤ e.sv →
      (e.sv = ver → ∃ b' v', e.act = some (b', v') ∧ v = .ptrB b' (o.val * k + f) v') → v.one = true → RV ε (.ptrB b o k f ver) v
  | nilSl : RV ε .nilSl .nilSl
  | slI {fr fr' tight tight' : Bool} {cs : SC} {cs' : List V} {n : SN} {m : Nat} : (fr = true → fr' = true) → (tight = true → tight' = true) → m = n.val → RL ε cs.list cs' → COK cs → RV ε (.slI fr cs n tight) (.slI fr' cs' m tight')
  | slIn {fr tight : Bool} {cs : SC} {n : SN} : n.val = 0 → COK cs → RV ε (.slI fr cs n tight) .nilSl
  | slI0 {fr fr' tight tight' : Bool} {cs : SC} {n : SN} : (fr = true → fr' = true) → (tight = true → tight' = true) → n.val = 0 → COK cs → RV ε (.slI fr cs n tight) (.slI fr' [] 0 tight')
  | slB {b k ver : Nat} {o n : SN} {v : V} {e : BE} : ε b = some e → ver ≤ e.sv →
      (e.sv = ver → (∃ b' v', e.act = some (b', v') ∧ v = .slB b' (o.val * k) v' n.val) ∨ (e.act = none ∧ v = .nilSl ∧ n.val = 0 ∧ o.val = 0)) → v.one = true → RV ε (.slB b o k ver n) v
inductive RL (ε : Nat → Option BE) : List SV → List V → Prop
  | nil : RL ε [] []
  | cons {v : SV} {vs : List SV} {c : V} {cs : List V} : RV ε v c → RL ε vs cs → RL ε (v :: vs) (c :: cs)
end

/-- Labels that go on. -/
def EX (ε ε' : Nat → Option BE) : Prop := ∀ b e, ε b = some e → ∃ e', ε' b = some e' ∧ (e' = e ∨ e.sv < e'.sv)
theorem EX.refl (ε : Nat → Option BE) : EX ε ε := fun b e h => ⟨e, h, .inl rfl⟩
theorem EX.trans {ε ε' ε'' : Nat → Option BE} (h : EX ε ε') (k : EX ε' ε'') : EX ε ε'' := fun b e he => by
  obtain ⟨e', h1, h2⟩ := h b e he
  obtain ⟨e'', h3, h4⟩ := k b e' h1
  refine ⟨e'', h3, ?_⟩
  rcases h2 with rfl | h2
  · exact h4
  · rcases h4 with rfl | h4
    · exact .inr h2
    · exact .inr (Nat.lt_trans h2 h4)
mutual
theorem RV.mono {ε ε' : Nat → Option BE} (h : EX ε ε') : ∀ {v : SV} {c : V}, RV ε v c → RV ε' v c
  | _, _, .any v => .any v
  | _, _, .int k n m q => .int k n m q
  | _, _, .bool b c q => .bool b c q
  | _, _, .str s => .str s
  | _, _, .strS l => .strS l
  | _, _, .agg r => .agg (RL.mono h r)
  | _, _, .tup r => .tup (RL.mono h r)
  | _, _, .iface t r => .iface t (RV.mono h r)
  | _, _, .nilIface => .nilIface
  | _, _, .func fn r s => .func fn (RL.mono h r) (RL.mono h s)
  | _, _, .nilFunc => .nilFunc
  | _, _, .nilPtr => .nilPtr
  | _, _, .ptrI hf r hc hx => .ptrI hf (RL.mono h r) hc hx
  | _, _, .ptrB (e := e) he hv hp ho => by
    obtain ⟨e', h1, h2⟩ := h _ _ he
    rcases h2 with rfl | h2
    · exact .ptrB h1 hv hp ho
    · exact .ptrB h1 (by omega) (fun q => by omega) ho
  | _, _, .nilSl => .nilSl
  | _, _, .slI hf ht hn r hc => .slI hf ht hn (RL.mono h r) hc
  | _, _, .slIn hn hc => .slIn hn hc
  | _, _, .slI0 hf ht hn hc => .slI0 hf ht hn hc
  | _, _, .slB (e := e) he hv hp ho => by
    obtain ⟨e', h1, h2⟩ := h _ _ he
    rcases h2 with rfl | h2
    · exact .slB h1 hv hp ho
    · exact .slB h1 (by omega) (fun q => by omega) ho
theorem RL.mono {ε ε' : Nat → Option BE} (h : EX ε ε') : ∀ {v : List SV} {c : List V}, RL ε v c → RL ε' v c
  | _, _, .nil => .nil
  | _, _, .cons r s => .cons (RV.mono h r) (RL.mono h s)
end

theorem mapU_some.{u, v} {α : Type u} {β : Type v} {o : Option α} {f : α → β} {b : β} (h : o.map f = some b) : ∃ a, o = some a ∧ f a = b := by
  cases o with
  | none => cases h
  | some a => exact ⟨a, rfl, by simpa using h⟩
theorem RL.length {ε : Nat → Option BE} : ∀ {v : List SV} {c : List V}, RL ε v c → v.length = c.length
  | _, _, .nil => rfl
  | _, _, .cons _ s => by simp [RL.length s]
theorem RL.get {ε : Nat → Option BE} : ∀ {v : List SV} {c : List V}, RL ε v c → ∀ (i : Nat) (x : SV), v[i]? = some x → ∃ y, c[i]? = some y ∧ RV ε x y
  | _, _, .nil, i, x, h => by simp at h
  | _, _, .cons r s, 0, x, h => by simp at h; subst h; exact ⟨_, rfl, r⟩
  | _, _, .cons r s, i + 1, x, h => by simp at h; obtain ⟨y, h1, h2⟩ := s.get i x h; exact ⟨y, by simpa using h1, h2⟩
theorem RL.of_get {ε : Nat → Option BE} : ∀ {v : List SV} {c : List V}, v.length = c.length → (∀ (i : Nat) (x : SV) (y : V), v[i]? = some x → c[i]? = some y → RV ε x y) → RL ε v c
  | [], [], _, _ => .nil
  | x :: v, y :: c, hl, h => .cons (h 0 x y rfl rfl) (RL.of_get (by simpa using hl) fun i a b ha hb => h (i + 1) a b (by simpa using ha) (by simpa using hb))
theorem RL.set {ε : Nat → Option BE} {v : List SV} {c : List V} (h : RL ε v c) (i : Nat) {x : SV} {y : V} (r : RV ε x y) : RL ε (v.set i x) (c.set i y) := by
  refine RL.of_get (by simp [h.length]) fun j a b ha hb => ?_
  rw [List.getElem?_set] at ha hb
  have hl := h.length
  by_cases hij : i = j
  · subst hij
    simp only [if_true] at ha hb
    split at ha
    · split at hb
      · cases ha; cases hb; exact r
      · cases hb
    · cases ha
  · rw [if_neg hij] at ha hb
    obtain ⟨y', h1, h2⟩ := h.get j a ha
    rw [hb] at h1
    cases h1
    exact h2
theorem RL.append {ε : Nat → Option BE} : ∀ {v v' : List SV} {c c' : List V}, RL ε v c → RL ε v' c' → RL ε (v ++ v') (c ++ c')
  | _, _, _, _, .nil, k => k
  | _, _, _, _, .cons r s, k => .cons r (RL.append s k)
theorem RL.split {ε : Nat → Option BE} : ∀ {v v' : List SV} {c : List V}, RL ε (v ++ v') c → ∃ c1 c2, c = c1 ++ c2 ∧ RL ε v c1 ∧ RL ε v' c2
  | [], v', c, h => ⟨[], c, rfl, .nil, h⟩
  | x :: v, v', _, .cons r s => by
    obtain ⟨c1, c2, rfl, h1, h2⟩ := RL.split s
    exact ⟨_ :: c1, c2, rfl, .cons r h1, h2⟩
theorem RL.take {ε : Nat → Option BE} {v : List SV} {c : List V} (h : RL ε v c) (n : Nat) : RL ε (v.take n) (c.take n) := by
  refine RL.of_get (by simp [h.length]) fun j a b ha hb => ?_
  rw [List.getElem?_take] at ha hb
  split at ha
  · obtain ⟨y', h1, h2⟩ := h.get j a ha
    rw [if_pos ‹_›] at hb
    rw [hb] at h1
    cases h1
    exact h2
  · cases ha
theorem RL.drop {ε : Nat → Option BE} {v : List SV} {c : List V} (h : RL ε v c) (n : Nat) : RL ε (v.drop n) (c.drop n) := by
  refine RL.of_get (by simp [h.length]) fun j a b ha hb => ?_
  rw [List.getElem?_drop] at ha hb
  obtain ⟨y', h1, h2⟩ := h.get _ a ha
  rw [hb] at h1
  cases h1
  exact h2

/-- Rows: things by their places. -/
theorem flat_len {α : Type} {e : α → List SV} {k : Nat} : ∀ {xs : List α}, (∀ x, (e x).length = k) → (xs.flatMap e).length = xs.length * k
  | [], _ => by simp
  | x :: xs, h => by rw [List.flatMap_cons, List.length_append, h x, flat_len h, List.length_cons, Nat.add_mul]; omega
theorem flat_drop {α : Type} {e : α → List SV} {k : Nat} (h : ∀ x, (e x).length = k) : ∀ (i : Nat) (xs : List α), (xs.flatMap e).drop (i * k) = (xs.drop i).flatMap e
  | 0, xs => by simp
  | i + 1, [] => by simp
  | i + 1, x :: xs => by
    rw [List.flatMap_cons, Nat.add_mul, Nat.one_mul, Nat.add_comm, ← List.drop_drop, List.drop_left' (h x), flat_drop h i xs, List.drop_succ_cons]
theorem flat_take {α : Type} {e : α → List SV} {k : Nat} (h : ∀ x, (e x).length = k) : ∀ (i : Nat) (xs : List α), (xs.flatMap e).take (i * k) = (xs.take i).flatMap e
  | 0, xs => by simp
  | i + 1, [] => by simp
  | i + 1, x :: xs => by
    rw [List.flatMap_cons, Nat.add_mul, Nat.one_mul, Nat.add_comm (i * k), List.take_append, List.take_of_length_le (by rw [h x]; omega), h x, Nat.add_sub_cancel_left, flat_take h i xs, List.take_succ_cons, List.flatMap_cons]

end
end Go.Proofs.Ytifgifhbefhkmaa.VM
