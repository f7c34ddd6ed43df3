/- The machine of values: regions whose order is open: one walk, and its looks. No conditions. -/
import Derived.Test.YtifgifhbefhkmaaVMq
namespace Go.Proofs.Ytifgifhbefhkmaa.VM
set_option linter.unusedSimpArgs false
set_option linter.unusedVariables false
open Go Go.RowKit
noncomputable section

/-! Equality of values, as a Bool. -/
def allL (f : V → V → Bool) : List V → List V → Bool
  | [], [] => true
  | a :: r, b :: s => f a b && allL f r s
  | _, _ => false
def veq : Nat → V → V → Bool
  | 0, _, _ => false
  | n + 1, a, b => match a, b with
    | .int k i, .int l j => k == l && i == j
    | .bool x, .bool y => x == y
    | .str s, .str u => decide (s.data.toList = u.data.toList)
    | .agg c, .agg d => allL (veq n) c d
    | .tup c, .tup d => allL (veq n) c d
    | .iface t v, .iface u w => t == u && veq n v w
    | .nilIface, .nilIface => true
    | .func f a b, .func g c d => decide (f = g) && allL (veq n) a c && allL (veq n) b d
    | .nilFunc, .nilFunc => true
    | .nilPtr, .nilPtr => true
    | .ptrI f c, .ptrI g d => f == g && allL (veq n) c d
    | .ptrB a b c, .ptrB d e f => a == d && b == e && c == f
    | .nilSl, .nilSl => true
    | .slI f c m t, .slI g d k u => f == g && m == k && t == u && allL (veq n) c d
    | .slB a b c m, .slB d e f k => a == d && b == e && c == f && m == k
    | _, _ => false
theorem allL_eq {f : V → V → Bool} (hf : ∀ a b, f a b = true → a = b) : ∀ {a b : List V}, allL f a b = true → a = b
  | [], [], _ => rfl
  | x :: r, y :: s, h => by
    simp only [allL, Bool.and_eq_true] at h
    rw [hf x y h.1, allL_eq hf h.2]
  | [], _ :: _, h => by cases h
  | _ :: _, [], h => by cases h
theorem veq_eq : ∀ (n : Nat) (a b : V), veq n a b = true → a = b
  | 0, _, _, h => by cases h
  | n + 1, a, b, h => by
    have ih := veq_eq n
    have ihl := fun {a b : List V} => allL_eq (f := veq n) ih (a := a) (b := b)
    unfold veq at h
    split at h <;> (try simp only [Bool.and_eq_true, beq_iff_eq, decide_eq_true_eq] at h)
    case h_1 => obtain ⟨rfl, rfl⟩ := h; rfl
    case h_2 => subst h; rfl
    case h_3 => rename_i s u; cases s; cases u; simp only [Array.toList_inj] at h; rw [h]
    case h_4 => rw [ihl h]
    case h_5 => rw [ihl h]
    case h_6 => obtain ⟨rfl, h⟩ := h; rw [ih _ _ h]
    case h_7 => rfl
    case h_8 => obtain ⟨⟨rfl, h1⟩, h2⟩ := h; rw [ihl h1, ihl h2]
    case h_9 => rfl
    case h_10 => rfl
    case h_11 => obtain ⟨rfl, h⟩ := h; rw [ihl h]
    case h_12 => obtain ⟨⟨rfl, rfl⟩, rfl⟩ := h; rfl
    case h_13 => rfl
    case h_14 => obtain ⟨⟨⟨rfl, rfl⟩, rfl⟩, h⟩ := h; rw [ihl h]
    case h_15 => obtain ⟨⟨⟨rfl, rfl⟩, rfl⟩, rfl⟩ := h; rfl
    case h_16 => cases h
def beqB (a b : Blk) : Bool := allL (veq 60) a.cells b.cells && a.k == b.k && a.ver == b.ver && a.fz == b.fz
def beqBs : List Blk → List Blk → Bool
  | [], [] => true
  | a :: r, b :: s => beqB a b && beqBs r s
  | _, _ => false
theorem beqBs_eq : ∀ {a b : List Blk}, beqBs a b = true → a = b
  | [], [], _ => rfl
  | x :: r, y :: s, h => by
    simp only [beqBs, beqB, Bool.and_eq_true, beq_iff_eq] at h
    obtain ⟨⟨⟨⟨h1, h2⟩, h3⟩, h4⟩, h5⟩ := h
    have := allL_eq (veq_eq 60) h1
    obtain ⟨a, b, c, d⟩ := x
    obtain ⟨a', b', c', d'⟩ := y
    simp only at this h2 h3 h4
    subst this h2 h3 h4
    rw [beqBs_eq h5]
  | [], _ :: _, h => by cases h
  | _ :: _, [], h => by cases h
def effEq (a b : Eff) : Bool := a.wr.isEmpty && b.wr.isEmpty && veq 60 a.v b.v && beqBs a.new b.new
theorem effEq_eq {a b : Eff} (h : effEq a b = true) : a = b ∧ a.wr = [] := by
  simp only [effEq, Bool.and_eq_true, List.isEmpty_iff] at h
  obtain ⟨⟨⟨h1, h2⟩, h3⟩, h4⟩ := h
  obtain ⟨v, w, n⟩ := a
  obtain ⟨v', w', n'⟩ := b
  simp only at h1 h2 h3 h4
  subst h1 h2
  rw [veq_eq 60 _ _ h3, beqBs_eq h4]
  exact ⟨rfl, rfl⟩

/-! What an order has to keep. -/
def preMask (acc : List Nat) (o : Oper) : Nat :=
  o.after.toList.foldl (fun s e => if Region.binds .any e then s ||| 2 ^ e.on ||| acc.getD e.on 0 else s) 0
def masks : List Oper → List Nat → List Nat
  | [], acc => acc
  | o :: r, acc => masks r (acc ++ [preMask acc o])
def bitM (ms : List Nat) (j i : Nat) : Bool := (ms.getD j 0).testBit i
def looksV (ops : List Oper) (o : Oper) : List Tmp :=
  (o.op.operands.toList.filterMap fun | .tmp t => some t | _ => none) ++
  (match o.guard with
   | some (g, _) => ((ops[g]?).bind (·.dst)).toList
   | none => [])
def apartV (ops : List Oper) (x y : Oper) : Bool :=
  (match x.dst with
   | some d => !(looksV ops y).contains d && y.dst != some d
   | none => true) &&
  (match y.dst with
   | some d => !(looksV ops x).contains d
   | none => true)
def okEdges (ms : List Nat) (j : Nat) (y : Oper) : Bool := y.after.toList.all fun e => !Region.binds .any e || (decide (e.on < j) && bitM ms j e.on)
def okPairs (ops : List Oper) (ms : List Nat) (j : Nat) (y : Oper) : Bool :=
  (List.range j).all fun i => if bitM ms j i then (y.after.toList.any fun e => Region.binds .any e && (e.on == i || (decide (i < e.on) && bitM ms e.on i))) && (List.range i).all fun k => !bitM ms i k || bitM ms j k
    else match ops[i]? with
      | none => true
      | some x => apartV ops x y
/-- Looks at a region's text: edges lead back; what precedes is closed; operations that may change places are apart. -/
def drawOK (ops : List Oper) (ms : List Nat) : Bool :=
  (List.range ops.length).all fun j => match ops[j]? with
    | none => true
    | some y => okEdges ms j y && okPairs ops ms j y

structure Cfg where
  thaw : FuncId → Bool
  shared : FuncId → Bool
  ext : FuncId → Option (Nat → List V → Option (V × List Blk))
abbrev ShareF := FuncId → List V → Heap → Nat → Option (V × Heap × Nat)
def sharedV (P : Program) (cf : Cfg) (t : List V) (o : Oper) : Option (FuncId × List V) :=
  match o.op with
  | .call c => match c.callee with
    | .builtin _ => none
    | _ => match resolveV P t c with
      | some (f, vs) => if cf.shared f then some (f, vs) else none
      | none => none
  | _ => none
def effD (L H' : Heap) (p : Nat × Blk) : Option (Nat × Blk) :=
  match hget L p.1, hget H' p.1 with
  | some x, some y => if beqB x y then none else some (p.1, y)
  | _, _ => none
/-- What a call in the same memory has done, as an effect. -/
def effH (L H' : Heap) (nx nx' : Nat) (v : V) : Option Eff :=
  if (decide (nx ≤ nx') && L.all (fun p => decide (p.1 < nx) && (hget H' p.1).isSome) && H'.all (fun p => decide (nx ≤ p.1 ∧ p.1 < nx') || (hget L p.1).isSome)) = true then
    match mapO (fun j => hget H' (nx + j)) (List.range (nx' - nx)) with
    | some new => some ⟨v, L.filterMap (effD L H'), new⟩
    | none => none
  else none
def stepE (P : Program) (cf : Cfg) (call : CallF) (sh : ShareF) (L : Heap) (nx : Nat) (t : List V) (o : Oper) : Option (Bool × Eff) :=
  match sharedV P cf t o with
  | some (f, vs) => match sh f vs L nx with
    | some (v, H', nx') => match effH L H' nx nx' v with
      | some e => some (true, e)
      | none => none
    | none => none
  | none => match opE P call L nx t o with
    | some e => some (false, e)
    | none => none

structure DRec where
  i : Nat
  o : Oper
  wt : Bool
  base : Nat
  t : List V
  eff : Eff
  ex : Bool

/-- The heap behind those of these operations (the last is the first) that are chosen. -/
def heapOf (H0 : Heap) (D : Nat → Bool) : List DRec → Heap
  | [] => H0
  | r :: rest => match r.eff.wr, r.eff.new with
    | [], [] => heapOf H0 D rest
    | _, _ => if D r.i then applyL (heapOf H0 D rest) r.base r.eff else heapOf H0 D rest
def fwd (P : Program) (cf : Cfg) (call : CallF) (sh : ShareF) (ops : List Oper) (ms : List Nat) (H0 : Heap) : List Oper → Nat → List V → Nat → List DRec → Option (List V × Nat × List DRec)
  | [], _, t, nx, recs => some (t, nx, recs)
  | o :: r, i, t, nx, recs =>
    if wantedV ops t o then
      match stepE P cf call sh (heapOf H0 (bitM ms i) recs) nx t o with
      | some (ex, eff) => fwd P cf call sh ops ms H0 r (i + 1) (putV t o.dst eff.v) (nx + eff.new.length) (⟨i, o, true, nx, t, eff, ex⟩ :: recs)
      | none => none
    else fwd P cf call sh ops ms H0 r (i + 1) (putV t o.dst (.tup [])) nx (⟨i, o, false, nx, t, Eff.pure (.tup []), false⟩ :: recs)
def hrem : Heap → List Nat → Heap
  | [], _ => []
  | (b, x) :: r, X => if X.contains b then hrem r X else (b, x) :: hrem r X
def xids (ms : List Nat) (i : Nat) : List DRec → List Nat
  | [] => []
  | r :: rest => match r.eff.wr with
    | [] => xids ms i rest
    | w => if r.i == i || (if r.i < i then bitM ms i r.i else bitM ms r.i i) then xids ms i rest else w.map (·.1) ++ xids ms i rest
/-- Operations that look at no cells: addresses. -/
def addrOp (o : Oper) : Bool :=
  match o.op with
  | .fieldAddr .. => true
  | .indexAddr .. => true
  | _ => false
/-- Operations that look at no memory at all. -/
def freeOp (o : Oper) : Bool :=
  match o.op with
  | .move _ => true
  | .assign _ => true
  | .extract .. => true
  | .pick .. => true
  | _ => false
/-- The block that a load looks at. -/
def loadB (t : List V) (o : Oper) : Option Nat :=
  match o.op with
  | .load _ x => (match evalV t x with
    | some (.ptrB b _ _) => some b
    | _ => none)
  | _ => none
def chk (P : Program) (call : CallF) (ms : List Nat) (H0 : Heap) (all : List DRec) : List DRec → Bool
  | [] => true
  | r :: rest =>
    (match xids ms r.i all with
      | [] => r.eff.wr.all fun p => (hget (heapOf H0 (bitM ms r.i) rest) p.1).isSome
      | X => r.eff.wr.isEmpty && !r.ex && (!r.wt || freeOp r.o || (match opE P call (hrem (heapOf H0 (bitM ms r.i) rest) X) r.base r.t r.o with
        | some e => effEq e r.eff
        | none => false) || (addrOp r.o && all.all fun x => x.i == r.i || (if x.i < r.i then bitM ms r.i x.i else bitM ms x.i r.i) || x.eff.wr.all fun p => match hget (heapOf H0 (bitM ms r.i) rest) p.1 with
          | some blk => blk.ver == p.2.ver
          | none => true) || (match loadB r.t r.o with | some b => !X.contains b | none => false))) &&
    (!r.ex || all.all fun x => x.i == r.i || (if x.i < r.i then bitM ms r.i x.i else bitM ms x.i r.i) || (x.eff.wr.isEmpty && x.eff.new.isEmpty)) && chk P call ms H0 all rest
def runDraw (P : Program) (cf : Cfg) (call : CallF) (sh : ShareF) (ops : List Oper) (t : List V) (H0 : Heap) (nx : Nat) : Option (List V × Heap × Nat) :=
  let ms := masks ops []
  if drawOK ops ms = true then
    match fwd P cf call sh ops ms H0 ops 0 t nx [] with
    | some (t', nx', recs) => if (recs.all fun r => r.eff.wr.isEmpty && !r.ex) || chk P call ms H0 recs recs then some (t', heapOf H0 (fun _ => true) recs, nx') else none
    | none => none
  else none
end
end Go.Proofs.Ytifgifhbefhkmaa.VM
