/- The machine of values: what each operation does. No conditions. -/
import Derived.Test.YtifgifhbefhkmaaVMa
namespace Go.Proofs.Ytifgifhbefhkmaa.VM
set_option linter.unusedSimpArgs false
set_option linter.unusedVariables false
open Go Go.RowKit
noncomputable section

abbrev Heap := List (Nat × Blk)
def hget (L : Heap) (j : Nat) : Option Blk :=
  List.rec (motive := fun _ => Option Blk) none (fun p _ ih => bif Nat.beq p.1 j then some p.2 else ih) L
def hset : Heap → Nat → Blk → Heap
  | [], j, x => [(j, x)]
  | (i, b) :: r, j, x => bif Nat.beq i j then (i, x) :: r else (i, b) :: hset r j x
def hnews : List Blk → Nat → Heap → Heap
  | [], _, L => L
  | b :: r, j, L => hnews r (j + 1) ((j, b) :: L)
def hsets : List (Nat × Blk) → Heap → Heap
  | [], L => L
  | (j, x) :: r, L => hsets r (hset L j x)

/-- What an operation does: its value, the blocks that it writes, the new ones. -/
structure Eff where
  v : V
  wr : List (Nat × Blk)
  new : List Blk

def Eff.pure (v : V) : Eff := ⟨v, [], []⟩
def applyL (L : Heap) (base : Nat) (e : Eff) : Heap := hnews e.new base (hsets e.wr L)

def nth (l : List V) (i : Nat) : V :=
  List.rec (motive := fun _ => Nat → V) (fun _ => .tup []) (fun v _ ih n => Nat.rec (motive := fun _ => V) v (fun m _ => ih m) n) l i
def setn (l : List V) (i : Nat) (x : V) : List V :=
  List.rec (motive := fun _ => Nat → List V) (fun _ => []) (fun v r ih n => Nat.rec (motive := fun _ => List V) (x :: r) (fun m _ => v :: ih m) n) l i

def mapO {α β : Type} (f : α → Option β) : List α → Option (List β)
  | [] => some []
  | a :: r => match f a, mapO f r with
    | some b, some bs => some (b :: bs)
    | _, _ => none

/-- Values without memory, of one cell. -/
def ofSc : Value → Option V
  | .int k n => some (.int k n)
  | .bool b => some (.bool b)
  | .string s => some (.str s)
  | .pointer none => some .nilPtr
  | .slice none 0 0 => some .nilSl
  | .nilIface => some .nilIface
  | .nilFunc => some .nilFunc
  | _ => none
def ofAg : Value → Option V
  | .agg cs => (mapO ofSc cs.toList).map .agg
  | v => ofSc v
def ofVal : Value → Option V
  | .iface t v => (ofAg v).map (.iface t)
  | .tuple vs => (mapO ofAg vs.toList).map .tup
  | .func fn f c => match mapO ofSc f.toList, mapO ofSc c.toList with
    | some f, some c => some (.func fn f c)
    | _, _ => none
  | v => ofAg v
def toSc : V → Option Value
  | .int k n => some (.int k n)
  | .bool b => some (.bool b)
  | .str s => some (.string s)
  | .nilPtr => some (.pointer none)
  | .nilSl => some (.slice none 0 0)
  | .nilIface => some .nilIface
  | .nilFunc => some .nilFunc
  | _ => none
def toAg : V → Option Value
  | .agg cs => (mapO toSc cs).map fun l => .agg l.toArray
  | v => toSc v
def toVal : V → Option Value
  | .iface t v => (toAg v).map (.iface t)
  | v => toAg v

def evalV (t : List V) : Operand → Option V
  | .tmp i => some (nth t i)
  | .const v => ofVal v
  | .func f => some (.func (.func f) [] [])
  | .global _ => none

/-- A computation of the model's that looks at no memory. -/
def pureRun {α : Type} (P : Program) : Sem α → Option α
  | .pure a => some a
  | .program k => pureRun P (k P)
  | .mark _ k => pureRun P k
  | _ => none

def V.cells : V → List V
  | .agg cs => cs
  | v => [v]
def V.one : V → Bool
  | .agg _ | .tup _ => false
  | _ => true

/-- Is it a struct or an array; how many cells it has. -/
def tySz (P : Program) (t : TypeId) : Option (Bool × Nat) :=
  match P.underlying t, P.info? t with
  | some d, some i => some (match d with | .struct _ | .array _ _ => true | _ => false, i.size)
  | _, _ => none
def partV (P : Program) (t : TypeId) (cs : List V) (off : Nat) : Option V :=
  match tySz P t with
  | some (true, n) => some (.agg ((cs.drop off).take n))
  | some (false, _) => cs[off]?
  | none => none

/-- The cells that a pointer leads to. -/
def cellsAt (L : Heap) : V → Option (List V)
  | .ptrI _ cs => some cs
  | .ptrB b off ver => match hget L b with
    | some blk => if blk.ver = ver ∧ off ≤ blk.cells.length then some (blk.cells.drop off) else none
    | none => none
  | _ => none
def loadV (P : Program) (L : Heap) (t : TypeId) (p : V) : Option V :=
  match tySz P t, cellsAt L p with
  | some (true, n), some cs => if n ≤ cs.length then some (.agg (cs.take n)) else none
  | some (false, _), some cs => cs[0]?
  | _, _ => none
def setCells : List V → Nat → List V → List V
  | l, _, [] => l
  | l, i, v :: r => setCells (l.set i v) (i + 1) r
def storeV (P : Program) (L : Heap) (t : TypeId) (p v : V) : Option Eff :=
  match tySz P t, p with
  | some (_, n), .ptrB b off ver => match hget L b with
    | some blk => if blk.ver = ver ∧ blk.fz = false ∧ v.cells.length = n ∧ off + n ≤ blk.cells.length ∧ v.cells.all V.one = true then
        some ⟨.tup [], [(b, { blk with cells := setCells blk.cells off v.cells })], []⟩ else none
    | none => none
  | _, _ => none
def ptrAdd (L : Heap) (p : V) (k : Nat) : Option V :=
  match p with
  | .ptrI fr cs => some (.ptrI fr (cs.drop k))
  | .ptrB b off ver => match hget L b with
    | some blk => if blk.ver = ver then some (.ptrB b (off + k) ver) else none
    | none => none
  | _ => none
def fieldOff (P : Program) (s : TypeId) (f : Nat) : Option (Nat × TypeId) :=
  match P.underlying s with
  | some (.struct fs) => match fs[f]? with
    | some fl => match tySz P fl.type with
      | some (_, n) => if n = 0 then none else some (fl.offset, fl.type)
      | none => none
    | none => none
  | _ => none
def idxAddr (P : Program) (L : Heap) (t : TypeId) (x : V) (i : Int) : Option V :=
  match P.underlying t with
  | some (.slice e) => match tySz P e, x with
    | some (_, k), .slI fr cs n _ => if 0 ≤ i ∧ i < n then some (.ptrI fr (cs.drop (i.toNat * k))) else none
    | some (_, k), .slB b off ver n => match hget L b with
      | some blk => if blk.ver = ver ∧ 0 ≤ i ∧ i < n then some (.ptrB b (off + i.toNat * k) ver) else none
      | none => none
    | _, _ => none
  | some (.array n e) => match tySz P e with
    | some (_, k) => if 0 ≤ i ∧ i < n then ptrAdd L x (i.toNat * k) else none
    | none => none
  | _ => none

/-- The cells of a slice (or a string's bytes), and how many elements. -/
def rowOf (L : Heap) (k : Nat) : V → Option (List V × Nat)
  | .nilSl => some ([], 0)
  | .slI _ cs n _ => if n * k ≤ cs.length then some (cs.take (n * k), n) else none
  | .slB b off ver n => match hget L b with
    | some blk => if blk.ver = ver ∧ off + n * k ≤ blk.cells.length then some ((blk.cells.drop off).take (n * k), n) else none
    | none => none
  | .str s => if k = 1 then some (s.data.toList.map (fun b => V.int .u8 b.toNat), s.size) else none
  | _ => none
def lenV (L : Heap) : V → Option Nat
  | .nilSl => some 0
  | .slI _ _ n _ => some n
  | .slB _ _ _ n => some n
  | .str s => some s.size
  | _ => none

def zerosV (z : List V) : Nat → List V
  | 0 => []
  | n + 1 => z ++ zerosV z n

def fillV (place : Nat → Option (Nat × Nat)) (cells : List V) : List (Nat × V) → Option (List V)
  | [] => some cells
  | (i, v) :: rest =>
    match place i with
    | none => none
    | some (off, size) =>
      if v.cells.length = size ∧ off + size ≤ cells.length ∧ v.cells.all V.one = true then fillV place (setCells cells off v.cells) rest else none

def zeroV (P : Program) (t : TypeId) : Option (List V) :=
  match P.info? t with
  | some i => match i.zero with
    | some z => match ofAg z with
      | some v => if v.cells.length = i.size then some v.cells else none
      | none => none
    | none => none
  | none => none

def intV : V → Option Int
  | .int _ n => some n
  | _ => none
def optV (t : List V) : Option Operand → Option (Option Int)
  | none => some none
  | some x => match evalV t x with
    | some v => (intV v).map some
    | none => none

/-- s[l:h:m] of a slice of n elements: whether it is as long as its room behind. -/
def cutV (L : Heap) (k : Nat) (x : V) (lo hi mx : Option Int) : Option V :=
  let l := (lo.getD 0).toNat
  if lo.getD 0 < 0 then none else
  match x with
  | .nilSl => if l = 0 ∧ hi.getD 0 = 0 ∧ mx.getD 0 = 0 ∧ (mx.isSome → hi.isSome) then some .nilSl else none
  | .slI fr cs n tight =>
    let h := (hi.getD n).toNat
    let m := (mx.getD n).toNat
    if 0 ≤ hi.getD n ∧ 0 ≤ mx.getD n ∧ l ≤ h ∧ h ≤ m ∧ m ≤ n ∧ (mx.isSome → hi.isSome) then
      let tt := match mx with | some _ => decide (m = h) | none => tight && decide (h = n)
      if l = 0 then some (.slI fr cs h tt) else if h = l then some (.slI fr [] 0 tt) else some (.slI fr (cs.drop (l * k)) (h - l) tt)
    else none
  | .slB b off ver n => match hget L b with
    | some blk =>
      let h := (hi.getD n).toNat
      let m := (mx.getD n).toNat
      if blk.ver = ver ∧ blk.k = k ∧ 0 ≤ hi.getD n ∧ 0 ≤ mx.getD n ∧ l ≤ h ∧ h ≤ m ∧ m ≤ n ∧ (mx.isSome → hi.isSome) then
        if h = l ∧ (l ≠ 0 ∨ mx.isSome) then some (.slI true [] 0 (mx.isSome && decide (m = h)))
        else some (.slB b (off + l * k) ver (h - l))
      else none
    | none => none
  | _ => none

def bytesOf : List V → Option (List UInt8)
  | [] => some []
  | .int .u8 n :: r => (bytesOf r).map (UInt8.ofNat n.toNat :: ·)
  | _ :: _ => none

def isInt : TypeDesc → Bool
  | .int _ => true
  | _ => false
/-- What is appended: a row's cells, or zeros. -/
def newRowV (L : Heap) (z : List V) (zeros : Bool) (x : V) : Option (List V × Nat) :=
  if zeros = true then match x with
    | .int _ l => if 0 ≤ l ∧ l ≤ 1099511627776 then some (zerosV z l.toNat, l.toNat) else none
    | _ => none
  else rowOf L z.length x
def appendV (P : Program) (L : Heap) (base : Nat) (e : TypeId) (zeros : Bool) (s x : V) : Option Eff :=
  match zeroV P e, P.info? e with
  | some z, some i => match newRowV L z zeros x with
    | some (new, m) =>
      if i.bytes ≤ 2 ^ 20 ∧ i.bytes ≠ 0 ∧ m ≤ 2 ^ 40 ∧ m * i.bytes ≤ 2 ^ 40 then
        match s with
        | .nilSl => some ⟨.slB base 0 0 m, [], [⟨new, z.length, 0, false⟩]⟩
        | .slI fr cs n true =>
          if (n + m) * i.bytes ≤ 2 ^ 40 ∧ n * z.length ≤ cs.length ∧ n + m ≤ 2 ^ 40 then
            if m = 0 ∧ n ≠ 0 then some (Eff.pure (.slI fr cs n true))
            else some ⟨.slB base 0 0 (n + m), [], [⟨cs.take (n * z.length) ++ new, z.length, 0, false⟩]⟩
          else none
        | .slB b off ver n => match hget L b with
          | some blk =>
            if blk.ver = ver ∧ blk.fz = false ∧ blk.k = z.length ∧ off + n * z.length = blk.cells.length ∧ (n + m) * i.bytes ≤ 2 ^ 40 ∧ n + m ≤ 2 ^ 40 ∧ new.all V.one = true then
              some ⟨.slB b 0 (ver + 1) (n + m), [(b, ⟨blk.cells.drop off ++ new, z.length, ver + 1, false⟩)], []⟩
            else none
          | none => none
        | _ => none
      else none
    | none => none
  | _, _ => none

def copyV (P : Program) (L : Heap) (e : TypeId) (d x : V) : Option Eff :=
  match tySz P e with
  | some (_, k) => match rowOf L k x, lenV L d with
    | some (new, m), some n =>
      match d with
      | .nilSl => some (Eff.pure (.int .i64 0))
      | .slI .. => if min m n = 0 then some (Eff.pure (.int .i64 0)) else none
      | .slB b off ver _ => match hget L b with
        | some blk => if blk.ver = ver ∧ blk.fz = false ∧ off + min m n * k ≤ blk.cells.length ∧ new.all V.one = true then
            some ⟨.int .i64 (min m n : Nat), [(b, { blk with cells := setCells blk.cells off (new.take (min m n * k)) })], []⟩ else none
        | none => none
      | _ => none
    | _, _ => none
  | none => none

def clearV (P : Program) (L : Heap) (e : TypeId) (d : V) : Option Eff :=
  match tySz P e, zeroV P e, lenV L d with
  | some (_, k), some z, some n =>
    match d with
    | .nilSl => some (Eff.pure (.tup []))
    | .slI .. => if n = 0 then some (Eff.pure (.tup [])) else none
    | .slB b off ver _ => match hget L b with
      | some blk => if blk.ver = ver ∧ blk.fz = false ∧ off + n * k ≤ blk.cells.length ∧ z.length = k ∧ z.all V.one = true then
          some ⟨.tup [], [(b, { blk with cells := setCells blk.cells off (zerosV z n) })], []⟩ else none
      | none => none
    | _ => none
  | _, _, _ => none

end
end Go.Proofs.Ytifgifhbefhkmaa.VM
