/- Values with labels: what each operation does. No conditions. -/
import Derived.Test.YtifgifhbefhkmaaSVa
namespace Go.Proofs.Ytifgifhbefhkmaa.VM
set_option linter.unusedSimpArgs false
set_option linter.unusedVariables false
open Go Go.RowKit
noncomputable section

/-- There is no way on here. -/
inductive Stuck (n : Nat) : Prop

/-! Labels. -/
def SB.not : SB → SB | .lit b => .lit (!b) | .sym p => .sym (¬ p)
def req (b : SB) (K : Prop) : Prop := match b with | .lit true => K | .lit false => Stuck 1 | .sym p => p ∧ K
def bra (b : SB) (K1 K2 : Prop) : Prop := match b with | .lit true => K1 | .lit false => K2 | .sym p => (p → K1) ∧ (¬ p → K2)
def SI.lt : SI → SI → SB | .lit a, .lit b => .lit (decide (a < b)) | a, b => .sym (a.val < b.val)
def SI.le : SI → SI → SB | .lit a, .lit b => .lit (decide (a ≤ b)) | a, b => .sym (a.val ≤ b.val)
def SI.eq : SI → SI → SB | .lit a, .lit b => .lit (decide (a = b)) | a, b => .sym (a.val = b.val)
def SN.le : SN → SN → SB | .lit a, .lit b => .lit (Nat.ble a b) | a, b => .sym (a.val ≤ b.val)
def SN.eq : SN → SN → SB | .lit a, .lit b => .lit (Nat.beq a b) | a, b => .sym (a.val = b.val)
def SN.add : SN → SN → SN | .lit a, .lit b => .lit (a + b) | a, .lit b => (bif Nat.beq b 0 then a else .sym (a.val + b)) | .lit a, b => (bif Nat.beq a 0 then b else .sym (a + b.val)) | a, b => .sym (a.val + b.val)
def SN.sub : SN → SN → SN | .lit a, .lit b => .lit (a - b) | a, .lit b => (bif Nat.beq b 0 then a else .sym (a.val - b)) | a, b => .sym (a.val - b.val)
def SI.toN : SI → SN | .lit a => .lit a.toNat | .sym a => .sym a.toNat
def SN.toI : SN → SI | .lit a => .lit (a : Int) | .sym a => .sym (a : Int)
def SN.min : SN → SN → SN | .lit a, .lit b => .lit (Min.min a b) | a, b => .sym (Min.min a.val b.val)
def rdrop {α : Type} (e : SN) (xs : List α) : List α := match e with | .lit 0 => xs | e => xs.drop e.val
def allN (m : Nat) (f : Nat → Prop) : Prop := Nat.rec (motive := fun _ => Prop) True (fun j ih => ih ∧ f j) m
/-- A place among so many. -/
def caseN (i : SN) (m : Nat) (K : Nat → Prop) : Prop :=
  match i with
  | .lit j => bif Nat.blt j m then K j else Stuck 2
  | .sym j => j < m ∧ allN m fun c => j = c → K c

/-! Heaps and temporaries. -/
def sget (H : SHeap) (j : Nat) : Option SBlk :=
  List.rec (motive := fun _ => Option SBlk) none (fun p _ ih => bif Nat.beq p.1 j then some p.2 else ih) H
def sset : SHeap → Nat → SBlk → SHeap
  | [], j, x => [(j, x)]
  | (i, b) :: r, j, x => bif Nat.beq i j then (i, x) :: r else (i, b) :: sset r j x
def snews : List SBlk → Nat → SHeap → SHeap
  | [], _, H => H
  | b :: r, j, H => snews r (j + 1) ((j, b) :: H)
def ssets : List (Nat × SBlk) → SHeap → SHeap
  | [], H => H
  | (j, x) :: r, H => ssets r (sset H j x)
def sapply (H : SHeap) (base : Nat) (e : SEff) : SHeap := snews e.new base (ssets e.wr H)
def SEff.pure (v : SV) : SEff := ⟨v, [], []⟩
def snth (l : List SV) (i : Nat) : SV :=
  List.rec (motive := fun _ => Nat → SV) (fun _ => .any) (fun v _ ih n => Nat.rec (motive := fun _ => SV) v (fun m _ => ih m) n) l i
def ssetn (l : List SV) (i : Nat) (x : SV) : List SV :=
  List.rec (motive := fun _ => Nat → List SV) (fun _ => []) (fun v r ih n => Nat.rec (motive := fun _ => List SV) (x :: r) (fun m _ => v :: ih m) n) l i
def ssetCells : List SV → Nat → List SV → List SV
  | l, _, [] => l
  | l, i, v :: r => ssetCells (ssetn l i v) (i + 1) r
def sdrop (l : List SV) (n : Nat) : List SV :=
  Nat.rec (motive := fun _ => List SV → List SV) (fun l => l) (fun _ ih l => match l with | [] => [] | _ :: r => ih r) n l
def stake (l : List SV) (n : Nat) : List SV :=
  Nat.rec (motive := fun _ => List SV → List SV) (fun _ => []) (fun _ ih l => match l with | [] => [] | x :: r => x :: ih r) n l
def slen (l : List SV) : Nat := List.rec (motive := fun _ => Nat) 0 (fun _ _ ih => Nat.succ ih) l

/-- A value without a name in it, as a value with labels. -/
def toS : Nat → V → SV
  | 0, _ => .any
  | n + 1, v => match v with
    | .int k i => .int k (.lit i)
    | .bool b => .bool (.lit b)
    | .str s => .str s
    | .agg cs => .agg (cs.map (toS n))
    | .tup cs => .tup (cs.map (toS n))
    | .iface t v => .iface t (toS n v)
    | .nilIface => .nilIface
    | .func fn f c => .func fn (f.map (toS n)) (c.map (toS n))
    | .nilFunc => .nilFunc
    | .nilPtr => .nilPtr
    | .nilSl => .nilSl
    | _ => .any
def evalS (t : List SV) : Operand → Option SV
  | .tmp i => some (snth t i)
  | .const v => (ofVal v).map (toS 9)
  | .func f => some (.func (.func f) [] [])
  | .global _ => none
def evalSL (t : List SV) : List Operand → Option (List SV)
  | [] => some []
  | x :: r => match evalS t x, evalSL t r with
    | some v, some vs => some (v :: vs)
    | _, _ => none
def evalSP (t : List SV) : List (Nat × Operand) → Option (List (Nat × SV))
  | [] => some []
  | (i, x) :: r => match evalS t x, evalSP t r with
    | some v, some vs => some ((i, v) :: vs)
    | _, _ => none
def mapS (f : SV → Option V) : List SV → Option (List V)
  | [] => some []
  | a :: r => match f a, mapS f r with
    | some b, some bs => some (b :: bs)
    | _, _ => none
/-- A value with nothing but what is written out. -/
def toV : Nat → SV → Option V
  | 0, _ => none
  | n + 1, v => match v with
    | .int k (.lit i) => some (.int k i)
    | .bool (.lit b) => some (.bool b)
    | .str s => some (.str s)
    | .agg cs => (mapS (toV n) cs).map .agg
    | .iface t v => (toV n v).map (.iface t)
    | .nilIface => some .nilIface
    | .nilFunc => some .nilFunc
    | .nilPtr => some .nilPtr
    | .nilSl => some .nilSl
    | _ => none

def SV.cells : SV → List SV
  | .agg cs => cs
  | v => [v]
def sones (l : List SV) : Bool := List.rec (motive := fun _ => Bool) true (fun v _ ih => bif v.one then ih else false) l
def SC.ones : SC → Bool
  | .lit l => sones l
  | .rows .. => true
def SBlk.with (b : SBlk) (cs : SC) : SBlk := ⟨cs, b.k, b.ver, b.fz, b.lz⟩

/-! What is known less of. -/
def pairL (f : SV → SV → Prop) : List SV → List SV → Prop
  | [], [] => True
  | a :: r, b :: s => f a b ∧ pairL f r s
  | _, _ => Stuck 3
def SB.iff : SB → SB → Prop
  | .lit a, .lit b => a = b
  | a, b => (a.holds ↔ b.holds)
/-- All that the first may be, the second may be. -/
def sle : Nat → SV → SV → Prop
  | 0, _, _ => Stuck 4
  | n + 1, a, b => match a, b with
    | _, .any => True
    | .int k x, .int l y => (if k = l then x.val = y.val else Stuck 5)
    | .bool x, .bool y => x.iff y
    | .str s, .str s' => s = s'
    | .strS l, .strS l' => l = l'
    | .str s, .strS l' => s = strOfNums l'
    | .agg cs, .agg ds => pairL (sle n) cs ds
    | .tup cs, .tup ds => pairL (sle n) cs ds
    | .iface t v, .iface t' v' => (if t = t' then sle n v v' else Stuck 6)
    | .nilIface, .nilIface => True
    | .func f a b, .func f' a' b' => f = f' ∧ pairL (sle n) a a' ∧ pairL (sle n) b b'
    | .nilFunc, .nilFunc => True
    | .nilPtr, .nilPtr => True
    | .nilSl, .nilSl => True
    | .nilSl, .slI _ cs m _ => m.val = 0 ∧ COK cs
    | .ptrB b e k f v, .ptrB b' e' k' f' v' => (if b = b' ∧ k = k' ∧ f = f' ∧ v = v' then e.val = e'.val else Stuck 7)
    | .slB b e k v m, .slB b' e' k' v' m' => (if b = b' ∧ k = k' ∧ v = v' then e.val = e'.val ∧ m.val = m'.val else Stuck 8)
    | .slI fr cs m tt, .slI fr' cs' m' tt' => (bif (!fr' || fr) && (!tt' || tt) then m.val = m'.val ∧ (match cs, cs' with
      | .lit l, .lit l' => pairL (sle n) l l'
      | .lit l, .rows e k d fl xs => ROK e k d fl ∧ pairL (sle n) l (xs.flatMap e)
      | .rows e k d fl xs, .lit l => pairL (sle n) (xs.flatMap e) l
      | a, b => a = b) else Stuck 9)
    | .ptrI fr ex cs, .ptrI fr' ex' cs' => (bif (!fr' || fr) && (!ex' || ex) then (match cs, cs' with
      | .lit l, .lit l' => pairL (sle n) l l'
      | .lit l, .rows e k d fl xs => ROK e k d fl ∧ pairL (sle n) l (xs.flatMap e)
      | .rows e k d fl xs, .lit l => pairL (sle n) (xs.flatMap e) l
      | a, b => a = b) else Stuck 10)
    | _, _ => Stuck 11
abbrev sles : List SV → List SV → Prop := pairL (sle 12)

/-! Memory. -/
def partS (P : Program) (t : TypeId) (cs : List SV) (off : Nat) (K : SV → Prop) : Prop :=
  match tySz P t with
  | some (true, n) => bif Nat.ble (off + n) (slen cs) then K (.agg (stake (sdrop cs off) n)) else Stuck 12
  | some (false, _) => match sdrop cs off with
    | v :: _ => K v
    | [] => Stuck 13
  | none => Stuck 14
/-- The cells from a pointer's on, as many as are asked for at the least. -/
def cellsS (H : SHeap) (n : Nat) (p : SV) (K : List SV → Prop) : Prop :=
  match p with
  | .ptrI _ _ (.lit cs) => bif Nat.ble n (slen cs) then K cs else Stuck 15
  | .ptrB b e k f ver => match sget H b with
    | some blk => bif Nat.beq blk.ver ver then match blk.cells with
      | .lit cs => caseN e (bif Nat.beq k 0 then slen cs + 1 else slen cs) fun i => bif Nat.ble (i * k + f + n) (slen cs) then K (sdrop cs (i * k + f)) else Stuck 16
      | .rows r k' d fl xs => bif Nat.beq k' k then e.val < xs.length ∧ ∀ x, xs[e.val]? = some x → (bif Nat.ble (f + n) (slen (r x)) then K (sdrop (r x) f) else Stuck 17) else Stuck 18
      else Stuck 19
    | none => Stuck 20
  | _ => Stuck 21
def loadS (P : Program) (H : SHeap) (t : TypeId) (p : SV) (K : SV → Prop) : Prop :=
  match tySz P t with
  | some (g, n) => cellsS H (bif g then n else 1) p fun cs => bif g then K (.agg (stake cs n)) else match cs with
    | v :: _ => K v
    | [] => Stuck 22
  | none => Stuck 23
def storeS (P : Program) (H : SHeap) (t : TypeId) (p v : SV) (K : SEff → Prop) : Prop :=
  match tySz P t, p with
  | some (_, n), .ptrB b e k f ver => match sget H b with
    | some blk => bif Nat.beq blk.ver ver && !blk.fz && Nat.beq (slen v.cells) n && sones v.cells then match blk.cells with
      | .lit cs => caseN e (bif Nat.beq k 0 then slen cs + 1 else slen cs) fun i => bif Nat.ble (i * k + f + n) (slen cs) then K ⟨.tup [], [(b, blk.with (.lit (ssetCells cs (i * k + f) v.cells)))], []⟩ else Stuck 24
      | .rows r k' d fl xs => bif Nat.beq k' k then e.val < xs.length ∧ (bif Nat.beq f 0 && Nat.beq n k then
            ∃ y, sles v.cells (r y) ∧ K ⟨.tup [], [(b, blk.with (.rows r k' d fl (xs.set e.val y)))], []⟩
          else ∀ x, xs[e.val]? = some x → (bif Nat.ble (f + n) (slen (r x)) then ∃ y, sles (ssetCells (r x) f v.cells) (r y) ∧ K ⟨.tup [], [(b, blk.with (.rows r k' d fl (xs.set e.val y)))], []⟩ else Stuck 25)) else Stuck 26
      else Stuck 27
    | none => Stuck 28
  | _, _ => Stuck 29
def ptrAddS (H : SHeap) (p : SV) (c : Nat) (K : SV → Prop) : Prop :=
  match p with
  | .ptrI fr ex (.lit cs) => K (.ptrI fr ex (.lit (sdrop cs c)))
  | .ptrB b e k f ver => match sget H b with
    | some blk => bif Nat.beq blk.ver ver && !blk.lz then K (.ptrB b e k (f + c) ver) else Stuck 30
    | none => Stuck 31
  | _ => Stuck 32
def idxAddrS (P : Program) (H : SHeap) (t : TypeId) (x : SV) (i : SI) (K : SV → Prop) : Prop :=
  match P.underlying t with
  | some (.slice el) => match tySz P el, x with
    | some (_, k), .slI fr cs n _ => req (SI.le (.lit 0) i) (req (SI.lt i n.toI) (match cs with
      | .lit l => caseN i.toN (slen l) fun j => K (.ptrI fr true (.lit (sdrop l (j * k))))
      | .rows r k' d fl xs => bif Nat.beq k' k then i.val.toNat < xs.length ∧ ∀ y, xs[i.val.toNat]? = some y → K (.ptrI fr false (.lit (r y))) else Stuck 33))
    | some (_, k), .slB b e k' ver n => match sget H b with
      | some blk => bif Nat.beq blk.ver ver && Nat.beq k' k then req (SI.le (.lit 0) i) (req (SI.lt i n.toI) (K (.ptrB b (e.add i.toN) k 0 ver))) else Stuck 34
      | none => Stuck 35
    | _, _ => Stuck 36
  | some (.array n el) => match tySz P el with
    | some (_, k) => req (SI.le (.lit 0) i) (req (SI.lt i (.lit (n : Int))) (caseN i.toN n fun j => ptrAddS H x (j * k) K))
    | none => Stuck 37
  | _ => Stuck 38

/-- The cells of a row, and how many things. -/
def SC.cut (cs : SC) (k : Nat) (e n : SN) (K : SC → Prop) : Prop :=
  match cs with
  | .lit l => match e, n with
    | .lit e, .lit n => bif Nat.ble ((e + n) * k) (slen l) then K (.lit (stake (sdrop l (e * k)) (n * k))) else Stuck 39
    | _, _ => Stuck 40
  | .rows r k' d fl xs => bif Nat.beq k' k then req (SN.le (e.add n) (.sym xs.length)) (K (.rows r k' d fl ((rdrop e xs).take n.val))) else Stuck 41
def rowS (H : SHeap) (k : Nat) (v : SV) (K : SC → SN → Prop) : Prop :=
  match v with
  | .nilSl => K (.lit []) (.lit 0)
  | .slI _ cs n _ => cs.cut k (.lit 0) n fun c => K c n
  | .slB b e k' ver n => match sget H b with
    | some blk => bif Nat.beq blk.ver ver && Nat.beq k' k then blk.cells.cut k e n fun c => K c n else Stuck 42
    | none => Stuck 43
  | .str s => bif Nat.beq k 1 then K (.lit (s.data.toList.map fun b => .int .u8 (.lit b.toNat))) (.lit s.size) else Stuck 44
  | _ => Stuck 45
def lenS (H : SHeap) : SV → Option SN
  | .nilSl => some (.lit 0)
  | .slI _ _ n _ => some n
  | .slB b _ _ ver n => match sget H b with
    | some blk => bif Nat.beq blk.ver ver then some n else none
    | none => none
  | _ => none

/-- One row behind another. -/
def SC.app (a b : SC) (K : SC → Prop) : Prop :=
  match a, b with
  | .lit l, .lit m => K (.lit (l ++ m))
  | .lit [], .rows r k d fl xs => K (.rows r k d fl xs)
  | .rows r k d fl xs, .lit m => match m with
    | [] => K (.rows r k d fl xs)
    | m => bif Nat.beq (slen m) k then ∃ y, sles m (r y) ∧ K (.rows r k d fl (xs ++ [y])) else ∃ ys, sles m (ys.flatMap r) ∧ K (.rows r k d fl (xs ++ ys))
  | .rows r k d fl xs, b => ∃ ys, b = .rows r k d fl ys ∧ K (.rows r k d fl (xs ++ ys))
  | .lit l, .rows r k d fl xs => ∃ ys, sles l (ys.flatMap r) ∧ K (.rows r k d fl (ys ++ xs))

/-- How the things of a kind are to be told, where there is a number of them that has a name. -/
structure SRow where
  α : Type
  r : α → List SV
  k : Nat
  d : Nat
  fl : Bool
  zero : α
structure SCfg where
  row : TypeId → Option SRow
def zeroS (P : Program) (t : TypeId) : Option (List SV) := (zeroV P t).map fun z => z.map (toS 9)
def szeros (z : List SV) : Nat → List SV
  | 0 => []
  | n + 1 => z ++ szeros z n
def makeS (cx : SCfg) (P : Program) (e : TypeId) (l : SN) (z : List SV) (K : SC → Prop) : Prop :=
  match l with
  | .lit l => K (.lit (szeros z l))
  | .sym l => match cx.row e with
    | some w => ROK w.r w.k w.d w.fl ∧ (bif Nat.beq w.k (slen z) then sles z (w.r w.zero) ∧ K (.rows w.r w.k w.d w.fl (List.replicate l w.zero)) else Stuck 46)
    | none => Stuck 47

/-- The cells from a slice's first on, where it ends with the block. -/
def SC.from (cs : SC) (k : Nat) (o n : SN) (K : SC → Prop) : Prop :=
  match cs with
  | .lit l => match o, n with
    | .lit o, .lit n => bif Nat.beq ((o + n) * k) (slen l) then K (.lit (sdrop l (o * k))) else Stuck 201
    | _, _ => Stuck 202
  | .rows r k' d fl xs => bif Nat.beq k' k then (SN.add o n).val = xs.length ∧ K (.rows r k' d fl (rdrop o xs)) else Stuck 203
def appTo (H : SHeap) (base k bytes : Nat) (s : SV) (new : SC) (m : SN) (K : SEff → Prop) : Prop :=
  match s with
  | .nilSl => req (SN.le m (.lit (2 ^ 40 / bytes))) (K ⟨.slB base (.lit 0) k 0 m, [], [⟨new, k, 0, false, false⟩]⟩)
  | .slI fr cs n true => req (SN.le (n.add m) (.lit (2 ^ 40 / bytes))) (bra (SN.eq n (.lit 0))
      (K ⟨.slB base (.lit 0) k 0 m, [], [⟨new, k, 0, false, false⟩]⟩)
      (cs.cut k (.lit 0) n fun c => bra (SN.eq m (.lit 0)) (K (SEff.pure (.slI fr cs n true))) (c.app new fun c => K ⟨.slB base (.lit 0) k 0 (n.add m), [], [⟨c, k, 0, false, false⟩]⟩)))
  | .slB b o k' ver n => match sget H b with
    | some blk => bif Nat.beq blk.ver ver && !blk.fz && Nat.beq blk.k k && Nat.beq k' k then
        req (SN.le (n.add m) (.lit (2 ^ 40 / bytes))) (blk.cells.from k o n fun c => c.app new fun c => K ⟨.slB b (.lit 0) k (ver + 1) (n.add m), [(b, ⟨c, k, ver + 1, false, false⟩)], []⟩)
      else Stuck 204
    | none => Stuck 205
  | _ => Stuck 206
def appendS (cx : SCfg) (P : Program) (H : SHeap) (base : Nat) (e : TypeId) (zeros : Bool) (s x : SV) (K : SEff → Prop) : Prop :=
  match zeroS P e, P.info? e with
  | some z, some i => bif Nat.ble i.bytes (2 ^ 20) && !Nat.beq i.bytes 0 then
      (bif zeros then match x with
        | .int _ l => req (SI.le (.lit 0) l) (req (SI.le l (.lit 1099511627776)) (makeS cx P e l.toN z fun c => bif c.ones then appTo H base (slen z) i.bytes s c l.toN K else Stuck 211))
        | _ => Stuck 207
      else rowS H (slen z) x fun c m => bif c.ones then appTo H base (slen z) i.bytes s c m K else Stuck 210)
    else Stuck 208
  | _, _ => Stuck 209

/-- Cells written over others, from one thing on. -/
def SC.over (cs : SC) (k : Nat) (e cnt : SN) (new : SC) (K : SC → Prop) : Prop :=
  match cs with
  | .lit l => match e, cnt, new with
    | .lit e, .lit c, .lit m => bif Nat.ble ((e + c) * k) (slen l) && Nat.ble (c * k) (slen m) then K (.lit (ssetCells l (e * k) (stake m (c * k)))) else Stuck 226
    | _, _, _ => Stuck 227
  | .rows r k' d fl xs => bif Nat.beq k' k then req (SN.le (e.add cnt) (.sym xs.length))
      (∃ ys, (match new with | .lit m => sles m (ys.flatMap r) | new => new = .rows r k' d fl ys) ∧ cnt.val ≤ ys.length ∧ K (.rows r k' d fl (xs.take e.val ++ ys.take cnt.val ++ xs.drop (e.val + cnt.val)))) else Stuck 228
def copyS (P : Program) (H : SHeap) (e : TypeId) (d x : SV) (K : SEff → Prop) : Prop :=
  match tySz P e, d with
  | some (_, k), .slB b o k' ver n => (match sget H b with
    | some blk => bif Nat.beq blk.ver ver && !blk.fz && Nat.beq k' k && !blk.lz then
        rowS H k x fun new m => bif new.ones then blk.cells.over k o (SN.min m n) new fun c => K ⟨.int .i64 (SN.min m n).toI, [(b, blk.with c)], []⟩ else Stuck 229
      else Stuck 230
    | none => Stuck 231)
  | _, _ => Stuck 232
def clearS (P : Program) (H : SHeap) (e : TypeId) (d : SV) (K : SEff → Prop) : Prop :=
  match tySz P e, zeroS P e, d with
  | some (_, k), some z, .slB b o k' ver n => (match sget H b with
    | some blk => bif Nat.beq blk.ver ver && !blk.fz && Nat.beq k' k && !blk.lz && Nat.beq (slen z) k && sones z then
        (match blk.cells with
        | .lit l => (match n with
          | .lit n => SC.over (.lit l) k o (.lit n) (.lit (szeros z n)) fun c => K ⟨.tup [], [(b, blk.with c)], []⟩
          | .sym _ => Stuck 233)
        | .rows r k'' d fl xs => ∃ y, sles z (r y) ∧ SC.over (.rows r k'' d fl xs) k o n (.rows r k'' d fl (List.replicate n.val y)) fun c => K ⟨.tup [], [(b, blk.with c)], []⟩)
      else Stuck 234
    | none => Stuck 235)
  | _, _, _ => Stuck 236

def optS (t : List SV) : Option Operand → Option (Option SI)
  | none => some none
  | some x => match evalS t x with
    | some (.int _ n) => some (some n)
    | _ => none
/-- A bound that is told, or the other one. -/
def orS (x : Option SI) (d : SI) : SI := match x with | some l => l | none => d
def zeroI : SI → Bool | .lit n => decide (n = 0) | .sym _ => false
def tightS (n : SN) (tight : Bool) (hi mx : Option SI) : Bool :=
  match hi, mx with
  | some (.lit h), some (.lit m) => decide (m = h)
  | none, none => tight
  | some (.lit h), none => (match n with | .lit n => tight && decide (h = (n : Int)) | .sym _ => false)
  | _, _ => false
def cutI (k : Nat) (fr : Bool) (cs : SC) (tt : Bool) (l h : SI) (K : SV → Prop) : Prop :=
  match cs with
  | .lit c => caseN l.toN (slen c + 1) fun j => bif Nat.beq (j * k) 0 || Nat.ble (j * k) (slen c) then K (.slI fr (.lit (sdrop c (j * k))) (h.toN.sub (.lit j)) tt) else Stuck 212
  | .rows r k' d fl xs => bif Nat.beq k' k then K (.slI fr (.rows r k' d fl (rdrop l.toN xs)) (h.toN.sub l.toN) tt) else Stuck 213
/-- s[l:h:m]. -/
def cutS (H : SHeap) (k : Nat) (x : SV) (lo hi mx : Option SI) (K : SV → Prop) : Prop :=
  bif mx.isSome && hi.isNone then Stuck 200 else
  match x with
  | .nilSl => bif zeroI (orS lo (.lit 0)) && zeroI (orS hi (.lit 0)) && zeroI (orS mx (.lit 0)) then K .nilSl else Stuck 214
  | .slI fr cs n tight => req (SI.le (.lit 0) (orS lo (.lit 0))) (req (SI.le (orS lo (.lit 0)) (orS hi n.toI)) (req (SI.le (orS hi n.toI) (orS mx n.toI)) (req (SI.le (orS mx n.toI) n.toI)
      (cutI k fr cs (tightS n tight hi mx) (orS lo (.lit 0)) (orS hi n.toI) K))))
  | .slB b e k' ver n => match sget H b with
    | some blk => bif Nat.beq blk.ver ver && Nat.beq k' k && Nat.beq blk.k k && !blk.lz then
        req (SI.le (.lit 0) (orS lo (.lit 0))) (req (SI.le (orS lo (.lit 0)) (orS hi n.toI)) (req (SI.le (orS hi n.toI) (orS mx n.toI)) (req (SI.le (orS mx n.toI) n.toI)
          (bra (match mx with | none => SI.eq (orS lo (.lit 0)) (.lit 0) | some _ => .lit false) (K (.slB b e k ver (orS hi n.toI).toN))
            (bra (SI.eq (orS hi n.toI) (orS lo (.lit 0))) (K (.slI true (.lit []) (.lit 0) false)) (K (.slB b (e.add (orS lo (.lit 0)).toN) k ver ((orS hi n.toI).toN.sub (orS lo (.lit 0)).toN))))))))
      else Stuck 215
    | none => Stuck 216
  | _ => Stuck 217

def fillS (place : Nat → Option (Nat × Nat)) (cells : List SV) : List (Nat × SV) → Option (List SV)
  | [] => some cells
  | (i, v) :: rest =>
    match place i with
    | none => none
    | some (off, size) =>
      bif Nat.beq (slen v.cells) size && Nat.ble (off + size) (slen cells) && sones v.cells then fillS place (ssetCells cells off v.cells) rest else none
def buildS (P : Program) (t : List SV) (ty : TypeId) (parts : Array (Nat × Operand)) : Option SV :=
  match zeroS P ty, evalSP t parts.toList, P.underlying ty with
  | some z, some vs, some (.struct fields) =>
    match fields.toList.mapM (fun f => (P.info? f.type).map fun i => (f.offset, i.size)) with
    | some places => (fillS (places.toArray[·]?) z vs).map .agg
    | none => none
  | some z, some vs, some (.array _ e) =>
    match P.info? e with
    | some i => (fillS (fun j => some (j * i.size, i.size)) z vs).map .agg
    | none => none
  | _, _, _ => none
def buildSliceS (P : Program) (t : List SV) (ty : TypeId) (len : Nat) (parts : Array (Nat × Operand)) : Option SV :=
  match P.underlying ty with
  | some (.slice e) => match zeroS P e, evalSP t parts.toList with
    | some z, some vs => bif Nat.ble (len * slen z) 16777216 then match fillS (fun i => some (i * slen z, slen z)) (szeros z len) vs with
      | some cells => some (.slI true (.lit cells) (.lit len) true)
      | none => none else none
    | _, _ => none
  | _ => none

/-! Numbers, strings and comparisons. -/
def bitsOf (f : Nat → Nat → Nat) (k : IntKind) (a b : Int) : Int := k.wrap ((f (a % 2 ^ k.bits).toNat (b % 2 ^ k.bits).toNat : Nat) : Int)
def SI.map2 (f : Int → Int → Int) : SI → SI → SI
  | .lit a, .lit b => .lit (f a b)
  | a, b => .sym (f a.val b.val)
def binS (op : BinOp) (k l : IntKind) (a b : SI) (K : SV → Prop) : Prop :=
  match op with
  | .shr => (match b with
    | .lit b => bif decide (b < 0) then Stuck 66 else K (.int k (match a with | .lit a => .lit (a.fdiv (2 ^ Min.min b.toNat k.bits)) | .sym a => .sym (a.fdiv (2 ^ Min.min b.toNat k.bits))))
    | .sym b => 0 ≤ b ∧ K (.int k (.sym (a.val.fdiv (2 ^ Min.min b.toNat k.bits)))))
  | .shl => (match b with
    | .lit b => bif decide (b < 0) then Stuck 67 else K (.int k (match a with | .lit a => .lit (k.wrap (a * 2 ^ Min.min b.toNat k.bits)) | .sym a => .sym (k.wrap (a * 2 ^ Min.min b.toNat k.bits))))
    | .sym b => 0 ≤ b ∧ K (.int k (.sym (k.wrap (a.val * 2 ^ Min.min b.toNat k.bits)))))
  | op => if k = l then
      (fun (ar : (Int → Int → Int) → Prop) (cm : SB → Prop) => match op with
        | .add => ar (fun a b => k.wrap (a + b))
        | .sub => ar (fun a b => k.wrap (a - b))
        | .mul => ar (fun a b => k.wrap (a * b))
        | .and => ar (fun a b => bitsOf (· &&& ·) k a b)
        | .or => ar (fun a b => bitsOf (· ||| ·) k a b)
        | .xor => ar (fun a b => bitsOf (· ^^^ ·) k a b)
        | .andNot => ar (fun a b => k.wrap ((BitVec.ofInt k.bits a &&& ~~~ BitVec.ofInt k.bits b).toNat : Int))
        | .quo => req (SI.eq b (.lit 0)).not (ar (fun a b => k.wrap (a.tdiv b)))
        | .rem => req (SI.eq b (.lit 0)).not (ar (fun a b => a.tmod b))
        | .eql => cm (SI.eq a b)
        | .neq => cm (SI.eq a b).not
        | .lss => cm (SI.lt a b)
        | .leq => cm (SI.le a b)
        | .gtr => cm (SI.lt b a)
        | .geq => cm (SI.le b a)
        | _ => Stuck 68)
      (fun f => K (.int k (SI.map2 f a b)))
      (fun s => K (.bool s))
    else Stuck 69

end
end Go.Proofs.Ytifgifhbefhkmaa.VM
