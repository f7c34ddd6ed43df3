/- Values with labels: the machine. No conditions. -/
import Derived.Test.YtifgifhbefhkmaaSVb
namespace Go.Proofs.Ytifgifhbefhkmaa.VM
set_option linter.unusedSimpArgs false
set_option linter.unusedVariables false
open Go Go.RowKit
noncomputable section

/-! What is handed to a call. -/
def sreifyL (f : SV → (SV → List Nat → Prop) → Prop) : List SV → (List SV → List Nat → Prop) → Prop
  | [], K => K [] []
  | v :: r, K => f v fun x a => sreifyL f r fun xs b => K (x :: xs) (a ++ b)
def SC.reify (n : Nat) (f : SV → (SV → List Nat → Prop) → Prop) (cs : SC) (K : SC → List Nat → Prop) : Prop :=
  match cs with
  | .lit l => sreifyL f l fun l rs => K (.lit l) rs
  | .rows e k d fl xs => bif Nat.ble d n then K (.rows e k d fl xs) [] else Stuck 218
/-- Cells that are written out are there. -/
def fitsS (cs : SC) (n : SN) : Bool :=
  match cs with
  | .lit [] => true
  | .lit _ => (match n with | .lit k => !Nat.beq k 0 | .sym _ => false)
  | .rows .. => true
def sreify (H : SHeap) (res : Bool) : Nat → SV → (SV → List Nat → Prop) → Prop
  | 0, _, _ => Stuck 70
  | n + 1, v, K => match v with
    | .any => Stuck 71
    | .int k i => K (.int k i) []
    | .bool b => K (.bool b) []
    | .str s => K (.str s) []
    | .strS s => K (.strS s) []
    | .nilIface => K .nilIface []
    | .nilFunc => K .nilFunc []
    | .nilPtr => K .nilPtr []
    | .nilSl => K .nilSl []
    | .agg cs => sreifyL (sreify H res n) cs fun cs rs => K (.agg cs) rs
    | .tup cs => sreifyL (sreify H res n) cs fun cs rs => K (.tup cs) rs
    | .iface t v => sreify H res n v fun v rs => K (.iface t v) rs
    | .func fn f c => sreifyL (sreify H res n) f fun f a => sreifyL (sreify H res n) c fun c b => K (.func fn f c) (a ++ b)
    | .ptrI fr ex cs => bif ex then cs.reify n (sreify H res n) fun c rs => K (.ptrI (fr && res) true c) rs else Stuck 72
    | .slI fr cs m tt => bif fitsS cs m then cs.reify n (sreify H res n) fun c rs => K (.slI (fr && res) c m tt) rs else Stuck 219
    | .ptrB b e k f ver => match sget H b, e with
      | some blk, .lit e => bif Nat.beq blk.ver ver && !blk.lz then match blk.cells with
          | .lit l => bif Nat.ble (e * k + f) (slen l) then sreifyL (sreify H res n) (sdrop l (e * k + f)) fun l rs => K (.ptrI res true (.lit l)) (b :: rs) else Stuck 73
          | _ => Stuck 74
        else Stuck 75
      | _, _ => Stuck 76
    | .slB b e k ver m => match sget H b with
      | some blk => bif Nat.beq blk.ver ver && Nat.beq blk.k k then blk.cells.cut k e m fun c => c.reify n (sreify H res n) fun c rs => K (.slI res c m false) (b :: rs) else Stuck 77
      | none => Stuck 78
def saliasL (f : SV → Bool) : List SV → Bool
  | [] => false
  | v :: r => f v || saliasL f r
def salias : Nat → SV → Bool
  | 0, _ => true
  | n + 1, v => match v with
    | .any => true
    | .agg cs => saliasL (salias n) cs
    | .tup cs => saliasL (salias n) cs
    | .iface _ v => salias n v
    | .func _ f c => saliasL (salias n) f || saliasL (salias n) c
    | .ptrI fr ex cs => !fr || !ex || (match cs with | .lit l => saliasL (salias n) l | .rows _ _ _ fl _ => !fl)
    | .slI fr cs m _ => match cs, m with
      | .lit [], .lit 0 => false
      | .lit l, _ => !fr || saliasL (salias n) l
      | .rows _ _ _ fl _, _ => !fr || !fl
    | _ => false
def sfreeze (H : SHeap) : List Nat → Option (List (Nat × SBlk))
  | [] => some []
  | b :: r => match sget H b, sfreeze H r with
    | some blk, some l => some ((b, ⟨blk.cells, blk.k, blk.ver, true, blk.lz⟩) :: l)
    | _, _ => none
abbrev SCall := FuncId → Nat → List SV → (SV → List SBlk → Prop) → Prop
def scallE (call : SCall) (H : SHeap) (base : Nat) (f : FuncId) (vs : List SV) (K : SEff → Prop) : Prop :=
  sreifyL (sreify H false 50) vs fun as rs => call f base as fun rv blks =>
    match sfreeze H (bif salias 50 rv || blks.any (fun b => match b.cells with | .lit l => saliasL (salias 50) l | .rows _ _ _ fl _ => !fl) then rs else []) with
    | some wr => K ⟨rv, wr, blks⟩
    | none => Stuck 79

/-! Operations. -/
def pureS (P : Program) (t : List SV) (o : Oper) (K : SEff → Prop) : Prop :=
  bif o.op.operands.toList.all (fun x => ((evalS t x).bind (toV 9)).isSome) then
    match pureOp P (t.map fun s => (toV 9 s).getD (.tup [])) o with
    | some e => K (SEff.pure (toS 9 e.v))
    | none => Stuck 80
  else Stuck 81
def eB (n : Int) : List SV := [.int .u8 (.sym n)]
def bytesC (l : List Int) : SC := .rows eB 1 1 true l
def sintsL : List SV → Option (List Int)
  | [] => some []
  | .int .u8 (.lit n) :: r => (sintsL r).map fun p => n :: p
  | .int .u8 (.sym n) :: r => (sintsL r).map fun p => n :: p
  | _ => none
def slits : List SV → Bool
  | [] => true
  | .int .u8 (.lit _) :: r => slits r
  | _ => false
def sints (l : List SV) : Option (List Int × Bool) := (sintsL l).map fun p => (p, slits l)
def isBytes (l : List Int) : Prop := ∀ x ∈ l, 0 ≤ x ∧ x < 256
def strNums (s : ByteArray) : List Int := s.data.toList.map fun b => (b.toNat : Int)
def SV.text : SV → Option (List Int × Bool)
  | .str s => some (strNums s, true)
  | .strS l => some (l, false)
  | _ => none
def textEqS (a b : SV) (K : Prop → Prop) : Prop :=
  match a.text, b.text with
  | some (l, x), some (m, y) => (fun G : Prop => bif x then G else isBytes l ∧ G) ((fun G : Prop => bif y then G else isBytes m ∧ G) (K (l = m)))
  | _, _ => Stuck 82
def SB.and : SB → SB → SB
  | .lit true, b => b
  | .lit false, _ => .lit false
  | a, .lit true => a
  | a, b => .sym (a.holds ∧ b.holds)
def SB.same : SB → SB → SB
  | .lit a, .lit b => .lit (a == b)
  | a, b => .sym (a.holds ↔ b.holds)
def isSc : SV → Bool
  | .int .. => true
  | .bool _ => true
  | _ => false
def allSc (l : List SV) : Bool := List.rec (motive := fun _ => Bool) true (fun v _ ih => bif isSc v then ih else false) l
def partO (P : Program) (t : TypeId) (cs : List SV) (off : Nat) : Option SV :=
  match tySz P t with
  | some (true, n) => some (.agg (stake (sdrop cs off) n))
  | some (false, _) => (match sdrop cs off with
    | v :: _ => some v
    | [] => none)
  | none => none
def eqF (f : TypeId → SV → SV → Option SB) (P : Program) (xs ys : List SV) : List Field → Option SB
  | [] => some (.lit true)
  | g :: r => if g.name ≠ "_" then
      match partO P g.type xs g.offset, partO P g.type ys g.offset with
      | some a, some b => (match f g.type a b, eqF f P xs ys r with
        | some p, some q => some (p.and q)
        | _, _ => none)
      | _, _ => none
    else eqF f P xs ys r
/-- Are two values of a type the same? -/
def eqS (P : Program) : Nat → TypeId → SV → SV → Option SB
  | 0, _, _, _ => none
  | d + 1, t, x, y => match P.underlying t, x, y with
    | some .bool, .bool a, .bool b => some (a.same b)
    | some (.int _), .int k a, .int l b => if k = l then some (SI.eq a b) else none
    | some (.struct fs), .agg xs, .agg ys => bif allSc xs && allSc ys && !P.stoodInHeld t then eqF (eqS P d) P xs ys fs.toList else none
    | _, _, _ => none
def boolTy (P : Program) (ty : TypeId) : Bool := match P.underlying ty with | some .bool => true | _ => false
/-- There is a thing in a row. -/
def nonE (cs : SC) (n : SN) (K : Prop) : Prop :=
  match cs, n with
  | .lit (_ :: _), .lit (_ + 1) => K
  | .rows _ k _ _ xs, n => bif Nat.blt 0 k then 0 < n.val ∧ 0 < xs.length ∧ K else Stuck 277
  | _, _ => Stuck 278
def sliceTy (P : Program) (ty : TypeId) : Bool := match P.underlying ty with | some (.slice _) => true | _ => false
def binOpS (P : Program) (t : List SV) (o : Oper) (op : BinOp) (ty : TypeId) (x y : SV) (K : SEff → Prop) : Prop :=
  match x, y with
  | .int k a, .int l b => binS op k l a b fun v => K (SEff.pure v)
  | .bool (.sym p), .bool b => bif boolTy P ty then (match op with
    | .eql => K (SEff.pure (.bool (.sym (p ↔ b.holds))))
    | .neq => K (SEff.pure (.bool (.sym (¬ (p ↔ b.holds)))))
    | _ => Stuck 220) else Stuck 221
  | .bool (.lit a), .bool (.sym q) => bif boolTy P ty then (match op with
    | .eql => K (SEff.pure (.bool (.sym (a = true ↔ q))))
    | .neq => K (SEff.pure (.bool (.sym (¬ (a = true ↔ q)))))
    | _ => Stuck 222) else Stuck 223
  | .agg xs, .agg ys => bif P.eqGuardType P.depth ty || !(allSc xs && allSc ys) then Stuck 265 else (match eqS P 9 ty (.agg xs) (.agg ys) with
    | some s => (match op with
      | .eql => K (SEff.pure (.bool s))
      | .neq => K (SEff.pure (.bool s.not))
      | _ => Stuck 266)
    | none => Stuck 267)
  | .strS l, y => (match op with
    | .eql => textEqS (.strS l) y fun p => K (SEff.pure (.bool (.sym p)))
    | .neq => textEqS (.strS l) y fun p => K (SEff.pure (.bool (.sym (¬ p))))
    | _ => Stuck 224)
  | .str s, .strS l => (match op with
    | .eql => textEqS (.str s) (.strS l) fun p => K (SEff.pure (.bool (.sym p)))
    | .neq => textEqS (.str s) (.strS l) fun p => K (SEff.pure (.bool (.sym (¬ p))))
    | _ => Stuck 225)
  | .slI _ cs n _, .nilSl => bif sliceTy P ty then (match op with
    | .eql => nonE cs n (K (SEff.pure (.bool (.lit false))))
    | .neq => nonE cs n (K (SEff.pure (.bool (.lit true))))
    | _ => Stuck 275) else Stuck 276
  | _, _ => pureS P t o K
def builtinS (cx : SCfg) (P : Program) (H : SHeap) (base : Nat) (t : List SV) (o : Oper) (b : Builtin) (args : List Operand) (ats : Array TypeId) (K : SEff → Prop) : Prop :=
  match b, args, ats.toList with
  | .append, [x, y], [ty, tyx] => (match P.underlying ty, P.underlying tyx, evalS t x, evalS t y with
    | some (.slice e), some d, some s, some v => appendS cx P H base e (isInt d) s v K
    | _, _, _, _ => Stuck 237)
  | .copy, [x, y], ty :: _ => (match P.underlying ty, evalS t x, evalS t y with
    | some (.slice e), some d, some v => copyS P H e d v K
    | _, _, _ => Stuck 238)
  | .clear, [x], ty :: _ => (match P.underlying ty, evalS t x with
    | some (.slice e), some d => clearS P H e d K
    | _, _ => Stuck 239)
  | .len, [x], [ty] => (match P.underlying ty, evalS t x with
    | some (.slice e), some v => (match lenS H v with
      | some n => K (SEff.pure (.int .i64 n.toI))
      | none => Stuck 240)
    | some .string, some (.str s) => pureS P t o K
    | _, _ => Stuck 241)
  | .min, [x, y], _ => (match evalS t x, evalS t y with
    | some (.int k a), some (.int _ b) => K (SEff.pure (.int k (SI.map2 (fun a b => if b < a then b else a) a b)))
    | _, _ => Stuck 242)
  | .max, [x, y], _ => (match evalS t x, evalS t y with
    | some (.int k a), some (.int _ b) => K (SEff.pure (.int k (SI.map2 (fun a b => if b > a then b else a) a b)))
    | _, _ => Stuck 243)
  | _, _, _ => Stuck 244
def resolveS (P : Program) (t : List SV) (c : Call) : Option (FuncId × List SV) :=
  match evalSL t c.args.toList with
  | some vs => match c.callee with
    | .value x => match evalS t x with
      | some (.func (.func f) first captured) => if okFn P f = true then some (f, first ++ vs ++ captured) else none
      | _ => none
    | .invoke x name => match evalS t x with
      | some (.iface ty v) => match methodV P ty name with
        | some f => if okFn P f = true then some (f, v :: vs) else none
        | none => none
      | _ => none
    | .builtin _ => none
  | none => none
def textS (c : SC) (K : SV → Prop) : Prop :=
  match c with
  | .lit l => (match sints l with
    | some (ns, b) => K (bif b then .str (strOfNums ns) else .strS ns)
    | none => Stuck 248)
  | .rows r k d fl xs => ∃ ns, SC.rows r k d fl xs = bytesC ns ∧ K (.strS ns)
def isU8 (P : Program) (e : TypeId) : Bool := match P.underlying e with | some (.int .u8) => true | _ => false
def convS (P : Program) (H : SHeap) (base : Nat) (src dst : TypeId) (ds dd : TypeDesc) (s : SV) (K : SEff → Prop) : Prop :=
  match dd with
  | .int k => (match s with
    | .int _ n => K (SEff.pure (.int k (match n with | .lit n => .lit (k.wrap n) | .sym n => .sym (k.wrap n))))
    | _ => Stuck 249)
  | .string => (match ds with
    | .slice e => (match s with
      | .str _ => Stuck 258
      | s => bif isU8 P e then rowS H 1 s fun c n => textS c fun s => K (SEff.pure s) else Stuck 250)
    | _ => Stuck 251)
  | .slice e' => (match ds with
    | .string => (match s with
      | .str s => bif isU8 P e' then K ⟨.slB base (.lit 0) 1 0 (.lit s.size), [], [⟨.lit (s.data.toList.map fun b => .int .u8 (.lit b.toNat)), 1, 0, false, false⟩]⟩ else Stuck 252
      | _ => Stuck 253)
    | .slice e => (match s with
      | .slI true (.lit (v :: cs)) (.lit (n + 1)) tight => bif isU8 P e && Nat.beq src dst then K (SEff.pure (.slI true (.lit (v :: cs)) (.lit (n + 1)) tight)) else Stuck 254
      | _ => Stuck 255)
    | _ => Stuck 256)
  | _ => Stuck 257
/-- All bits of a number turned. -/
def complI (k : IntKind) (n : Int) : Int := k.wrap ((BitVec.ofInt k.bits (if k.signed then -1 else k.max) ^^^ BitVec.ofInt k.bits n).toNat : Int)
def sop (cx : SCfg) (P : Program) (call : SCall) (H : SHeap) (base : Nat) (t : List SV) (o : Oper) (K : SEff → Prop) : Prop :=
  match o.op with
  | .move x => (match evalS t x with | some v => K (SEff.pure v) | none => Stuck 89)
  | .assign x => (match evalS t x with | some v => K (SEff.pure v) | none => Stuck 90)
  | .pick c x y => (match evalS t c, evalS t x, evalS t y with
    | some (.bool b), some x, some y => bra b (K (SEff.pure x)) (K (SEff.pure y))
    | _, _, _ => Stuck 91)
  | .alloc ty => (match zeroS P ty with
    | some z => K ⟨.ptrB base (.lit 0) 0 0 0, [], [⟨.lit z, 0, 0, false, false⟩]⟩
    | none => Stuck 92)
  | .box ty x => (match evalS t x with
    | some v => bif sones v.cells then K ⟨.ptrB base (.lit 0) 0 0 0, [], [⟨.lit v.cells, 0, 0, false, false⟩]⟩ else Stuck 93
    | none => Stuck 94)
  | .build ty parts => (match buildS P t ty parts with | some v => K (SEff.pure v) | none => Stuck 95)
  | .buildSlice ty len parts => (match buildSliceS P t ty len parts with | some v => K (SEff.pure v) | none => Stuck 96)
  | .load ty x => (match evalS t x with
    | some p => loadS P H ty p fun v => K (SEff.pure v)
    | none => Stuck 97)
  | .store ty x y => (match evalS t x, evalS t y with
    | some p, some v => storeS P H ty p v K
    | _, _ => Stuck 98)
  | .nilCheck x => (match evalS t x with
    | some p => ptrAddS H p 0 fun _ => K (SEff.pure p)
    | none => Stuck 99)
  | .convert src dst x => (match P.underlying src, P.underlying dst, evalS t x with
    | some ds, some dd, some s => convS P H base src dst ds dd s K
    | _, _, _ => Stuck 247)
  | .makeInterface ty x => (match P.underlying ty, evalS t x with
    | some (.interface _), _ => Stuck 105
    | some _, some v => K (SEff.pure (.iface ty v))
    | _, _ => Stuck 106)
  | .makeFunc fn first captured => (match evalSL t first.toList, evalSL t captured.toList with
    | some f, some c => K (SEff.pure (.func fn f c))
    | _, _ => Stuck 107)
  | .makeSlice ty x y => (match P.underlying ty, evalS t x, evalS t y with
    | some (.slice e), some (.int _ l), some (.int _ c) => (match zeroS P e, P.info? e with
      | some z, some i => bif Nat.ble i.bytes 256 then req (SI.le (.lit 0) l) (req (SI.le l c) (req (SI.le c (.lit 1099511627776)) (makeS cx P e l.toN z fun cs => K ⟨.slB base (.lit 0) (slen z) 0 l.toN, [], [⟨cs, slen z, 0, false, false⟩]⟩))) else Stuck 108
      | _, _ => Stuck 109)
    | _, _, _ => Stuck 110)
  | .slice ty x lo hi mx => (match P.underlying ty, evalS t x, optS t lo, optS t hi, optS t mx with
    | some (.slice e), some s, some l, some h, some m => (match tySz P e with
      | some (_, k) => cutS H k s l h m fun v => K (SEff.pure v)
      | none => Stuck 111)
    | _, _, _, _, _ => Stuck 112)
  | .fieldAddr s x f => (match evalS t x, fieldOff P s f with
    | some p, some (off, _) => ptrAddS H p off fun v => K (SEff.pure v)
    | _, _ => Stuck 113)
  | .field s x f => (match P.underlying s, evalS t x with
    | some (.struct fs), some (.agg cs) => (match fs[f]? with
      | some fl => partS P fl.type cs fl.offset fun v => K (SEff.pure v)
      | none => Stuck 114)
    | _, _ => Stuck 115)
  | .indexAddr s x y => (match evalS t x, evalS t y with
    | some p, some (.int _ i) => idxAddrS P H s p i fun v => K (SEff.pure v)
    | _, _ => Stuck 116)
  | .index s x y => (match P.underlying s, evalS t x, evalS t y with
    | some (.array n e), some (.agg cs), some (.int _ i) => (match tySz P e with
      | some (_, k) => req (SI.le (.lit 0) i) (req (SI.lt i (.lit (n : Int))) (caseN i.toN n fun j => partS P e cs (j * k) fun v => K (SEff.pure v)))
      | none => Stuck 117)
    | _, _, _ => Stuck 245)
  | .extract x i => (match evalS t x with
    | some (.tup vs) => (match vs[i]? with | some v => K (SEff.pure v) | none => Stuck 118)
    | _ => Stuck 119)
  | .call c => (match c.callee with
    | .builtin b => builtinS cx P H base t o b c.args.toList c.argTypes K
    | _ => (match resolveS P t c with
      | some (f, vs) => scallE call H base f vs K
      | none => Stuck 120))
  | .binOp op ty x y _ => (match evalS t x, evalS t y with
    | some a, some b => binOpS P t o op ty a b K
    | _, _ => Stuck 121)
  | .unOp op ty x => (match op, evalS t x with
    | .not, some (.bool (.sym p)) => K (SEff.pure (.bool (.sym (¬ p))))
    | .xor, some (.int k (.sym n)) => K (SEff.pure (.int k (.sym (complI k n))))
    | _, _ => pureS P t o K)
  | _ => pureS P t o K

/-! The machine. -/
structure SSt where
  t : List SV
  H : SHeap
  nx : Nat
abbrev SKont := Ex → SSt → Prop
/-- What is known of a loop. -/
structure SLoop where
  f : FuncId
  k : Nat
  C : SSt → SKont → Prop
/-- The loops of a code, the outer ones first. -/
def loopsIn : Code → List Code
  | .seq x y => loopsIn x ++ loopsIn y
  | .cond _ x y => loopsIn x ++ loopsIn y
  | .block _ b => loopsIn b
  | .scope b => loopsIn b
  | .loop b => b :: loopsIn b
  | _ => []
def loopBody (P : Program) (f : FuncId) (k : Nat) : Code := match bodyOf P f with
  | some (_, c) => ((loopsIn c)[k]?).getD .skip
  | none => .skip
structure SameCode (a b : Code) : Prop where
  eq : a = b
structure SX where
  row : TypeId → Option SRow
  ct : FuncId → Option SCall
  loop : Nat → Option SLoop
def SX.cfg (sx : SX) : SCfg := ⟨sx.row⟩
def putS (t : List SV) (d : Option Tmp) (v : SV) : List SV :=
  match d with
  | some d => ssetn t d v
  | none => t
def wantedS (ops : List Oper) (t : List SV) (o : Oper) (K : Bool → List SV → Prop) : Prop :=
  match o.guard with
  | none => K true t
  | some (j, want) => match (ops[j]?).bind (·.dst) with
    | some d => match snth t d with
      | .bool (.lit b) => K (b == want) t
      | .bool (.sym p) => (p → K want (ssetn t d (.bool (.lit true)))) ∧ (¬ p → K (!want) (ssetn t d (.bool (.lit false))))
      | .tup [] => K false t
      | _ => Stuck 122
    | none => K false t
def sharedS (P : Program) (cf : Cfg) (t : List SV) (o : Oper) : Option (FuncId × List SV) :=
  match o.op with
  | .call c => match c.callee with
    | .builtin _ => none
    | _ => match resolveS P t c with
      | some (f, vs) => if cf.shared f then some (f, vs) else none
      | none => none
  | _ => none
abbrev SShare := FuncId → List SV → SHeap → Nat → (SV → SHeap → Nat → Prop) → Prop
def sstep (sx : SX) (P : Program) (cf : Cfg) (call : SCall) (sh : SShare) (ops : List Oper) (st : SSt) (o : Oper) (K : SSt → Prop) : Prop :=
  wantedS ops st.t o fun w t => bif w then
    (match sharedS P cf t o with
    | some (f, vs) => sh f vs st.H st.nx fun v H' nx' => K ⟨putS t o.dst v, H', nx'⟩
    | none => sop sx.cfg P call st.H st.nx t o fun e => K ⟨putS t o.dst e.v, sapply st.H st.nx e, st.nx + e.new.length⟩)
  else K ⟨putS t o.dst (.tup []), st.H, st.nx⟩
def sseq (sx : SX) (P : Program) (cf : Cfg) (call : SCall) (sh : SShare) (ops l : List Oper) (st : SSt) (K : SSt → Prop) : Prop :=
  List.rec (motive := fun _ => SSt → Prop) K (fun o _ ih st => sstep sx P cf call sh ops st o ih) l st
/-- What an operation of a region that draws its order has made and written. -/
structure SRec where
  base : Nat
  eff : SEff
  fr : Bool
  ld : Option Nat
def SEff.w (e : SEff) : Bool := match e.wr with | [] => false | _ => true
def rlen (l : List SRec) : Nat := List.rec (motive := fun _ => Nat) 0 (fun _ _ ih => Nat.succ ih) l
/-- The heap behind those of these operations (the last is the first) that are chosen. -/
def sheapM (H0 : SHeap) (D : Nat → Bool) : List SRec → SHeap
  | [] => H0
  | r :: rest => bif D (rlen rest) then sapply (sheapM H0 D rest) r.base r.eff else sheapM H0 D rest
/-- All that does anything is among these. -/
def ldOK (ws : List (Nat × SBlk)) (ld : Option Nat) : Bool := match ld with | some b => ws.all (fun p => !Nat.beq p.1 b) | none => false
def fullX (D : Nat → Bool) (ws : List (Nat × SBlk)) : List SRec → Bool
  | [] => true
  | r :: rest => (D (rlen rest) || r.fr || ldOK ws r.ld) && fullX D ws rest
/-- One that writes, and all that comes ahead of it, comes ahead. -/
def seenM (D : Nat → Bool) : List SRec → Bool
  | [] => true
  | r :: rest => (bif r.eff.w then D (rlen rest) && fullX D r.eff.wr rest else true) && seenM D rest
def SEff.nil (e : SEff) : Bool := match e.wr, e.new with | [], [] => true | _, _ => false
/-- The block that a load looks at. -/
def loadSB (H : SHeap) (t : List SV) (o : Oper) : Option Nat :=
  match o.op with
  | .load _ x => (match evalS t x with
    | some (.ptrB b _ _ _ ver) => (match sget H b with
      | some blk => bif Nat.beq blk.ver ver then some b else none
      | none => none)
    | _ => none)
  | _ => none
def sfwd (sx : SX) (P : Program) (cf : Cfg) (call : SCall) (ops : List Oper) (ms : List Nat) (H0 : SHeap) (K : SSt → Prop) (l : List Oper) (i : Nat) (recs : List SRec) (t : List SV) (nx : Nat) : Prop :=
  List.rec (motive := fun _ => Nat → List SRec → List SV → Nat → Prop) (fun _ recs t nx => K ⟨t, sheapM H0 (fun _ => true) recs, nx⟩) (fun o _ ih i recs t nx =>
    bif seenM (bitM ms i) recs then
      wantedS ops t o fun w t => bif w then
        (match sharedS P cf t o with
        | some _ => Stuck 260
        | none => sop sx.cfg P call (sheapM H0 (bitM ms i) recs) nx t o fun e =>
          bif (bif e.w then fullX (bitM ms i) e.wr recs else true) then ih (i + 1) (⟨nx, e, freeOp o && e.nil, bif e.nil then loadSB (sheapM H0 (bitM ms i) recs) t o else none⟩ :: recs) (putS t o.dst e.v) (nx + e.new.length) else Stuck 261)
      else ih (i + 1) (⟨nx, SEff.pure (.tup []), true, none⟩ :: recs) (putS t o.dst (.tup [])) nx
    else Stuck 262) l i recs t nx
def sdraw (sx : SX) (P : Program) (cf : Cfg) (call : SCall) (ops : List Oper) (st : SSt) (K : SSt → Prop) : Prop :=
  bif drawOK ops (masks ops []) then sfwd sx P cf call ops (masks ops []) st.H K ops 0 [] st.t st.nx else Stuck 263

def sresults (P : Program) (t : List SV) (H : SHeap) : List ResultVar → (List SV → Prop) → Prop
  | [], K => K []
  | .tmp i :: r, K => sresults P t H r fun vs => K (snth t i :: vs)
  | .cell a ty :: r, K => loadS P H ty (snth t a) fun v => sresults P t H r fun vs => K (v :: vs)
def sresult (vs : List SV) : SV := match vs with | [v] => v | vs => .tup vs
def sframe (fn : Func) (vs : List SV) : List SV := vs ++ List.replicate (fn.ntmps - slen vs) (.tup [])

/-! Rows that go back and may be written on. -/
def stopIds : SV → List (Nat × SN × Nat × Nat × SN)
  | .slB b e k ver n => [(b, e, k, ver, n)]
  | .agg cs => cs.filterMap fun | .slB b e k ver n => some (b, e, k, ver, n) | _ => none
  | _ => []
def sallIds : SV → List (Nat × SN × Nat × Nat × SN)
  | .tup vs => vs.flatMap stopIds
  | v => stopIds v
def shrem : SHeap → List Nat → SHeap
  | [], _ => []
  | (b, x) :: r, X => bif X.contains b then shrem r X else (b, x) :: shrem r X
def sexpC (H : SHeap) (ids : List Nat) (base : Nat) (v : SV) (K : SV → Prop) : Prop :=
  match v with
  | .slB b _ k _ n => (match idxN ids b 0 with
    | some j => K (.slB (base + j) (.lit 0) k 0 n)
    | none => Stuck 127)
  | v => sreify H true 50 v fun v _ => K v
def sexpL (f : SV → (SV → Prop) → Prop) : List SV → (List SV → Prop) → Prop
  | [], K => K []
  | v :: r, K => f v fun x => sexpL f r fun xs => K (x :: xs)
def sexpT (H : SHeap) (ids : List Nat) (base : Nat) (v : SV) (K : SV → Prop) : Prop :=
  match v with
  | .agg cs => sexpL (sexpC H ids base) cs fun cs => K (.agg cs)
  | v => sexpC H ids base v K
def sexpV (H : SHeap) (ids : List Nat) (base : Nat) (v : SV) (K : SV → Prop) : Prop :=
  match v with
  | .tup vs => sexpL (sexpT H ids base) vs fun vs => K (.tup vs)
  | v => sexpT H ids base v K
def sexpB (H L : SHeap) : List (Nat × SN × Nat × Nat × SN) → (List SBlk → Prop) → Prop
  | [], K => K []
  | (b, e, k, ver, n) :: r, K => match sget H b with
    | some blk => bif Nat.beq blk.ver ver && !blk.fz && Nat.beq blk.k k && !blk.lz then blk.cells.cut k e n fun c => c.reify 50 (sreify L true 50) fun c _ => sexpB H L r fun bs => K (⟨c, k, 0, false, false⟩ :: bs) else Stuck 128
    | none => Stuck 129
def sexportT (H : SHeap) (base : Nat) (v : SV) (K : SV → List SBlk → Prop) : Prop :=
  (fun qs => (fun ids => bif nodupB ids then (fun L => sexpV L ids base v fun v' => sexpB H L qs fun bs => K v' bs) (shrem H ids) else Stuck 130) (qs.map (·.1))) (sallIds v)

/-! Values that are worked out, ahead of what comes behind. -/
def forceN (a : Nat) (K : Nat → Prop) : Prop := Nat.rec (motive := fun _ => Prop) (K 0) (fun m _ => K (m + 1)) a
def forceB (b : Bool) (K : Bool → Prop) : Prop := match b with | true => K true | false => K false
def forceI (n : Int) (K : Int → Prop) : Prop := match n with | .ofNat a => forceN a fun a => K (.ofNat a) | .negSucc a => forceN a fun a => K (.negSucc a)
def forceSN (n : SN) (K : SN → Prop) : Prop := match n with | .lit a => forceN a fun a => K (.lit a) | .sym a => K (.sym a)
def forceVL (f : SV → (SV → Prop) → Prop) : List SV → (List SV → Prop) → Prop
  | [], K => K []
  | v :: r, K => f v fun v => forceVL f r fun r => K (v :: r)
def forceC (f : SV → (SV → Prop) → Prop) (c : SC) (K : SC → Prop) : Prop := match c with | .lit l => forceVL f l fun l => K (.lit l) | .rows e k d fl xs => K (.rows e k d fl xs)
def forceV : Nat → SV → (SV → Prop) → Prop
  | 0, v, K => K v
  | n + 1, v, K => match v with
    | .int k i => (match i with | .lit m => forceI m fun m => K (.int k (.lit m)) | .sym e => K (.int k (.sym e)))
    | .bool b => (match b with | .lit x => forceB x fun x => K (.bool (.lit x)) | .sym p => K (.bool (.sym p)))
    | .agg cs => forceVL (forceV n) cs fun cs => K (.agg cs)
    | .tup cs => forceVL (forceV n) cs fun cs => K (.tup cs)
    | .iface t v => forceV n v fun v => K (.iface t v)
    | .func fn a b => forceVL (forceV n) a fun a => forceVL (forceV n) b fun b => K (.func fn a b)
    | .ptrI fr ex c => forceB fr fun fr => forceB ex fun ex => forceC (forceV n) c fun c => K (.ptrI fr ex c)
    | .ptrB b e k f ver => forceN b fun b => forceSN e fun e => forceN k fun k => forceN f fun f => forceN ver fun ver => K (.ptrB b e k f ver)
    | .slI fr c m tt => forceB fr fun fr => forceC (forceV n) c fun c => forceSN m fun m => forceB tt fun tt => K (.slI fr c m tt)
    | .slB b e k ver m => forceN b fun b => forceSN e fun e => forceN k fun k => forceN ver fun ver => forceSN m fun m => K (.slB b e k ver m)
    | v => K v
def forceH : SHeap → (SHeap → Prop) → Prop
  | [], K => K []
  | (b, x) :: r, K => forceN b fun b => forceC (forceV 12) x.cells fun c => forceN x.k fun k => forceN x.ver fun ver => forceB x.fz fun fz => forceB x.lz fun lz => forceH r fun r => K ((b, ⟨c, k, ver, fz, lz⟩) :: r)
def SSt.force (st : SSt) (K : SSt → Prop) : Prop := forceVL (forceV 12) st.t fun t => forceH st.H fun H => forceN st.nx fun nx => K ⟨t, H, nx⟩
/-- What is known of a condition behind a look at it. -/
def SSt.know (st : SSt) (c : Operand) (b : Bool) : SSt :=
  match c with
  | .tmp i => ⟨ssetn st.t i (.bool (.lit b)), st.H, st.nx⟩
  | _ => st
abbrev SExec := Code → SSt → SKont → Prop
def firstId : Code → Option Nat
  | .region id _ _ => some id
  | .seq x y => (firstId x).or (firstId y)
  | .block _ b => firstId b
  | .loop b => firstId b
  | .scope b => firstId b
  | _ => none
def scallI (sx : SX) (P : Program) (cf : Cfg) (ih : SExec) : SCall := fun f base vs K =>
  match sx.ct f with
  | some C => C f base vs K
  | none => match cf.ext f with
    | some _ => Stuck 131
    | none => match bodyOf P f with
      | some (fn, c) => ih c ⟨sframe fn vs, [], 0⟩ fun ex st => match ex with
        | .exit _ => Stuck 132
        | _ => sresults P st.t st.H fn.results.toList fun vs => bif cf.thaw f then sexportT st.H base (sresult vs) K else sreify st.H true 50 (sresult vs) fun v _ => K v []
      | none => Stuck 133
def scallS (P : Program) (ih : SExec) : SShare := fun f vs H nx K =>
  match bodyOf P f with
  | some (fn, c) => ih c ⟨sframe fn vs, H, nx⟩ fun ex st => match ex with
    | .exit _ => Stuck 134
    | _ => sresults P st.t st.H fn.results.toList fun vs => K (sresult vs) st.H st.nx
  | none => Stuck 135
def siter (f : SSt → SKont → Prop) (n : Nat) (st : SSt) (K : SKont) : Prop :=
  Nat.rec (motive := fun _ => SSt → Prop) (fun _ => Stuck 136) (fun _ ih st => f st fun ex st' => match ex with
    | .normal => ih st'
    | ex => K ex st') n st
def sexecStep (sx : SX) (P : Program) (cf : Cfg) (n : Nat) (ih : SExec) : SExec := fun c st K =>
  match c with
  | .skip => K .normal st
  | .label _ => K .normal st
  | .region _ ops draw => bif draw then sdraw sx P cf (scallI sx P cf ih) ops.toList st (fun st => st.force (K .normal)) else sseq sx P cf (scallI sx P cf ih) (scallS P ih) ops.toList ops.toList st (fun st => st.force (K .normal))
  | .seq x y => ih x st fun ex st' => (match ex with
    | .normal => ih y st' K
    | ex => K ex st')
  | .cond c x y => (match evalS st.t c with
    | some (.bool (.lit b)) => bif b then ih x st K else ih y st K
    | some (.bool (.sym p)) => (p → ih x (st.know c true) K) ∧ (¬ p → ih y (st.know c false) K)
    | _ => Stuck 137)
  | .block id body => ih body st fun ex st' => (match ex with
    | .exit id' => bif Nat.beq id' id then K .normal st' else K (.exit id') st'
    | ex => K ex st')
  | .loop body => (match (firstId body).bind sx.loop with
    | some L => SameCode (loopBody P L.f L.k) body ∧ L.C st K
    | none => siter (ih body) n st K)
  | .scope body => ih body st K
  | .exit id => K (.exit id) st
  | .ret => K .ret st
  | _ => Stuck 138
def sexec (sx : SX) (P : Program) (cf : Cfg) (m : Nat) : SExec := Nat.rec (motive := fun _ => SExec) (fun _ _ _ => Stuck 139) (fun n ih => sexecStep sx P cf n ih) m

end
end Go.Proofs.Ytifgifhbefhkmaa.VM
