/- Sets of tracks turned: what the package answers, told. No conditions. -/
import Derived.Test.YtifgifhbefhkmaaProg
import Derived.KernelRfl
import Derived.Test.YtifgifhbefhkmaaBtX1
/- Sets of tracks turned: what the package answers, told. No conditions. -/
namespace Go.Proofs.Ytifgifhbefhkmaa.VM
open Go Go.RowKit
set_option linter.unusedVariables false
set_option linter.unusedSimpArgs false
set_option maxRecDepth 100000
noncomputable section
def byt (x : Int) : SV := .int .u8 (.sym x)
def lit1 (x : Int) : SV := .slI false (.lit [byt x]) (.lit 1) false
def lit2 (x y : Int) : SV := .slI false (.lit [byt x, byt y]) (.lit 2) false
def lit0 : SV := .slI false (.lit []) (.lit 0) false
def oneC (as0 : List SV) (r : SV) : SCall := Ct (fun _ : Unit => as0) (fun _ => True) (fun _ => r)
def oneB (as0 : List SV) (r : Nat → SV) (bl : List SBlk) : SCall := fun _ base bs K => sles bs as0 ∧ K (r base) bl
def errB (e : Int) (_ : Nat) : SV := .tup [.nilSl, .int .i64 (.lit e)]
def okB (m : Nat) (base : Nat) : SV := .tup [.slB (base + 0) (.lit 0) 1 0 (.lit m), .int .i64 (.lit 0)]
def blk (l : List SV) : List SBlk := [⟨.lit l, 1, 0, false, false⟩]
def argP (n : Int) (a : SV) (t : Int) (is : Bool) : List SV := [.int .i64 (.sym n), a, .int .i64 (.sym t), .bool (.sym (is = true))]
def argO (n : Int) (a b : SV) : List SV := [.int .i64 (.sym n), a, b]
def one18 (n : Int) (a : SV) (t : Int) (v : Prop) (e : Int) : SCall := oneC [.int .i64 (.sym n), a, .int .i64 (.sym t)] (.tup [.bool (.sym v), .int .i64 (.lit e)])
def one49 (n : Int) (a b : SV) (e : Int) : SCall := oneC [.int .i64 (.sym n), .slI false (.lit [a, b]) (.lit 2) true] (.int .i64 (.lit e))
def noBlk (l : List SBlk) : Prop := match l with | [] => True | _ :: _ => Stuck 301
def orN (a b : Int) : Int := IntKind.wrap .u8 (((a % 256).toNat ||| (b % 256).toNat : Nat) : Int)
def putB (p : Int) (k : Nat) (is : Bool) : Int := if is then orN (andN p (2 ^ k)) (2 ^ k) else andN p (2 ^ k)
def sxT (f : Nat) (c : SCall) : SX := ⟨rowT, ctOf [(f, c)], lpOf []⟩
theorem vc_PutE2 (n : Int) (a : List Int) (t : Int) (is : Bool) (v : Prop) (base : Nat) : (scallI (sxT 18 (one18 n (row a) t v 2)) Try.prog cf0 (sexec (sxT 18 (one18 n (row a) t v 2)) Try.prog cf0 1000) 8 base (argP n (row a) t is) (fun x bs => x = errB 2 base ∧ noBlk bs)) = (∃ (y6 : Unit), (n = n ∧ (List.length a = List.length a ∧ SC.rows eB (1 : Nat) (1 : Nat) true a = SC.rows eB (1 : Nat) (1 : Nat) true a) ∧ t = t ∧ True) ∧ True ∧ SV.tup [SV.nilSl, SV.int IntKind.i64
(SI.lit (2 : Int))] = SV.tup [SV.nilSl, SV.int IntKind.i64 (SI.lit (2 : Int))] ∧ True) := by kernel_rfl
theorem vc_PutE8 (n : Int) (a : List Int) (t : Int) (is : Bool) (v : Prop) (base : Nat) : (scallI (sxT 18 (one18 n (row a) t v 8)) Try.prog cf0 (sexec (sxT 18 (one18 n (row a) t v 8)) Try.prog cf0 1000) 8 base (argP n (row a) t is) (fun x bs => x = errB 8 base ∧ noBlk bs)) = (∃ (y6 : Unit), (n = n ∧ (List.length a = List.length a ∧ SC.rows eB (1 : Nat) (1 : Nat) true a = SC.rows eB (1 : Nat) (1 : Nat) true a) ∧ t = t ∧ True) ∧ True ∧ SV.tup [SV.nilSl, SV.int IntKind.i64
(SI.lit (8 : Int))] = SV.tup [SV.nilSl, SV.int IntKind.i64 (SI.lit (8 : Int))] ∧ True) := by kernel_rfl
theorem vc_Put1_0 (n p : Int) (is : Bool) (v : Prop) (base : Nat) (r : Int) : (scallI (sxT 18 (one18 n (lit1 p) 0 v 0)) Try.prog cf0 (sexec (sxT 18 (one18 n (lit1 p) 0 v 0)) Try.prog cf0 1000) 8 base [.int .i64 (.sym n), lit1 p, .int .i64 (.lit 0), .bool (.sym (is = true))] (fun x bs => x = okB 1 base ∧ bs = blk [byt r])) = (∃ (y6 : Unit), (n = n ∧ ((1 : Nat) = (1 : Nat) ∧ p = p ∧ True) ∧ (0 : Int) = (0 : Int) ∧ True) ∧ True ∧ (is = true → SV.tup [SV.slB (base + (0 : Nat)) (SN.lit (0 : Nat)) (1 : Nat) (0 : Nat) (SN.lit (1
: Nat)), SV.int IntKind.i64 (SI.lit (0 : Int))] = SV.tup [SV.slB (base + (0 : Nat)) (SN.lit (0 : Nat)) (1 : Nat) (0 : Nat) (SN.lit (1 : Nat)), SV.int IntKind.i64 (SI.lit (0 : Int))] ∧ [SBlk.mk (SC.lit
[SV.int IntKind.u8 (SI.sym (IntKind.wrap IntKind.u8 (↑(Int.toNat (IntKind.wrap IntKind.u8 (↑(BitVec.toNat (BitVec.ofInt (8 : Nat) p &&& ~~~BitVec.ofInt (8 : Nat) (1 : Int))) : Int) % (256 : Int)) |||
(1 : Nat)) : Int)))]) (1 : Nat) (0 : Nat) false false] = blk [SV.int IntKind.u8 (SI.sym r)]) ∧ (¬is = true → SV.tup [SV.slB (base + (0 : Nat)) (SN.lit (0 : Nat)) (1 : Nat) (0 : Nat) (SN.lit (1 :
Nat)), SV.int IntKind.i64 (SI.lit (0 : Int))] = SV.tup [SV.slB (base + (0 : Nat)) (SN.lit (0 : Nat)) (1 : Nat) (0 : Nat) (SN.lit (1 : Nat)), SV.int IntKind.i64 (SI.lit (0 : Int))] ∧ [SBlk.mk (SC.lit
[SV.int IntKind.u8 (SI.sym (IntKind.wrap IntKind.u8 (↑(BitVec.toNat (BitVec.ofInt (8 : Nat) p &&& ~~~BitVec.ofInt (8 : Nat) (1 : Int))) : Int)))]) (1 : Nat) (0 : Nat) false false] = blk [SV.int
IntKind.u8 (SI.sym r)])) := by kernel_rfl
theorem vc_Put1_1 (n p : Int) (is : Bool) (v : Prop) (base : Nat) (r : Int) : (scallI (sxT 18 (one18 n (lit1 p) 1 v 0)) Try.prog cf0 (sexec (sxT 18 (one18 n (lit1 p) 1 v 0)) Try.prog cf0 1000) 8 base [.int .i64 (.sym n), lit1 p, .int .i64 (.lit 1), .bool (.sym (is = true))] (fun x bs => x = okB 1 base ∧ bs = blk [byt r])) = (∃ (y6 : Unit), (n = n ∧ ((1 : Nat) = (1 : Nat) ∧ p = p ∧ True) ∧ (1 : Int) = (1 : Int) ∧ True) ∧ True ∧ (is = true → SV.tup [SV.slB (base + (0 : Nat)) (SN.lit (0 : Nat)) (1 : Nat) (0 : Nat) (SN.lit (1
: Nat)), SV.int IntKind.i64 (SI.lit (0 : Int))] = SV.tup [SV.slB (base + (0 : Nat)) (SN.lit (0 : Nat)) (1 : Nat) (0 : Nat) (SN.lit (1 : Nat)), SV.int IntKind.i64 (SI.lit (0 : Int))] ∧ [SBlk.mk (SC.lit
[SV.int IntKind.u8 (SI.sym (IntKind.wrap IntKind.u8 (↑(Int.toNat (IntKind.wrap IntKind.u8 (↑(BitVec.toNat (BitVec.ofInt (8 : Nat) p &&& ~~~BitVec.ofInt (8 : Nat) (2 : Int))) : Int) % (256 : Int)) |||
(2 : Nat)) : Int)))]) (1 : Nat) (0 : Nat) false false] = blk [SV.int IntKind.u8 (SI.sym r)]) ∧ (¬is = true → SV.tup [SV.slB (base + (0 : Nat)) (SN.lit (0 : Nat)) (1 : Nat) (0 : Nat) (SN.lit (1 :
Nat)), SV.int IntKind.i64 (SI.lit (0 : Int))] = SV.tup [SV.slB (base + (0 : Nat)) (SN.lit (0 : Nat)) (1 : Nat) (0 : Nat) (SN.lit (1 : Nat)), SV.int IntKind.i64 (SI.lit (0 : Int))] ∧ [SBlk.mk (SC.lit
[SV.int IntKind.u8 (SI.sym (IntKind.wrap IntKind.u8 (↑(BitVec.toNat (BitVec.ofInt (8 : Nat) p &&& ~~~BitVec.ofInt (8 : Nat) (2 : Int))) : Int)))]) (1 : Nat) (0 : Nat) false false] = blk [SV.int
IntKind.u8 (SI.sym r)])) := by kernel_rfl
theorem vc_Put1_2 (n p : Int) (is : Bool) (v : Prop) (base : Nat) (r : Int) : (scallI (sxT 18 (one18 n (lit1 p) 2 v 0)) Try.prog cf0 (sexec (sxT 18 (one18 n (lit1 p) 2 v 0)) Try.prog cf0 1000) 8 base [.int .i64 (.sym n), lit1 p, .int .i64 (.lit 2), .bool (.sym (is = true))] (fun x bs => x = okB 1 base ∧ bs = blk [byt r])) = (∃ (y6 : Unit), (n = n ∧ ((1 : Nat) = (1 : Nat) ∧ p = p ∧ True) ∧ (2 : Int) = (2 : Int) ∧ True) ∧ True ∧ (is = true → SV.tup [SV.slB (base + (0 : Nat)) (SN.lit (0 : Nat)) (1 : Nat) (0 : Nat) (SN.lit (1
: Nat)), SV.int IntKind.i64 (SI.lit (0 : Int))] = SV.tup [SV.slB (base + (0 : Nat)) (SN.lit (0 : Nat)) (1 : Nat) (0 : Nat) (SN.lit (1 : Nat)), SV.int IntKind.i64 (SI.lit (0 : Int))] ∧ [SBlk.mk (SC.lit
[SV.int IntKind.u8 (SI.sym (IntKind.wrap IntKind.u8 (↑(Int.toNat (IntKind.wrap IntKind.u8 (↑(BitVec.toNat (BitVec.ofInt (8 : Nat) p &&& ~~~BitVec.ofInt (8 : Nat) (4 : Int))) : Int) % (256 : Int)) |||
(4 : Nat)) : Int)))]) (1 : Nat) (0 : Nat) false false] = blk [SV.int IntKind.u8 (SI.sym r)]) ∧ (¬is = true → SV.tup [SV.slB (base + (0 : Nat)) (SN.lit (0 : Nat)) (1 : Nat) (0 : Nat) (SN.lit (1 :
Nat)), SV.int IntKind.i64 (SI.lit (0 : Int))] = SV.tup [SV.slB (base + (0 : Nat)) (SN.lit (0 : Nat)) (1 : Nat) (0 : Nat) (SN.lit (1 : Nat)), SV.int IntKind.i64 (SI.lit (0 : Int))] ∧ [SBlk.mk (SC.lit
[SV.int IntKind.u8 (SI.sym (IntKind.wrap IntKind.u8 (↑(BitVec.toNat (BitVec.ofInt (8 : Nat) p &&& ~~~BitVec.ofInt (8 : Nat) (4 : Int))) : Int)))]) (1 : Nat) (0 : Nat) false false] = blk [SV.int
IntKind.u8 (SI.sym r)])) := by kernel_rfl
theorem vc_Put1_3 (n p : Int) (is : Bool) (v : Prop) (base : Nat) (r : Int) : (scallI (sxT 18 (one18 n (lit1 p) 3 v 0)) Try.prog cf0 (sexec (sxT 18 (one18 n (lit1 p) 3 v 0)) Try.prog cf0 1000) 8 base [.int .i64 (.sym n), lit1 p, .int .i64 (.lit 3), .bool (.sym (is = true))] (fun x bs => x = okB 1 base ∧ bs = blk [byt r])) = (∃ (y6 : Unit), (n = n ∧ ((1 : Nat) = (1 : Nat) ∧ p = p ∧ True) ∧ (3 : Int) = (3 : Int) ∧ True) ∧ True ∧ (is = true → SV.tup [SV.slB (base + (0 : Nat)) (SN.lit (0 : Nat)) (1 : Nat) (0 : Nat) (SN.lit (1
: Nat)), SV.int IntKind.i64 (SI.lit (0 : Int))] = SV.tup [SV.slB (base + (0 : Nat)) (SN.lit (0 : Nat)) (1 : Nat) (0 : Nat) (SN.lit (1 : Nat)), SV.int IntKind.i64 (SI.lit (0 : Int))] ∧ [SBlk.mk (SC.lit
[SV.int IntKind.u8 (SI.sym (IntKind.wrap IntKind.u8 (↑(Int.toNat (IntKind.wrap IntKind.u8 (↑(BitVec.toNat (BitVec.ofInt (8 : Nat) p &&& ~~~BitVec.ofInt (8 : Nat) (8 : Int))) : Int) % (256 : Int)) |||
(8 : Nat)) : Int)))]) (1 : Nat) (0 : Nat) false false] = blk [SV.int IntKind.u8 (SI.sym r)]) ∧ (¬is = true → SV.tup [SV.slB (base + (0 : Nat)) (SN.lit (0 : Nat)) (1 : Nat) (0 : Nat) (SN.lit (1 :
Nat)), SV.int IntKind.i64 (SI.lit (0 : Int))] = SV.tup [SV.slB (base + (0 : Nat)) (SN.lit (0 : Nat)) (1 : Nat) (0 : Nat) (SN.lit (1 : Nat)), SV.int IntKind.i64 (SI.lit (0 : Int))] ∧ [SBlk.mk (SC.lit
[SV.int IntKind.u8 (SI.sym (IntKind.wrap IntKind.u8 (↑(BitVec.toNat (BitVec.ofInt (8 : Nat) p &&& ~~~BitVec.ofInt (8 : Nat) (8 : Int))) : Int)))]) (1 : Nat) (0 : Nat) false false] = blk [SV.int
IntKind.u8 (SI.sym r)])) := by kernel_rfl
theorem vc_Put1_4 (n p : Int) (is : Bool) (v : Prop) (base : Nat) (r : Int) : (scallI (sxT 18 (one18 n (lit1 p) 4 v 0)) Try.prog cf0 (sexec (sxT 18 (one18 n (lit1 p) 4 v 0)) Try.prog cf0 1000) 8 base [.int .i64 (.sym n), lit1 p, .int .i64 (.lit 4), .bool (.sym (is = true))] (fun x bs => x = okB 1 base ∧ bs = blk [byt r])) = (∃ (y6 : Unit), (n = n ∧ ((1 : Nat) = (1 : Nat) ∧ p = p ∧ True) ∧ (4 : Int) = (4 : Int) ∧ True) ∧ True ∧ (is = true → SV.tup [SV.slB (base + (0 : Nat)) (SN.lit (0 : Nat)) (1 : Nat) (0 : Nat) (SN.lit (1
: Nat)), SV.int IntKind.i64 (SI.lit (0 : Int))] = SV.tup [SV.slB (base + (0 : Nat)) (SN.lit (0 : Nat)) (1 : Nat) (0 : Nat) (SN.lit (1 : Nat)), SV.int IntKind.i64 (SI.lit (0 : Int))] ∧ [SBlk.mk (SC.lit
[SV.int IntKind.u8 (SI.sym (IntKind.wrap IntKind.u8 (↑(Int.toNat (IntKind.wrap IntKind.u8 (↑(BitVec.toNat (BitVec.ofInt (8 : Nat) p &&& ~~~BitVec.ofInt (8 : Nat) (16 : Int))) : Int) % (256 : Int)) |||
(16 : Nat)) : Int)))]) (1 : Nat) (0 : Nat) false false] = blk [SV.int IntKind.u8 (SI.sym r)]) ∧ (¬is = true → SV.tup [SV.slB (base + (0 : Nat)) (SN.lit (0 : Nat)) (1 : Nat) (0 : Nat) (SN.lit (1 :
Nat)), SV.int IntKind.i64 (SI.lit (0 : Int))] = SV.tup [SV.slB (base + (0 : Nat)) (SN.lit (0 : Nat)) (1 : Nat) (0 : Nat) (SN.lit (1 : Nat)), SV.int IntKind.i64 (SI.lit (0 : Int))] ∧ [SBlk.mk (SC.lit
[SV.int IntKind.u8 (SI.sym (IntKind.wrap IntKind.u8 (↑(BitVec.toNat (BitVec.ofInt (8 : Nat) p &&& ~~~BitVec.ofInt (8 : Nat) (16 : Int))) : Int)))]) (1 : Nat) (0 : Nat) false false] = blk [SV.int
IntKind.u8 (SI.sym r)])) := by kernel_rfl
theorem vc_Put1_5 (n p : Int) (is : Bool) (v : Prop) (base : Nat) (r : Int) : (scallI (sxT 18 (one18 n (lit1 p) 5 v 0)) Try.prog cf0 (sexec (sxT 18 (one18 n (lit1 p) 5 v 0)) Try.prog cf0 1000) 8 base [.int .i64 (.sym n), lit1 p, .int .i64 (.lit 5), .bool (.sym (is = true))] (fun x bs => x = okB 1 base ∧ bs = blk [byt r])) = (∃ (y6 : Unit), (n = n ∧ ((1 : Nat) = (1 : Nat) ∧ p = p ∧ True) ∧ (5 : Int) = (5 : Int) ∧ True) ∧ True ∧ (is = true → SV.tup [SV.slB (base + (0 : Nat)) (SN.lit (0 : Nat)) (1 : Nat) (0 : Nat) (SN.lit (1
: Nat)), SV.int IntKind.i64 (SI.lit (0 : Int))] = SV.tup [SV.slB (base + (0 : Nat)) (SN.lit (0 : Nat)) (1 : Nat) (0 : Nat) (SN.lit (1 : Nat)), SV.int IntKind.i64 (SI.lit (0 : Int))] ∧ [SBlk.mk (SC.lit
[SV.int IntKind.u8 (SI.sym (IntKind.wrap IntKind.u8 (↑(Int.toNat (IntKind.wrap IntKind.u8 (↑(BitVec.toNat (BitVec.ofInt (8 : Nat) p &&& ~~~BitVec.ofInt (8 : Nat) (32 : Int))) : Int) % (256 : Int)) |||
(32 : Nat)) : Int)))]) (1 : Nat) (0 : Nat) false false] = blk [SV.int IntKind.u8 (SI.sym r)]) ∧ (¬is = true → SV.tup [SV.slB (base + (0 : Nat)) (SN.lit (0 : Nat)) (1 : Nat) (0 : Nat) (SN.lit (1 :
Nat)), SV.int IntKind.i64 (SI.lit (0 : Int))] = SV.tup [SV.slB (base + (0 : Nat)) (SN.lit (0 : Nat)) (1 : Nat) (0 : Nat) (SN.lit (1 : Nat)), SV.int IntKind.i64 (SI.lit (0 : Int))] ∧ [SBlk.mk (SC.lit
[SV.int IntKind.u8 (SI.sym (IntKind.wrap IntKind.u8 (↑(BitVec.toNat (BitVec.ofInt (8 : Nat) p &&& ~~~BitVec.ofInt (8 : Nat) (32 : Int))) : Int)))]) (1 : Nat) (0 : Nat) false false] = blk [SV.int
IntKind.u8 (SI.sym r)])) := by kernel_rfl
theorem vc_Put1_6 (n p : Int) (is : Bool) (v : Prop) (base : Nat) (r : Int) : (scallI (sxT 18 (one18 n (lit1 p) 6 v 0)) Try.prog cf0 (sexec (sxT 18 (one18 n (lit1 p) 6 v 0)) Try.prog cf0 1000) 8 base [.int .i64 (.sym n), lit1 p, .int .i64 (.lit 6), .bool (.sym (is = true))] (fun x bs => x = okB 1 base ∧ bs = blk [byt r])) = (∃ (y6 : Unit), (n = n ∧ ((1 : Nat) = (1 : Nat) ∧ p = p ∧ True) ∧ (6 : Int) = (6 : Int) ∧ True) ∧ True ∧ (is = true → SV.tup [SV.slB (base + (0 : Nat)) (SN.lit (0 : Nat)) (1 : Nat) (0 : Nat) (SN.lit (1
: Nat)), SV.int IntKind.i64 (SI.lit (0 : Int))] = SV.tup [SV.slB (base + (0 : Nat)) (SN.lit (0 : Nat)) (1 : Nat) (0 : Nat) (SN.lit (1 : Nat)), SV.int IntKind.i64 (SI.lit (0 : Int))] ∧ [SBlk.mk (SC.lit
[SV.int IntKind.u8 (SI.sym (IntKind.wrap IntKind.u8 (↑(Int.toNat (IntKind.wrap IntKind.u8 (↑(BitVec.toNat (BitVec.ofInt (8 : Nat) p &&& ~~~BitVec.ofInt (8 : Nat) (64 : Int))) : Int) % (256 : Int)) |||
(64 : Nat)) : Int)))]) (1 : Nat) (0 : Nat) false false] = blk [SV.int IntKind.u8 (SI.sym r)]) ∧ (¬is = true → SV.tup [SV.slB (base + (0 : Nat)) (SN.lit (0 : Nat)) (1 : Nat) (0 : Nat) (SN.lit (1 :
Nat)), SV.int IntKind.i64 (SI.lit (0 : Int))] = SV.tup [SV.slB (base + (0 : Nat)) (SN.lit (0 : Nat)) (1 : Nat) (0 : Nat) (SN.lit (1 : Nat)), SV.int IntKind.i64 (SI.lit (0 : Int))] ∧ [SBlk.mk (SC.lit
[SV.int IntKind.u8 (SI.sym (IntKind.wrap IntKind.u8 (↑(BitVec.toNat (BitVec.ofInt (8 : Nat) p &&& ~~~BitVec.ofInt (8 : Nat) (64 : Int))) : Int)))]) (1 : Nat) (0 : Nat) false false] = blk [SV.int
IntKind.u8 (SI.sym r)])) := by kernel_rfl
theorem vc_Put1_7 (n p : Int) (is : Bool) (v : Prop) (base : Nat) (r : Int) : (scallI (sxT 18 (one18 n (lit1 p) 7 v 0)) Try.prog cf0 (sexec (sxT 18 (one18 n (lit1 p) 7 v 0)) Try.prog cf0 1000) 8 base [.int .i64 (.sym n), lit1 p, .int .i64 (.lit 7), .bool (.sym (is = true))] (fun x bs => x = okB 1 base ∧ bs = blk [byt r])) = (∃ (y6 : Unit), (n = n ∧ ((1 : Nat) = (1 : Nat) ∧ p = p ∧ True) ∧ (7 : Int) = (7 : Int) ∧ True) ∧ True ∧ (is = true → SV.tup [SV.slB (base + (0 : Nat)) (SN.lit (0 : Nat)) (1 : Nat) (0 : Nat) (SN.lit (1
: Nat)), SV.int IntKind.i64 (SI.lit (0 : Int))] = SV.tup [SV.slB (base + (0 : Nat)) (SN.lit (0 : Nat)) (1 : Nat) (0 : Nat) (SN.lit (1 : Nat)), SV.int IntKind.i64 (SI.lit (0 : Int))] ∧ [SBlk.mk (SC.lit
[SV.int IntKind.u8 (SI.sym (IntKind.wrap IntKind.u8 (↑(Int.toNat (IntKind.wrap IntKind.u8 (↑(BitVec.toNat (BitVec.ofInt (8 : Nat) p &&& ~~~BitVec.ofInt (8 : Nat) (128 : Int))) : Int) % (256 : Int))
||| (128 : Nat)) : Int)))]) (1 : Nat) (0 : Nat) false false] = blk [SV.int IntKind.u8 (SI.sym r)]) ∧ (¬is = true → SV.tup [SV.slB (base + (0 : Nat)) (SN.lit (0 : Nat)) (1 : Nat) (0 : Nat) (SN.lit (1 :
Nat)), SV.int IntKind.i64 (SI.lit (0 : Int))] = SV.tup [SV.slB (base + (0 : Nat)) (SN.lit (0 : Nat)) (1 : Nat) (0 : Nat) (SN.lit (1 : Nat)), SV.int IntKind.i64 (SI.lit (0 : Int))] ∧ [SBlk.mk (SC.lit
[SV.int IntKind.u8 (SI.sym (IntKind.wrap IntKind.u8 (↑(BitVec.toNat (BitVec.ofInt (8 : Nat) p &&& ~~~BitVec.ofInt (8 : Nat) (128 : Int))) : Int)))]) (1 : Nat) (0 : Nat) false false] = blk [SV.int
IntKind.u8 (SI.sym r)])) := by kernel_rfl
theorem vc_Put2_0 (n p q : Int) (is : Bool) (v : Prop) (base : Nat) (r r2 : Int) : (scallI (sxT 18 (one18 n (lit2 p q) 0 v 0)) Try.prog cf0 (sexec (sxT 18 (one18 n (lit2 p q) 0 v 0)) Try.prog cf0 1000) 8 base [.int .i64 (.sym n), lit2 p q, .int .i64 (.lit 0), .bool (.sym (is = true))] (fun x bs => x = okB 2 base ∧ bs = blk [byt r, byt r2])) = (∃ (y8 : Unit), (n = n ∧ ((2 : Nat) = (2 : Nat) ∧ p = p ∧ q = q ∧ True) ∧ (0 : Int) = (0 : Int) ∧ True) ∧ True ∧ (is = true → SV.tup [SV.slB (base + (0 : Nat)) (SN.lit (0 : Nat)) (1 : Nat) (0 : Nat)
(SN.lit (2 : Nat)), SV.int IntKind.i64 (SI.lit (0 : Int))] = SV.tup [SV.slB (base + (0 : Nat)) (SN.lit (0 : Nat)) (1 : Nat) (0 : Nat) (SN.lit (2 : Nat)), SV.int IntKind.i64 (SI.lit (0 : Int))] ∧
[SBlk.mk (SC.lit [SV.int IntKind.u8 (SI.sym (IntKind.wrap IntKind.u8 (↑(Int.toNat (IntKind.wrap IntKind.u8 (↑(BitVec.toNat (BitVec.ofInt (8 : Nat) p &&& ~~~BitVec.ofInt (8 : Nat) (1 : Int))) : Int) %
(256 : Int)) ||| (1 : Nat)) : Int))), SV.int IntKind.u8 (SI.sym q)]) (1 : Nat) (0 : Nat) false false] = blk [SV.int IntKind.u8 (SI.sym r), SV.int IntKind.u8 (SI.sym r2)]) ∧ (¬is = true → SV.tup
[SV.slB (base + (0 : Nat)) (SN.lit (0 : Nat)) (1 : Nat) (0 : Nat) (SN.lit (2 : Nat)), SV.int IntKind.i64 (SI.lit (0 : Int))] = SV.tup [SV.slB (base + (0 : Nat)) (SN.lit (0 : Nat)) (1 : Nat) (0 : Nat)
(SN.lit (2 : Nat)), SV.int IntKind.i64 (SI.lit (0 : Int))] ∧ [SBlk.mk (SC.lit [SV.int IntKind.u8 (SI.sym (IntKind.wrap IntKind.u8 (↑(BitVec.toNat (BitVec.ofInt (8 : Nat) p &&& ~~~BitVec.ofInt (8 :
Nat) (1 : Int))) : Int))), SV.int IntKind.u8 (SI.sym q)]) (1 : Nat) (0 : Nat) false false] = blk [SV.int IntKind.u8 (SI.sym r), SV.int IntKind.u8 (SI.sym r2)])) := by kernel_rfl
theorem vc_Put2_1 (n p q : Int) (is : Bool) (v : Prop) (base : Nat) (r r2 : Int) : (scallI (sxT 18 (one18 n (lit2 p q) 1 v 0)) Try.prog cf0 (sexec (sxT 18 (one18 n (lit2 p q) 1 v 0)) Try.prog cf0 1000) 8 base [.int .i64 (.sym n), lit2 p q, .int .i64 (.lit 1), .bool (.sym (is = true))] (fun x bs => x = okB 2 base ∧ bs = blk [byt r, byt r2])) = (∃ (y8 : Unit), (n = n ∧ ((2 : Nat) = (2 : Nat) ∧ p = p ∧ q = q ∧ True) ∧ (1 : Int) = (1 : Int) ∧ True) ∧ True ∧ (is = true → SV.tup [SV.slB (base + (0 : Nat)) (SN.lit (0 : Nat)) (1 : Nat) (0 : Nat)
(SN.lit (2 : Nat)), SV.int IntKind.i64 (SI.lit (0 : Int))] = SV.tup [SV.slB (base + (0 : Nat)) (SN.lit (0 : Nat)) (1 : Nat) (0 : Nat) (SN.lit (2 : Nat)), SV.int IntKind.i64 (SI.lit (0 : Int))] ∧
[SBlk.mk (SC.lit [SV.int IntKind.u8 (SI.sym (IntKind.wrap IntKind.u8 (↑(Int.toNat (IntKind.wrap IntKind.u8 (↑(BitVec.toNat (BitVec.ofInt (8 : Nat) p &&& ~~~BitVec.ofInt (8 : Nat) (2 : Int))) : Int) %
(256 : Int)) ||| (2 : Nat)) : Int))), SV.int IntKind.u8 (SI.sym q)]) (1 : Nat) (0 : Nat) false false] = blk [SV.int IntKind.u8 (SI.sym r), SV.int IntKind.u8 (SI.sym r2)]) ∧ (¬is = true → SV.tup
[SV.slB (base + (0 : Nat)) (SN.lit (0 : Nat)) (1 : Nat) (0 : Nat) (SN.lit (2 : Nat)), SV.int IntKind.i64 (SI.lit (0 : Int))] = SV.tup [SV.slB (base + (0 : Nat)) (SN.lit (0 : Nat)) (1 : Nat) (0 : Nat)
(SN.lit (2 : Nat)), SV.int IntKind.i64 (SI.lit (0 : Int))] ∧ [SBlk.mk (SC.lit [SV.int IntKind.u8 (SI.sym (IntKind.wrap IntKind.u8 (↑(BitVec.toNat (BitVec.ofInt (8 : Nat) p &&& ~~~BitVec.ofInt (8 :
Nat) (2 : Int))) : Int))), SV.int IntKind.u8 (SI.sym q)]) (1 : Nat) (0 : Nat) false false] = blk [SV.int IntKind.u8 (SI.sym r), SV.int IntKind.u8 (SI.sym r2)])) := by kernel_rfl
theorem vc_Put2_2 (n p q : Int) (is : Bool) (v : Prop) (base : Nat) (r r2 : Int) : (scallI (sxT 18 (one18 n (lit2 p q) 2 v 0)) Try.prog cf0 (sexec (sxT 18 (one18 n (lit2 p q) 2 v 0)) Try.prog cf0 1000) 8 base [.int .i64 (.sym n), lit2 p q, .int .i64 (.lit 2), .bool (.sym (is = true))] (fun x bs => x = okB 2 base ∧ bs = blk [byt r, byt r2])) = (∃ (y8 : Unit), (n = n ∧ ((2 : Nat) = (2 : Nat) ∧ p = p ∧ q = q ∧ True) ∧ (2 : Int) = (2 : Int) ∧ True) ∧ True ∧ (is = true → SV.tup [SV.slB (base + (0 : Nat)) (SN.lit (0 : Nat)) (1 : Nat) (0 : Nat)
(SN.lit (2 : Nat)), SV.int IntKind.i64 (SI.lit (0 : Int))] = SV.tup [SV.slB (base + (0 : Nat)) (SN.lit (0 : Nat)) (1 : Nat) (0 : Nat) (SN.lit (2 : Nat)), SV.int IntKind.i64 (SI.lit (0 : Int))] ∧
[SBlk.mk (SC.lit [SV.int IntKind.u8 (SI.sym (IntKind.wrap IntKind.u8 (↑(Int.toNat (IntKind.wrap IntKind.u8 (↑(BitVec.toNat (BitVec.ofInt (8 : Nat) p &&& ~~~BitVec.ofInt (8 : Nat) (4 : Int))) : Int) %
(256 : Int)) ||| (4 : Nat)) : Int))), SV.int IntKind.u8 (SI.sym q)]) (1 : Nat) (0 : Nat) false false] = blk [SV.int IntKind.u8 (SI.sym r), SV.int IntKind.u8 (SI.sym r2)]) ∧ (¬is = true → SV.tup
[SV.slB (base + (0 : Nat)) (SN.lit (0 : Nat)) (1 : Nat) (0 : Nat) (SN.lit (2 : Nat)), SV.int IntKind.i64 (SI.lit (0 : Int))] = SV.tup [SV.slB (base + (0 : Nat)) (SN.lit (0 : Nat)) (1 : Nat) (0 : Nat)
(SN.lit (2 : Nat)), SV.int IntKind.i64 (SI.lit (0 : Int))] ∧ [SBlk.mk (SC.lit [SV.int IntKind.u8 (SI.sym (IntKind.wrap IntKind.u8 (↑(BitVec.toNat (BitVec.ofInt (8 : Nat) p &&& ~~~BitVec.ofInt (8 :
Nat) (4 : Int))) : Int))), SV.int IntKind.u8 (SI.sym q)]) (1 : Nat) (0 : Nat) false false] = blk [SV.int IntKind.u8 (SI.sym r), SV.int IntKind.u8 (SI.sym r2)])) := by kernel_rfl
theorem vc_Put2_3 (n p q : Int) (is : Bool) (v : Prop) (base : Nat) (r r2 : Int) : (scallI (sxT 18 (one18 n (lit2 p q) 3 v 0)) Try.prog cf0 (sexec (sxT 18 (one18 n (lit2 p q) 3 v 0)) Try.prog cf0 1000) 8 base [.int .i64 (.sym n), lit2 p q, .int .i64 (.lit 3), .bool (.sym (is = true))] (fun x bs => x = okB 2 base ∧ bs = blk [byt r, byt r2])) = (∃ (y8 : Unit), (n = n ∧ ((2 : Nat) = (2 : Nat) ∧ p = p ∧ q = q ∧ True) ∧ (3 : Int) = (3 : Int) ∧ True) ∧ True ∧ (is = true → SV.tup [SV.slB (base + (0 : Nat)) (SN.lit (0 : Nat)) (1 : Nat) (0 : Nat)
(SN.lit (2 : Nat)), SV.int IntKind.i64 (SI.lit (0 : Int))] = SV.tup [SV.slB (base + (0 : Nat)) (SN.lit (0 : Nat)) (1 : Nat) (0 : Nat) (SN.lit (2 : Nat)), SV.int IntKind.i64 (SI.lit (0 : Int))] ∧
[SBlk.mk (SC.lit [SV.int IntKind.u8 (SI.sym (IntKind.wrap IntKind.u8 (↑(Int.toNat (IntKind.wrap IntKind.u8 (↑(BitVec.toNat (BitVec.ofInt (8 : Nat) p &&& ~~~BitVec.ofInt (8 : Nat) (8 : Int))) : Int) %
(256 : Int)) ||| (8 : Nat)) : Int))), SV.int IntKind.u8 (SI.sym q)]) (1 : Nat) (0 : Nat) false false] = blk [SV.int IntKind.u8 (SI.sym r), SV.int IntKind.u8 (SI.sym r2)]) ∧ (¬is = true → SV.tup
[SV.slB (base + (0 : Nat)) (SN.lit (0 : Nat)) (1 : Nat) (0 : Nat) (SN.lit (2 : Nat)), SV.int IntKind.i64 (SI.lit (0 : Int))] = SV.tup [SV.slB (base + (0 : Nat)) (SN.lit (0 : Nat)) (1 : Nat) (0 : Nat)
(SN.lit (2 : Nat)), SV.int IntKind.i64 (SI.lit (0 : Int))] ∧ [SBlk.mk (SC.lit [SV.int IntKind.u8 (SI.sym (IntKind.wrap IntKind.u8 (↑(BitVec.toNat (BitVec.ofInt (8 : Nat) p &&& ~~~BitVec.ofInt (8 :
Nat) (8 : Int))) : Int))), SV.int IntKind.u8 (SI.sym q)]) (1 : Nat) (0 : Nat) false false] = blk [SV.int IntKind.u8 (SI.sym r), SV.int IntKind.u8 (SI.sym r2)])) := by kernel_rfl
theorem vc_Put2_4 (n p q : Int) (is : Bool) (v : Prop) (base : Nat) (r r2 : Int) : (scallI (sxT 18 (one18 n (lit2 p q) 4 v 0)) Try.prog cf0 (sexec (sxT 18 (one18 n (lit2 p q) 4 v 0)) Try.prog cf0 1000) 8 base [.int .i64 (.sym n), lit2 p q, .int .i64 (.lit 4), .bool (.sym (is = true))] (fun x bs => x = okB 2 base ∧ bs = blk [byt r, byt r2])) = (∃ (y8 : Unit), (n = n ∧ ((2 : Nat) = (2 : Nat) ∧ p = p ∧ q = q ∧ True) ∧ (4 : Int) = (4 : Int) ∧ True) ∧ True ∧ (is = true → SV.tup [SV.slB (base + (0 : Nat)) (SN.lit (0 : Nat)) (1 : Nat) (0 : Nat)
(SN.lit (2 : Nat)), SV.int IntKind.i64 (SI.lit (0 : Int))] = SV.tup [SV.slB (base + (0 : Nat)) (SN.lit (0 : Nat)) (1 : Nat) (0 : Nat) (SN.lit (2 : Nat)), SV.int IntKind.i64 (SI.lit (0 : Int))] ∧
[SBlk.mk (SC.lit [SV.int IntKind.u8 (SI.sym (IntKind.wrap IntKind.u8 (↑(Int.toNat (IntKind.wrap IntKind.u8 (↑(BitVec.toNat (BitVec.ofInt (8 : Nat) p &&& ~~~BitVec.ofInt (8 : Nat) (16 : Int))) : Int) %
(256 : Int)) ||| (16 : Nat)) : Int))), SV.int IntKind.u8 (SI.sym q)]) (1 : Nat) (0 : Nat) false false] = blk [SV.int IntKind.u8 (SI.sym r), SV.int IntKind.u8 (SI.sym r2)]) ∧ (¬is = true → SV.tup
[SV.slB (base + (0 : Nat)) (SN.lit (0 : Nat)) (1 : Nat) (0 : Nat) (SN.lit (2 : Nat)), SV.int IntKind.i64 (SI.lit (0 : Int))] = SV.tup [SV.slB (base + (0 : Nat)) (SN.lit (0 : Nat)) (1 : Nat) (0 : Nat)
(SN.lit (2 : Nat)), SV.int IntKind.i64 (SI.lit (0 : Int))] ∧ [SBlk.mk (SC.lit [SV.int IntKind.u8 (SI.sym (IntKind.wrap IntKind.u8 (↑(BitVec.toNat (BitVec.ofInt (8 : Nat) p &&& ~~~BitVec.ofInt (8 :
Nat) (16 : Int))) : Int))), SV.int IntKind.u8 (SI.sym q)]) (1 : Nat) (0 : Nat) false false] = blk [SV.int IntKind.u8 (SI.sym r), SV.int IntKind.u8 (SI.sym r2)])) := by kernel_rfl
theorem vc_Put2_5 (n p q : Int) (is : Bool) (v : Prop) (base : Nat) (r r2 : Int) : (scallI (sxT 18 (one18 n (lit2 p q) 5 v 0)) Try.prog cf0 (sexec (sxT 18 (one18 n (lit2 p q) 5 v 0)) Try.prog cf0 1000) 8 base [.int .i64 (.sym n), lit2 p q, .int .i64 (.lit 5), .bool (.sym (is = true))] (fun x bs => x = okB 2 base ∧ bs = blk [byt r, byt r2])) = (∃ (y8 : Unit), (n = n ∧ ((2 : Nat) = (2 : Nat) ∧ p = p ∧ q = q ∧ True) ∧ (5 : Int) = (5 : Int) ∧ True) ∧ True ∧ (is = true → SV.tup [SV.slB (base + (0 : Nat)) (SN.lit (0 : Nat)) (1 : Nat) (0 : Nat)
(SN.lit (2 : Nat)), SV.int IntKind.i64 (SI.lit (0 : Int))] = SV.tup [SV.slB (base + (0 : Nat)) (SN.lit (0 : Nat)) (1 : Nat) (0 : Nat) (SN.lit (2 : Nat)), SV.int IntKind.i64 (SI.lit (0 : Int))] ∧
[SBlk.mk (SC.lit [SV.int IntKind.u8 (SI.sym (IntKind.wrap IntKind.u8 (↑(Int.toNat (IntKind.wrap IntKind.u8 (↑(BitVec.toNat (BitVec.ofInt (8 : Nat) p &&& ~~~BitVec.ofInt (8 : Nat) (32 : Int))) : Int) %
(256 : Int)) ||| (32 : Nat)) : Int))), SV.int IntKind.u8 (SI.sym q)]) (1 : Nat) (0 : Nat) false false] = blk [SV.int IntKind.u8 (SI.sym r), SV.int IntKind.u8 (SI.sym r2)]) ∧ (¬is = true → SV.tup
[SV.slB (base + (0 : Nat)) (SN.lit (0 : Nat)) (1 : Nat) (0 : Nat) (SN.lit (2 : Nat)), SV.int IntKind.i64 (SI.lit (0 : Int))] = SV.tup [SV.slB (base + (0 : Nat)) (SN.lit (0 : Nat)) (1 : Nat) (0 : Nat)
(SN.lit (2 : Nat)), SV.int IntKind.i64 (SI.lit (0 : Int))] ∧ [SBlk.mk (SC.lit [SV.int IntKind.u8 (SI.sym (IntKind.wrap IntKind.u8 (↑(BitVec.toNat (BitVec.ofInt (8 : Nat) p &&& ~~~BitVec.ofInt (8 :
Nat) (32 : Int))) : Int))), SV.int IntKind.u8 (SI.sym q)]) (1 : Nat) (0 : Nat) false false] = blk [SV.int IntKind.u8 (SI.sym r), SV.int IntKind.u8 (SI.sym r2)])) := by kernel_rfl
theorem vc_Put2_6 (n p q : Int) (is : Bool) (v : Prop) (base : Nat) (r r2 : Int) : (scallI (sxT 18 (one18 n (lit2 p q) 6 v 0)) Try.prog cf0 (sexec (sxT 18 (one18 n (lit2 p q) 6 v 0)) Try.prog cf0 1000) 8 base [.int .i64 (.sym n), lit2 p q, .int .i64 (.lit 6), .bool (.sym (is = true))] (fun x bs => x = okB 2 base ∧ bs = blk [byt r, byt r2])) = (∃ (y8 : Unit), (n = n ∧ ((2 : Nat) = (2 : Nat) ∧ p = p ∧ q = q ∧ True) ∧ (6 : Int) = (6 : Int) ∧ True) ∧ True ∧ (is = true → SV.tup [SV.slB (base + (0 : Nat)) (SN.lit (0 : Nat)) (1 : Nat) (0 : Nat)
(SN.lit (2 : Nat)), SV.int IntKind.i64 (SI.lit (0 : Int))] = SV.tup [SV.slB (base + (0 : Nat)) (SN.lit (0 : Nat)) (1 : Nat) (0 : Nat) (SN.lit (2 : Nat)), SV.int IntKind.i64 (SI.lit (0 : Int))] ∧
[SBlk.mk (SC.lit [SV.int IntKind.u8 (SI.sym (IntKind.wrap IntKind.u8 (↑(Int.toNat (IntKind.wrap IntKind.u8 (↑(BitVec.toNat (BitVec.ofInt (8 : Nat) p &&& ~~~BitVec.ofInt (8 : Nat) (64 : Int))) : Int) %
(256 : Int)) ||| (64 : Nat)) : Int))), SV.int IntKind.u8 (SI.sym q)]) (1 : Nat) (0 : Nat) false false] = blk [SV.int IntKind.u8 (SI.sym r), SV.int IntKind.u8 (SI.sym r2)]) ∧ (¬is = true → SV.tup
[SV.slB (base + (0 : Nat)) (SN.lit (0 : Nat)) (1 : Nat) (0 : Nat) (SN.lit (2 : Nat)), SV.int IntKind.i64 (SI.lit (0 : Int))] = SV.tup [SV.slB (base + (0 : Nat)) (SN.lit (0 : Nat)) (1 : Nat) (0 : Nat)
(SN.lit (2 : Nat)), SV.int IntKind.i64 (SI.lit (0 : Int))] ∧ [SBlk.mk (SC.lit [SV.int IntKind.u8 (SI.sym (IntKind.wrap IntKind.u8 (↑(BitVec.toNat (BitVec.ofInt (8 : Nat) p &&& ~~~BitVec.ofInt (8 :
Nat) (64 : Int))) : Int))), SV.int IntKind.u8 (SI.sym q)]) (1 : Nat) (0 : Nat) false false] = blk [SV.int IntKind.u8 (SI.sym r), SV.int IntKind.u8 (SI.sym r2)])) := by kernel_rfl
theorem vc_Put2_7 (n p q : Int) (is : Bool) (v : Prop) (base : Nat) (r r2 : Int) : (scallI (sxT 18 (one18 n (lit2 p q) 7 v 0)) Try.prog cf0 (sexec (sxT 18 (one18 n (lit2 p q) 7 v 0)) Try.prog cf0 1000) 8 base [.int .i64 (.sym n), lit2 p q, .int .i64 (.lit 7), .bool (.sym (is = true))] (fun x bs => x = okB 2 base ∧ bs = blk [byt r, byt r2])) = (∃ (y8 : Unit), (n = n ∧ ((2 : Nat) = (2 : Nat) ∧ p = p ∧ q = q ∧ True) ∧ (7 : Int) = (7 : Int) ∧ True) ∧ True ∧ (is = true → SV.tup [SV.slB (base + (0 : Nat)) (SN.lit (0 : Nat)) (1 : Nat) (0 : Nat)
(SN.lit (2 : Nat)), SV.int IntKind.i64 (SI.lit (0 : Int))] = SV.tup [SV.slB (base + (0 : Nat)) (SN.lit (0 : Nat)) (1 : Nat) (0 : Nat) (SN.lit (2 : Nat)), SV.int IntKind.i64 (SI.lit (0 : Int))] ∧
[SBlk.mk (SC.lit [SV.int IntKind.u8 (SI.sym (IntKind.wrap IntKind.u8 (↑(Int.toNat (IntKind.wrap IntKind.u8 (↑(BitVec.toNat (BitVec.ofInt (8 : Nat) p &&& ~~~BitVec.ofInt (8 : Nat) (128 : Int))) : Int)
% (256 : Int)) ||| (128 : Nat)) : Int))), SV.int IntKind.u8 (SI.sym q)]) (1 : Nat) (0 : Nat) false false] = blk [SV.int IntKind.u8 (SI.sym r), SV.int IntKind.u8 (SI.sym r2)]) ∧ (¬is = true → SV.tup
[SV.slB (base + (0 : Nat)) (SN.lit (0 : Nat)) (1 : Nat) (0 : Nat) (SN.lit (2 : Nat)), SV.int IntKind.i64 (SI.lit (0 : Int))] = SV.tup [SV.slB (base + (0 : Nat)) (SN.lit (0 : Nat)) (1 : Nat) (0 : Nat)
(SN.lit (2 : Nat)), SV.int IntKind.i64 (SI.lit (0 : Int))] ∧ [SBlk.mk (SC.lit [SV.int IntKind.u8 (SI.sym (IntKind.wrap IntKind.u8 (↑(BitVec.toNat (BitVec.ofInt (8 : Nat) p &&& ~~~BitVec.ofInt (8 :
Nat) (128 : Int))) : Int))), SV.int IntKind.u8 (SI.sym q)]) (1 : Nat) (0 : Nat) false false] = blk [SV.int IntKind.u8 (SI.sym r), SV.int IntKind.u8 (SI.sym r2)])) := by kernel_rfl
theorem vc_Put2_8 (n p q : Int) (is : Bool) (v : Prop) (base : Nat) (r r2 : Int) : (scallI (sxT 18 (one18 n (lit2 p q) 8 v 0)) Try.prog cf0 (sexec (sxT 18 (one18 n (lit2 p q) 8 v 0)) Try.prog cf0 1000) 8 base [.int .i64 (.sym n), lit2 p q, .int .i64 (.lit 8), .bool (.sym (is = true))] (fun x bs => x = okB 2 base ∧ bs = blk [byt r, byt r2])) = (∃ (y8 : Unit), (n = n ∧ ((2 : Nat) = (2 : Nat) ∧ p = p ∧ q = q ∧ True) ∧ (8 : Int) = (8 : Int) ∧ True) ∧ True ∧ (is = true → SV.tup [SV.slB (base + (0 : Nat)) (SN.lit (0 : Nat)) (1 : Nat) (0 : Nat)
(SN.lit (2 : Nat)), SV.int IntKind.i64 (SI.lit (0 : Int))] = SV.tup [SV.slB (base + (0 : Nat)) (SN.lit (0 : Nat)) (1 : Nat) (0 : Nat) (SN.lit (2 : Nat)), SV.int IntKind.i64 (SI.lit (0 : Int))] ∧
[SBlk.mk (SC.lit [SV.int IntKind.u8 (SI.sym p), SV.int IntKind.u8 (SI.sym (IntKind.wrap IntKind.u8 (↑(Int.toNat (IntKind.wrap IntKind.u8 (↑(BitVec.toNat (BitVec.ofInt (8 : Nat) q &&& ~~~BitVec.ofInt
(8 : Nat) (1 : Int))) : Int) % (256 : Int)) ||| (1 : Nat)) : Int)))]) (1 : Nat) (0 : Nat) false false] = blk [SV.int IntKind.u8 (SI.sym r), SV.int IntKind.u8 (SI.sym r2)]) ∧ (¬is = true → SV.tup
[SV.slB (base + (0 : Nat)) (SN.lit (0 : Nat)) (1 : Nat) (0 : Nat) (SN.lit (2 : Nat)), SV.int IntKind.i64 (SI.lit (0 : Int))] = SV.tup [SV.slB (base + (0 : Nat)) (SN.lit (0 : Nat)) (1 : Nat) (0 : Nat)
(SN.lit (2 : Nat)), SV.int IntKind.i64 (SI.lit (0 : Int))] ∧ [SBlk.mk (SC.lit [SV.int IntKind.u8 (SI.sym p), SV.int IntKind.u8 (SI.sym (IntKind.wrap IntKind.u8 (↑(BitVec.toNat (BitVec.ofInt (8 : Nat)
q &&& ~~~BitVec.ofInt (8 : Nat) (1 : Int))) : Int)))]) (1 : Nat) (0 : Nat) false false] = blk [SV.int IntKind.u8 (SI.sym r), SV.int IntKind.u8 (SI.sym r2)])) := by kernel_rfl
theorem vc_Put2_9 (n p q : Int) (is : Bool) (v : Prop) (base : Nat) (r r2 : Int) : (scallI (sxT 18 (one18 n (lit2 p q) 9 v 0)) Try.prog cf0 (sexec (sxT 18 (one18 n (lit2 p q) 9 v 0)) Try.prog cf0 1000) 8 base [.int .i64 (.sym n), lit2 p q, .int .i64 (.lit 9), .bool (.sym (is = true))] (fun x bs => x = okB 2 base ∧ bs = blk [byt r, byt r2])) = (∃ (y8 : Unit), (n = n ∧ ((2 : Nat) = (2 : Nat) ∧ p = p ∧ q = q ∧ True) ∧ (9 : Int) = (9 : Int) ∧ True) ∧ True ∧ (is = true → SV.tup [SV.slB (base + (0 : Nat)) (SN.lit (0 : Nat)) (1 : Nat) (0 : Nat)
(SN.lit (2 : Nat)), SV.int IntKind.i64 (SI.lit (0 : Int))] = SV.tup [SV.slB (base + (0 : Nat)) (SN.lit (0 : Nat)) (1 : Nat) (0 : Nat) (SN.lit (2 : Nat)), SV.int IntKind.i64 (SI.lit (0 : Int))] ∧
[SBlk.mk (SC.lit [SV.int IntKind.u8 (SI.sym p), SV.int IntKind.u8 (SI.sym (IntKind.wrap IntKind.u8 (↑(Int.toNat (IntKind.wrap IntKind.u8 (↑(BitVec.toNat (BitVec.ofInt (8 : Nat) q &&& ~~~BitVec.ofInt
(8 : Nat) (2 : Int))) : Int) % (256 : Int)) ||| (2 : Nat)) : Int)))]) (1 : Nat) (0 : Nat) false false] = blk [SV.int IntKind.u8 (SI.sym r), SV.int IntKind.u8 (SI.sym r2)]) ∧ (¬is = true → SV.tup
[SV.slB (base + (0 : Nat)) (SN.lit (0 : Nat)) (1 : Nat) (0 : Nat) (SN.lit (2 : Nat)), SV.int IntKind.i64 (SI.lit (0 : Int))] = SV.tup [SV.slB (base + (0 : Nat)) (SN.lit (0 : Nat)) (1 : Nat) (0 : Nat)
(SN.lit (2 : Nat)), SV.int IntKind.i64 (SI.lit (0 : Int))] ∧ [SBlk.mk (SC.lit [SV.int IntKind.u8 (SI.sym p), SV.int IntKind.u8 (SI.sym (IntKind.wrap IntKind.u8 (↑(BitVec.toNat (BitVec.ofInt (8 : Nat)
q &&& ~~~BitVec.ofInt (8 : Nat) (2 : Int))) : Int)))]) (1 : Nat) (0 : Nat) false false] = blk [SV.int IntKind.u8 (SI.sym r), SV.int IntKind.u8 (SI.sym r2)])) := by kernel_rfl
theorem vc_Put2_10 (n p q : Int) (is : Bool) (v : Prop) (base : Nat) (r r2 : Int) : (scallI (sxT 18 (one18 n (lit2 p q) 10 v 0)) Try.prog cf0 (sexec (sxT 18 (one18 n (lit2 p q) 10 v 0)) Try.prog cf0 1000) 8 base [.int .i64 (.sym n), lit2 p q, .int .i64 (.lit 10), .bool (.sym (is = true))] (fun x bs => x = okB 2 base ∧ bs = blk [byt r, byt r2])) = (∃ (y8 : Unit), (n = n ∧ ((2 : Nat) = (2 : Nat) ∧ p = p ∧ q = q ∧ True) ∧ (10 : Int) = (10 : Int) ∧ True) ∧ True ∧ (is = true → SV.tup [SV.slB (base + (0 : Nat)) (SN.lit (0 : Nat)) (1 : Nat) (0 : Nat)
(SN.lit (2 : Nat)), SV.int IntKind.i64 (SI.lit (0 : Int))] = SV.tup [SV.slB (base + (0 : Nat)) (SN.lit (0 : Nat)) (1 : Nat) (0 : Nat) (SN.lit (2 : Nat)), SV.int IntKind.i64 (SI.lit (0 : Int))] ∧
[SBlk.mk (SC.lit [SV.int IntKind.u8 (SI.sym p), SV.int IntKind.u8 (SI.sym (IntKind.wrap IntKind.u8 (↑(Int.toNat (IntKind.wrap IntKind.u8 (↑(BitVec.toNat (BitVec.ofInt (8 : Nat) q &&& ~~~BitVec.ofInt
(8 : Nat) (4 : Int))) : Int) % (256 : Int)) ||| (4 : Nat)) : Int)))]) (1 : Nat) (0 : Nat) false false] = blk [SV.int IntKind.u8 (SI.sym r), SV.int IntKind.u8 (SI.sym r2)]) ∧ (¬is = true → SV.tup
[SV.slB (base + (0 : Nat)) (SN.lit (0 : Nat)) (1 : Nat) (0 : Nat) (SN.lit (2 : Nat)), SV.int IntKind.i64 (SI.lit (0 : Int))] = SV.tup [SV.slB (base + (0 : Nat)) (SN.lit (0 : Nat)) (1 : Nat) (0 : Nat)
(SN.lit (2 : Nat)), SV.int IntKind.i64 (SI.lit (0 : Int))] ∧ [SBlk.mk (SC.lit [SV.int IntKind.u8 (SI.sym p), SV.int IntKind.u8 (SI.sym (IntKind.wrap IntKind.u8 (↑(BitVec.toNat (BitVec.ofInt (8 : Nat)
q &&& ~~~BitVec.ofInt (8 : Nat) (4 : Int))) : Int)))]) (1 : Nat) (0 : Nat) false false] = blk [SV.int IntKind.u8 (SI.sym r), SV.int IntKind.u8 (SI.sym r2)])) := by kernel_rfl
theorem vc_Put2_11 (n p q : Int) (is : Bool) (v : Prop) (base : Nat) (r r2 : Int) : (scallI (sxT 18 (one18 n (lit2 p q) 11 v 0)) Try.prog cf0 (sexec (sxT 18 (one18 n (lit2 p q) 11 v 0)) Try.prog cf0 1000) 8 base [.int .i64 (.sym n), lit2 p q, .int .i64 (.lit 11), .bool (.sym (is = true))] (fun x bs => x = okB 2 base ∧ bs = blk [byt r, byt r2])) = (∃ (y8 : Unit), (n = n ∧ ((2 : Nat) = (2 : Nat) ∧ p = p ∧ q = q ∧ True) ∧ (11 : Int) = (11 : Int) ∧ True) ∧ True ∧ (is = true → SV.tup [SV.slB (base + (0 : Nat)) (SN.lit (0 : Nat)) (1 : Nat) (0 : Nat)
(SN.lit (2 : Nat)), SV.int IntKind.i64 (SI.lit (0 : Int))] = SV.tup [SV.slB (base + (0 : Nat)) (SN.lit (0 : Nat)) (1 : Nat) (0 : Nat) (SN.lit (2 : Nat)), SV.int IntKind.i64 (SI.lit (0 : Int))] ∧
[SBlk.mk (SC.lit [SV.int IntKind.u8 (SI.sym p), SV.int IntKind.u8 (SI.sym (IntKind.wrap IntKind.u8 (↑(Int.toNat (IntKind.wrap IntKind.u8 (↑(BitVec.toNat (BitVec.ofInt (8 : Nat) q &&& ~~~BitVec.ofInt
(8 : Nat) (8 : Int))) : Int) % (256 : Int)) ||| (8 : Nat)) : Int)))]) (1 : Nat) (0 : Nat) false false] = blk [SV.int IntKind.u8 (SI.sym r), SV.int IntKind.u8 (SI.sym r2)]) ∧ (¬is = true → SV.tup
[SV.slB (base + (0 : Nat)) (SN.lit (0 : Nat)) (1 : Nat) (0 : Nat) (SN.lit (2 : Nat)), SV.int IntKind.i64 (SI.lit (0 : Int))] = SV.tup [SV.slB (base + (0 : Nat)) (SN.lit (0 : Nat)) (1 : Nat) (0 : Nat)
(SN.lit (2 : Nat)), SV.int IntKind.i64 (SI.lit (0 : Int))] ∧ [SBlk.mk (SC.lit [SV.int IntKind.u8 (SI.sym p), SV.int IntKind.u8 (SI.sym (IntKind.wrap IntKind.u8 (↑(BitVec.toNat (BitVec.ofInt (8 : Nat)
q &&& ~~~BitVec.ofInt (8 : Nat) (8 : Int))) : Int)))]) (1 : Nat) (0 : Nat) false false] = blk [SV.int IntKind.u8 (SI.sym r), SV.int IntKind.u8 (SI.sym r2)])) := by kernel_rfl
theorem vc_Put2_12 (n p q : Int) (is : Bool) (v : Prop) (base : Nat) (r r2 : Int) : (scallI (sxT 18 (one18 n (lit2 p q) 12 v 0)) Try.prog cf0 (sexec (sxT 18 (one18 n (lit2 p q) 12 v 0)) Try.prog cf0 1000) 8 base [.int .i64 (.sym n), lit2 p q, .int .i64 (.lit 12), .bool (.sym (is = true))] (fun x bs => x = okB 2 base ∧ bs = blk [byt r, byt r2])) = (∃ (y8 : Unit), (n = n ∧ ((2 : Nat) = (2 : Nat) ∧ p = p ∧ q = q ∧ True) ∧ (12 : Int) = (12 : Int) ∧ True) ∧ True ∧ (is = true → SV.tup [SV.slB (base + (0 : Nat)) (SN.lit (0 : Nat)) (1 : Nat) (0 : Nat)
(SN.lit (2 : Nat)), SV.int IntKind.i64 (SI.lit (0 : Int))] = SV.tup [SV.slB (base + (0 : Nat)) (SN.lit (0 : Nat)) (1 : Nat) (0 : Nat) (SN.lit (2 : Nat)), SV.int IntKind.i64 (SI.lit (0 : Int))] ∧
[SBlk.mk (SC.lit [SV.int IntKind.u8 (SI.sym p), SV.int IntKind.u8 (SI.sym (IntKind.wrap IntKind.u8 (↑(Int.toNat (IntKind.wrap IntKind.u8 (↑(BitVec.toNat (BitVec.ofInt (8 : Nat) q &&& ~~~BitVec.ofInt
(8 : Nat) (16 : Int))) : Int) % (256 : Int)) ||| (16 : Nat)) : Int)))]) (1 : Nat) (0 : Nat) false false] = blk [SV.int IntKind.u8 (SI.sym r), SV.int IntKind.u8 (SI.sym r2)]) ∧ (¬is = true → SV.tup
[SV.slB (base + (0 : Nat)) (SN.lit (0 : Nat)) (1 : Nat) (0 : Nat) (SN.lit (2 : Nat)), SV.int IntKind.i64 (SI.lit (0 : Int))] = SV.tup [SV.slB (base + (0 : Nat)) (SN.lit (0 : Nat)) (1 : Nat) (0 : Nat)
(SN.lit (2 : Nat)), SV.int IntKind.i64 (SI.lit (0 : Int))] ∧ [SBlk.mk (SC.lit [SV.int IntKind.u8 (SI.sym p), SV.int IntKind.u8 (SI.sym (IntKind.wrap IntKind.u8 (↑(BitVec.toNat (BitVec.ofInt (8 : Nat)
q &&& ~~~BitVec.ofInt (8 : Nat) (16 : Int))) : Int)))]) (1 : Nat) (0 : Nat) false false] = blk [SV.int IntKind.u8 (SI.sym r), SV.int IntKind.u8 (SI.sym r2)])) := by kernel_rfl
theorem vc_Put2_13 (n p q : Int) (is : Bool) (v : Prop) (base : Nat) (r r2 : Int) : (scallI (sxT 18 (one18 n (lit2 p q) 13 v 0)) Try.prog cf0 (sexec (sxT 18 (one18 n (lit2 p q) 13 v 0)) Try.prog cf0 1000) 8 base [.int .i64 (.sym n), lit2 p q, .int .i64 (.lit 13), .bool (.sym (is = true))] (fun x bs => x = okB 2 base ∧ bs = blk [byt r, byt r2])) = (∃ (y8 : Unit), (n = n ∧ ((2 : Nat) = (2 : Nat) ∧ p = p ∧ q = q ∧ True) ∧ (13 : Int) = (13 : Int) ∧ True) ∧ True ∧ (is = true → SV.tup [SV.slB (base + (0 : Nat)) (SN.lit (0 : Nat)) (1 : Nat) (0 : Nat)
(SN.lit (2 : Nat)), SV.int IntKind.i64 (SI.lit (0 : Int))] = SV.tup [SV.slB (base + (0 : Nat)) (SN.lit (0 : Nat)) (1 : Nat) (0 : Nat) (SN.lit (2 : Nat)), SV.int IntKind.i64 (SI.lit (0 : Int))] ∧
[SBlk.mk (SC.lit [SV.int IntKind.u8 (SI.sym p), SV.int IntKind.u8 (SI.sym (IntKind.wrap IntKind.u8 (↑(Int.toNat (IntKind.wrap IntKind.u8 (↑(BitVec.toNat (BitVec.ofInt (8 : Nat) q &&& ~~~BitVec.ofInt
(8 : Nat) (32 : Int))) : Int) % (256 : Int)) ||| (32 : Nat)) : Int)))]) (1 : Nat) (0 : Nat) false false] = blk [SV.int IntKind.u8 (SI.sym r), SV.int IntKind.u8 (SI.sym r2)]) ∧ (¬is = true → SV.tup
[SV.slB (base + (0 : Nat)) (SN.lit (0 : Nat)) (1 : Nat) (0 : Nat) (SN.lit (2 : Nat)), SV.int IntKind.i64 (SI.lit (0 : Int))] = SV.tup [SV.slB (base + (0 : Nat)) (SN.lit (0 : Nat)) (1 : Nat) (0 : Nat)
(SN.lit (2 : Nat)), SV.int IntKind.i64 (SI.lit (0 : Int))] ∧ [SBlk.mk (SC.lit [SV.int IntKind.u8 (SI.sym p), SV.int IntKind.u8 (SI.sym (IntKind.wrap IntKind.u8 (↑(BitVec.toNat (BitVec.ofInt (8 : Nat)
q &&& ~~~BitVec.ofInt (8 : Nat) (32 : Int))) : Int)))]) (1 : Nat) (0 : Nat) false false] = blk [SV.int IntKind.u8 (SI.sym r), SV.int IntKind.u8 (SI.sym r2)])) := by kernel_rfl
theorem vc_Put2_14 (n p q : Int) (is : Bool) (v : Prop) (base : Nat) (r r2 : Int) : (scallI (sxT 18 (one18 n (lit2 p q) 14 v 0)) Try.prog cf0 (sexec (sxT 18 (one18 n (lit2 p q) 14 v 0)) Try.prog cf0 1000) 8 base [.int .i64 (.sym n), lit2 p q, .int .i64 (.lit 14), .bool (.sym (is = true))] (fun x bs => x = okB 2 base ∧ bs = blk [byt r, byt r2])) = (∃ (y8 : Unit), (n = n ∧ ((2 : Nat) = (2 : Nat) ∧ p = p ∧ q = q ∧ True) ∧ (14 : Int) = (14 : Int) ∧ True) ∧ True ∧ (is = true → SV.tup [SV.slB (base + (0 : Nat)) (SN.lit (0 : Nat)) (1 : Nat) (0 : Nat)
(SN.lit (2 : Nat)), SV.int IntKind.i64 (SI.lit (0 : Int))] = SV.tup [SV.slB (base + (0 : Nat)) (SN.lit (0 : Nat)) (1 : Nat) (0 : Nat) (SN.lit (2 : Nat)), SV.int IntKind.i64 (SI.lit (0 : Int))] ∧
[SBlk.mk (SC.lit [SV.int IntKind.u8 (SI.sym p), SV.int IntKind.u8 (SI.sym (IntKind.wrap IntKind.u8 (↑(Int.toNat (IntKind.wrap IntKind.u8 (↑(BitVec.toNat (BitVec.ofInt (8 : Nat) q &&& ~~~BitVec.ofInt
(8 : Nat) (64 : Int))) : Int) % (256 : Int)) ||| (64 : Nat)) : Int)))]) (1 : Nat) (0 : Nat) false false] = blk [SV.int IntKind.u8 (SI.sym r), SV.int IntKind.u8 (SI.sym r2)]) ∧ (¬is = true → SV.tup
[SV.slB (base + (0 : Nat)) (SN.lit (0 : Nat)) (1 : Nat) (0 : Nat) (SN.lit (2 : Nat)), SV.int IntKind.i64 (SI.lit (0 : Int))] = SV.tup [SV.slB (base + (0 : Nat)) (SN.lit (0 : Nat)) (1 : Nat) (0 : Nat)
(SN.lit (2 : Nat)), SV.int IntKind.i64 (SI.lit (0 : Int))] ∧ [SBlk.mk (SC.lit [SV.int IntKind.u8 (SI.sym p), SV.int IntKind.u8 (SI.sym (IntKind.wrap IntKind.u8 (↑(BitVec.toNat (BitVec.ofInt (8 : Nat)
q &&& ~~~BitVec.ofInt (8 : Nat) (64 : Int))) : Int)))]) (1 : Nat) (0 : Nat) false false] = blk [SV.int IntKind.u8 (SI.sym r), SV.int IntKind.u8 (SI.sym r2)])) := by kernel_rfl
theorem vc_Put2_15 (n p q : Int) (is : Bool) (v : Prop) (base : Nat) (r r2 : Int) : (scallI (sxT 18 (one18 n (lit2 p q) 15 v 0)) Try.prog cf0 (sexec (sxT 18 (one18 n (lit2 p q) 15 v 0)) Try.prog cf0 1000) 8 base [.int .i64 (.sym n), lit2 p q, .int .i64 (.lit 15), .bool (.sym (is = true))] (fun x bs => x = okB 2 base ∧ bs = blk [byt r, byt r2])) = (∃ (y8 : Unit), (n = n ∧ ((2 : Nat) = (2 : Nat) ∧ p = p ∧ q = q ∧ True) ∧ (15 : Int) = (15 : Int) ∧ True) ∧ True ∧ (is = true → SV.tup [SV.slB (base + (0 : Nat)) (SN.lit (0 : Nat)) (1 : Nat) (0 : Nat)
(SN.lit (2 : Nat)), SV.int IntKind.i64 (SI.lit (0 : Int))] = SV.tup [SV.slB (base + (0 : Nat)) (SN.lit (0 : Nat)) (1 : Nat) (0 : Nat) (SN.lit (2 : Nat)), SV.int IntKind.i64 (SI.lit (0 : Int))] ∧
[SBlk.mk (SC.lit [SV.int IntKind.u8 (SI.sym p), SV.int IntKind.u8 (SI.sym (IntKind.wrap IntKind.u8 (↑(Int.toNat (IntKind.wrap IntKind.u8 (↑(BitVec.toNat (BitVec.ofInt (8 : Nat) q &&& ~~~BitVec.ofInt
(8 : Nat) (128 : Int))) : Int) % (256 : Int)) ||| (128 : Nat)) : Int)))]) (1 : Nat) (0 : Nat) false false] = blk [SV.int IntKind.u8 (SI.sym r), SV.int IntKind.u8 (SI.sym r2)]) ∧ (¬is = true → SV.tup
[SV.slB (base + (0 : Nat)) (SN.lit (0 : Nat)) (1 : Nat) (0 : Nat) (SN.lit (2 : Nat)), SV.int IntKind.i64 (SI.lit (0 : Int))] = SV.tup [SV.slB (base + (0 : Nat)) (SN.lit (0 : Nat)) (1 : Nat) (0 : Nat)
(SN.lit (2 : Nat)), SV.int IntKind.i64 (SI.lit (0 : Int))] ∧ [SBlk.mk (SC.lit [SV.int IntKind.u8 (SI.sym p), SV.int IntKind.u8 (SI.sym (IntKind.wrap IntKind.u8 (↑(BitVec.toNat (BitVec.ofInt (8 : Nat)
q &&& ~~~BitVec.ofInt (8 : Nat) (128 : Int))) : Int)))]) (1 : Nat) (0 : Nat) false false] = blk [SV.int IntKind.u8 (SI.sym r), SV.int IntKind.u8 (SI.sym r2)])) := by kernel_rfl
theorem vc_OrE2 (n : Int) (a b : List Int) (base : Nat) : (scallI (sxT 49 (one49 n (row a) (row b) 2)) Try.prog cf0 (sexec (sxT 49 (one49 n (row a) (row b) 2)) Try.prog cf0 1000) 10 base (argO n (row a) (row b)) (fun x bs => x = errB 2 base ∧ noBlk bs)) = (∃ (y4 : Unit), (n = n ∧ ((2 : Nat) = (2 : Nat) ∧ (List.length a = List.length a ∧ SC.rows eB (1 : Nat) (1 : Nat) true a = SC.rows eB (1 : Nat) (1 : Nat) true a) ∧ (List.length b = List.length b ∧
SC.rows eB (1 : Nat) (1 : Nat) true b = SC.rows eB (1 : Nat) (1 : Nat) true b) ∧ True) ∧ True) ∧ True ∧ SV.tup [SV.nilSl, SV.int IntKind.i64 (SI.lit (2 : Int))] = SV.tup [SV.nilSl, SV.int IntKind.i64
(SI.lit (2 : Int))] ∧ True) := by kernel_rfl
theorem vc_OrE8 (n : Int) (a b : List Int) (base : Nat) : (scallI (sxT 49 (one49 n (row a) (row b) 8)) Try.prog cf0 (sexec (sxT 49 (one49 n (row a) (row b) 8)) Try.prog cf0 1000) 10 base (argO n (row a) (row b)) (fun x bs => x = errB 8 base ∧ noBlk bs)) = (∃ (y4 : Unit), (n = n ∧ ((2 : Nat) = (2 : Nat) ∧ (List.length a = List.length a ∧ SC.rows eB (1 : Nat) (1 : Nat) true a = SC.rows eB (1 : Nat) (1 : Nat) true a) ∧ (List.length b = List.length b ∧
SC.rows eB (1 : Nat) (1 : Nat) true b = SC.rows eB (1 : Nat) (1 : Nat) true b) ∧ True) ∧ True) ∧ True ∧ SV.tup [SV.nilSl, SV.int IntKind.i64 (SI.lit (8 : Int))] = SV.tup [SV.nilSl, SV.int IntKind.i64
(SI.lit (8 : Int))] ∧ True) := by kernel_rfl
theorem vc_Or1 (n : Int) (p u r : Int) (base : Nat) : (scallI (sxT 49 (one49 n (lit1 p) (lit1 u) 0)) Try.prog cf0 (sexec (sxT 49 (one49 n (lit1 p) (lit1 u) 0)) Try.prog cf0 1000) 10 base (argO n (lit1 p) (lit1 u)) (fun x bs => x = okB 1 base ∧ bs = blk [byt r])) = (∃ (y5 : Unit), (n = n ∧ ((2 : Nat) = (2 : Nat) ∧ ((1 : Nat) = (1 : Nat) ∧ p = p ∧ True) ∧ ((1 : Nat) = (1 : Nat) ∧ u = u ∧ True) ∧ True) ∧ True) ∧ True ∧ SV.tup [SV.slB (base + (0 : Nat)) (SN.lit (0 :
Nat)) (1 : Nat) (0 : Nat) (SN.lit (1 : Nat)), SV.int IntKind.i64 (SI.lit (0 : Int))] = SV.tup [SV.slB (base + (0 : Nat)) (SN.lit (0 : Nat)) (1 : Nat) (0 : Nat) (SN.lit (1 : Nat)), SV.int IntKind.i64
(SI.lit (0 : Int))] ∧ [SBlk.mk (SC.lit [SV.int IntKind.u8 (SI.sym (IntKind.wrap IntKind.u8 (↑(Int.toNat (p % (256 : Int)) ||| Int.toNat (u % (256 : Int))) : Int)))]) (1 : Nat) (0 : Nat) false false] =
blk [SV.int IntKind.u8 (SI.sym r)]) := by kernel_rfl
theorem vc_Or2 (n : Int) (p q u w r r2 : Int) (base : Nat) : (scallI (sxT 49 (one49 n (lit2 p q) (lit2 u w) 0)) Try.prog cf0 (sexec (sxT 49 (one49 n (lit2 p q) (lit2 u w) 0)) Try.prog cf0 1000) 10 base (argO n (lit2 p q) (lit2 u w)) (fun x bs => x = okB 2 base ∧ bs = blk [byt r, byt r2])) = (∃ (y8 : Unit), (n = n ∧ ((2 : Nat) = (2 : Nat) ∧ ((2 : Nat) = (2 : Nat) ∧ p = p ∧ q = q ∧ True) ∧ ((2 : Nat) = (2 : Nat) ∧ u = u ∧ w = w ∧ True) ∧ True) ∧ True) ∧ True ∧ SV.tup [SV.slB (base + (0 :
Nat)) (SN.lit (0 : Nat)) (1 : Nat) (0 : Nat) (SN.lit (2 : Nat)), SV.int IntKind.i64 (SI.lit (0 : Int))] = SV.tup [SV.slB (base + (0 : Nat)) (SN.lit (0 : Nat)) (1 : Nat) (0 : Nat) (SN.lit (2 : Nat)),
SV.int IntKind.i64 (SI.lit (0 : Int))] ∧ [SBlk.mk (SC.lit [SV.int IntKind.u8 (SI.sym (IntKind.wrap IntKind.u8 (↑(Int.toNat (p % (256 : Int)) ||| Int.toNat (u % (256 : Int))) : Int))), SV.int
IntKind.u8 (SI.sym (IntKind.wrap IntKind.u8 (↑(Int.toNat (q % (256 : Int)) ||| Int.toNat (w % (256 : Int))) : Int)))]) (1 : Nat) (0 : Nat) false false] = blk [SV.int IntKind.u8 (SI.sym r), SV.int
IntKind.u8 (SI.sym r2)]) := by kernel_rfl
theorem vc_MiE2 (n : Int) (a b : List Int) (base : Nat) : (scallI (sxT 49 (one49 n (row a) (row b) 2)) Try.prog cf0 (sexec (sxT 49 (one49 n (row a) (row b) 2)) Try.prog cf0 1000) 12 base (argO n (row a) (row b)) (fun x bs => x = errB 2 base ∧ noBlk bs)) = (∃ (y4 : Unit), (n = n ∧ ((2 : Nat) = (2 : Nat) ∧ (List.length a = List.length a ∧ SC.rows eB (1 : Nat) (1 : Nat) true a = SC.rows eB (1 : Nat) (1 : Nat) true a) ∧ (List.length b = List.length b ∧
SC.rows eB (1 : Nat) (1 : Nat) true b = SC.rows eB (1 : Nat) (1 : Nat) true b) ∧ True) ∧ True) ∧ True ∧ SV.tup [SV.nilSl, SV.int IntKind.i64 (SI.lit (2 : Int))] = SV.tup [SV.nilSl, SV.int IntKind.i64
(SI.lit (2 : Int))] ∧ True) := by kernel_rfl
theorem vc_MiE8 (n : Int) (a b : List Int) (base : Nat) : (scallI (sxT 49 (one49 n (row a) (row b) 8)) Try.prog cf0 (sexec (sxT 49 (one49 n (row a) (row b) 8)) Try.prog cf0 1000) 12 base (argO n (row a) (row b)) (fun x bs => x = errB 8 base ∧ noBlk bs)) = (∃ (y4 : Unit), (n = n ∧ ((2 : Nat) = (2 : Nat) ∧ (List.length a = List.length a ∧ SC.rows eB (1 : Nat) (1 : Nat) true a = SC.rows eB (1 : Nat) (1 : Nat) true a) ∧ (List.length b = List.length b ∧
SC.rows eB (1 : Nat) (1 : Nat) true b = SC.rows eB (1 : Nat) (1 : Nat) true b) ∧ True) ∧ True) ∧ True ∧ SV.tup [SV.nilSl, SV.int IntKind.i64 (SI.lit (8 : Int))] = SV.tup [SV.nilSl, SV.int IntKind.i64
(SI.lit (8 : Int))] ∧ True) := by kernel_rfl
theorem vc_Mi1 (n : Int) (p u r : Int) (base : Nat) : (scallI (sxT 49 (one49 n (lit1 p) (lit1 u) 0)) Try.prog cf0 (sexec (sxT 49 (one49 n (lit1 p) (lit1 u) 0)) Try.prog cf0 1000) 12 base (argO n (lit1 p) (lit1 u)) (fun x bs => x = okB 1 base ∧ bs = blk [byt r])) = (∃ (y5 : Unit), (n = n ∧ ((2 : Nat) = (2 : Nat) ∧ ((1 : Nat) = (1 : Nat) ∧ p = p ∧ True) ∧ ((1 : Nat) = (1 : Nat) ∧ u = u ∧ True) ∧ True) ∧ True) ∧ True ∧ SV.tup [SV.slB (base + (0 : Nat)) (SN.lit (0 :
Nat)) (1 : Nat) (0 : Nat) (SN.lit (1 : Nat)), SV.int IntKind.i64 (SI.lit (0 : Int))] = SV.tup [SV.slB (base + (0 : Nat)) (SN.lit (0 : Nat)) (1 : Nat) (0 : Nat) (SN.lit (1 : Nat)), SV.int IntKind.i64
(SI.lit (0 : Int))] ∧ [SBlk.mk (SC.lit [SV.int IntKind.u8 (SI.sym (IntKind.wrap IntKind.u8 (↑(BitVec.toNat (BitVec.ofInt (8 : Nat) p &&& ~~~BitVec.ofInt (8 : Nat) u)) : Int)))]) (1 : Nat) (0 : Nat)
false false] = blk [SV.int IntKind.u8 (SI.sym r)]) := by kernel_rfl
theorem vc_Mi2 (n : Int) (p q u w r r2 : Int) (base : Nat) : (scallI (sxT 49 (one49 n (lit2 p q) (lit2 u w) 0)) Try.prog cf0 (sexec (sxT 49 (one49 n (lit2 p q) (lit2 u w) 0)) Try.prog cf0 1000) 12 base (argO n (lit2 p q) (lit2 u w)) (fun x bs => x = okB 2 base ∧ bs = blk [byt r, byt r2])) = (∃ (y8 : Unit), (n = n ∧ ((2 : Nat) = (2 : Nat) ∧ ((2 : Nat) = (2 : Nat) ∧ p = p ∧ q = q ∧ True) ∧ ((2 : Nat) = (2 : Nat) ∧ u = u ∧ w = w ∧ True) ∧ True) ∧ True) ∧ True ∧ SV.tup [SV.slB (base + (0 :
Nat)) (SN.lit (0 : Nat)) (1 : Nat) (0 : Nat) (SN.lit (2 : Nat)), SV.int IntKind.i64 (SI.lit (0 : Int))] = SV.tup [SV.slB (base + (0 : Nat)) (SN.lit (0 : Nat)) (1 : Nat) (0 : Nat) (SN.lit (2 : Nat)),
SV.int IntKind.i64 (SI.lit (0 : Int))] ∧ [SBlk.mk (SC.lit [SV.int IntKind.u8 (SI.sym (IntKind.wrap IntKind.u8 (↑(BitVec.toNat (BitVec.ofInt (8 : Nat) p &&& ~~~BitVec.ofInt (8 : Nat) u)) : Int))),
SV.int IntKind.u8 (SI.sym (IntKind.wrap IntKind.u8 (↑(BitVec.toNat (BitVec.ofInt (8 : Nat) q &&& ~~~BitVec.ofInt (8 : Nat) w)) : Int)))]) (1 : Nat) (0 : Nat) false false] = blk [SV.int IntKind.u8
(SI.sym r), SV.int IntKind.u8 (SI.sym r2)]) := by kernel_rfl
end
end Go.Proofs.Ytifgifhbefhkmaa.VM
/- Sets of tracks: what the document answers, byte by byte. No conditions. -/
namespace Go.Proofs.Ytifgifhbefhkmaa.VM
open Go Go.RowKit
set_option linter.unusedVariables false
set_option linter.unusedSimpArgs false
set_option maxRecDepth 100000
noncomputable section
theorem inB1 (m k : Nat) (hk : k < 8) : inB [(m : Int)] (k : Int) = m.testBit k := by
  unfold inB
  simp only [Int.toNat_natCast, Nat.div_eq_of_lt hk, Nat.mod_eq_of_lt hk, List.getD_cons_zero]
  rw [Nat.testBit_eq_decide_div_mod_eq]
  have e : (m : Int) / 2 ^ k % 2 = ((m / 2 ^ k % 2 : Nat) : Int) := by
    rw [show (2 : Int) ^ k = ((2 ^ k : Nat) : Int) from (Int.natCast_pow 2 k).symm]; rfl
  rw [e]
  congr 1
  apply propext
  omega
theorem inBk (s : List Int) (k : Nat) : inB s (k : Int) = decide (s.getD (k / 8) 0 / 2 ^ (k % 8) % 2 = 1) := rfl
theorem inB2 (p q : Int) (k : Nat) : inB [p, q] (k : Int) = if k < 8 then inB [p] (k : Int) else if k < 16 then inB [q] ((k - 8 : Nat) : Int) else false := by
  by_cases h : k < 8
  · rw [if_pos h, inBk, inBk]
    have e : [p, q].getD (k / 8) 0 = [p].getD (k / 8) 0 := by rw [Nat.div_eq_of_lt h]; rfl
    simp only [e]
  · rw [if_neg h]
    by_cases h2 : k < 16
    · rw [if_pos h2, inBk, inBk]
      have e : [p, q].getD (k / 8) 0 = [q].getD ((k - 8) / 8) 0 := by rw [show k / 8 = 1 by omega, show (k - 8) / 8 = 0 by omega]; rfl
      have e2 : (k - 8) % 8 = k % 8 := by omega
      simp only [e, e2]
    · rw [if_neg h2, inBk]
      have : [p, q].getD (k / 8) 0 = 0 := by
        rw [List.getD_eq_getElem?_getD, List.getElem?_eq_none (by simp; omega)]; rfl
      simp only [this]; simp
theorem made_lo (l1 l2 : List Bool) (h : l1.length = 8) : ∀ t, t ≤ 8 → madeP 2 (l1 ++ l2) t = madeP 1 l1 t ++ [0]
  | 0, _ => rfl
  | t + 1, ht => by
    rw [madeP, madeP, made_lo l1 l2 h t (by omega)]
    have hx := madeP_length 1 l1 t
    generalize madeP 1 l1 t = X at hx
    match X, hx with
    | [x], _ =>
      unfold mstep
      have e : (l1 ++ l2).getD t false = l1.getD t false := by simp only [List.getD_eq_getElem?_getD]; rw [List.getElem?_append_left (by omega)]
      rw [e, show t / 8 = 0 by omega]
      split <;> rfl
theorem made_hi (l1 l2 : List Bool) (h : l1.length = 8) : ∀ t, t ≤ 8 → madeP 2 (l1 ++ l2) (8 + t) = madeP 1 l1 8 ++ madeP 1 l2 t
  | 0, _ => made_lo l1 l2 h 8 (Nat.le_refl _)
  | t + 1, ht => by
    rw [← Nat.add_assoc, madeP, made_hi l1 l2 h t (by omega)]
    rw [show madeP 1 l2 (t + 1) = mstep l2 (madeP 1 l2 t) t from rfl]
    have hx := madeP_length 1 l1 8
    generalize madeP 1 l1 8 = X at hx
    have hy := madeP_length 1 l2 t
    generalize madeP 1 l2 t = Y at hy
    match X, hx, Y, hy with
    | [x], _, [y], _ =>
      unfold mstep
      have e : (l1 ++ l2).getD (8 + t) false = l2.getD t false := by simp only [List.getD_eq_getElem?_getD]; rw [List.getElem?_append_right (by omega), h]; congr 2; omega
      rw [e, show (8 + t) / 8 = 1 by omega, show (8 + t) % 8 = t % 8 by omega, show t / 8 = 0 by omega]
      split <;> rfl
theorem made_two {n : Int} (h1 : 9 ≤ n) (h2 : n ≤ 16) (l1 l2 : List Bool) (h : l1.length = 8) : madeL n (l1 ++ l2) = madeL 8 l1 ++ madeL (n - 8) l2 := by
  unfold madeL
  rw [show pages n = 2 by unfold pages; omega, show pages 8 = 1 from rfl, show pages (n - 8) = 1 by unfold pages; omega, show n.toNat = 8 + (n - 8).toNat by omega, made_hi l1 l2 h _ (by omega)]
  rfl
theorem told_congr {m : Nat} {f g : Nat → Bool} (h : ∀ k, k < m → f k = g k) : told m f = told m g := by
  unfold told
  exact List.map_congr_left fun k hk => h k (List.mem_range.1 hk)
theorem told_two {m : Nat} (hm : m ≤ 8) {f g1 g2 : Nat → Bool} (h1 : ∀ k, k < 8 → f k = g1 k) (h2 : ∀ k, k < m → f (8 + k) = g2 k) : told (8 + m) f = told 8 g1 ++ told m g2 := by
  have : told (8 + m) f = told 8 f ++ told m (fun k => f (8 + k)) := by
    unfold told; rw [List.range_add, List.map_append, List.map_map]; rfl
  rw [this, told_congr h1, told_congr h2]

end
end Go.Proofs.Ytifgifhbefhkmaa.VM
/- One byte, all of them. No conditions. -/
namespace Go.Proofs.Ytifgifhbefhkmaa.VM
open Go Go.RowKit
set_option linter.unusedVariables false
set_option linter.unusedSimpArgs false
set_option maxRecDepth 100000
noncomputable section
theorem one_id : ∀ m : Fin 9, 1 ≤ m.val → ∀ p : Fin 256, mayB (m.val : Int) [(p.val : Int)] = true → madeL (m.val : Int) (told m.val fun k => p.val.testBit k) = [(p.val : Int)] := by decide +kernel
theorem one_with : ∀ m : Fin 9, 1 ≤ m.val → ∀ p : Fin 256, mayB (m.val : Int) [(p.val : Int)] = true → ∀ t : Fin 8, t.val < m.val → ∀ is : Bool, madeL (m.val : Int) ((told m.val fun k => p.val.testBit k).set t.val is) = [putB (p.val : Int) t.val is] := by decide +kernel
theorem may8 : ∀ p : Fin 256, mayB 8 [(p.val : Int)] = true := by decide +kernel

end
end Go.Proofs.Ytifgifhbefhkmaa.VM
/- Sets of tracks: what the document answers of sets that may be. No conditions. -/
namespace Go.Proofs.Ytifgifhbefhkmaa.VM
open Go Go.RowKit
set_option linter.unusedVariables false
set_option linter.unusedSimpArgs false
set_option maxRecDepth 100000
noncomputable section
theorem orN_nat (p u : Nat) (hp : p < 256) (hu : u < 256) : orN p u = ((p ||| u : Nat) : Int) ∧ p ||| u < 256 := by
  have h : p ||| u < 2 ^ 8 := Nat.or_lt_two_pow (by omega) (by omega)
  have e1 : ((p : Int) % 256).toNat = p := by omega
  have e2 : ((u : Int) % 256).toNat = u := by omega
  unfold orN
  rw [e1, e2, wr_u8 (by omega) (by omega)]
  exact ⟨rfl, h⟩
theorem andN_nat (p u : Nat) (hp : p < 256) : ∃ w : Nat, andN p u = (w : Int) ∧ w < 256 ∧ ∀ k, k < 8 → w.testBit k = (p.testBit k && !u.testBit k) := by
  refine ⟨(BitVec.ofInt 8 (p : Int) &&& ~~~ BitVec.ofInt 8 (u : Int)).toNat, ?_, (BitVec.ofInt 8 (p : Int) &&& ~~~ BitVec.ofInt 8 (u : Int)).isLt, fun k hk => ?_⟩
  · unfold andN
    have := (BitVec.ofInt 8 (p : Int) &&& ~~~ BitVec.ofInt 8 (u : Int)).isLt
    rw [wr_u8 (by omega) (by omega)]
  · have e : ∀ x : Nat, BitVec.ofInt 8 (x : Int) = BitVec.ofNat 8 x := fun x => by simp
    rw [e, e, ← BitVec.getLsbD, BitVec.getLsbD_and, BitVec.getLsbD_not, BitVec.getLsbD_ofNat, BitVec.getLsbD_ofNat]
    simp [hk]
def fbit (p : Nat) (k : Nat) : Bool := p.testBit k
theorem told_one (m p : Nat) (hm : m ≤ 8) : (told m fun k => inB [(p : Int)] (k : Int)) = told m fun k => p.testBit k := told_congr fun k hk => inB1 p k (by omega)
theorem inB2hi (p : Int) (q k : Nat) (hk : k < 8) : inB [p, (q : Int)] ((8 + k : Nat) : Int) = q.testBit k := by
  rw [inB2, if_neg (by omega), if_pos (by omega), show 8 + k - 8 = k by omega, inB1 q k hk]
theorem inB2lo (p k : Nat) (q : Int) (hk : k < 8) : inB [(p : Int), q] (k : Int) = p.testBit k := by
  rw [inB2, if_pos hk, inB1 p k hk]
theorem may_bits {m p : Nat} (h1 : 1 ≤ m) (hm : m ≤ 8) : mayB (m : Int) [(p : Int)] = true ↔ ∀ k, m ≤ k → k < 8 → p.testBit k = false := by
  have hs : sizeB (m : Int) = true := sizeB_iff.2 (by omega)
  have hpg : pages (m : Int) = 1 := by unfold pages; omega
  unfold mayB
  rw [hs, hpg]
  simp only [List.length_singleton, decide_true, Bool.true_and, List.all_eq_true, List.mem_range, Bool.or_eq_true, decide_eq_true_eq, Bool.not_eq_true']
  constructor
  · intro h k h1 h2
    have := h k (by omega)
    rw [inB1 p k h2] at this
    exact this.resolve_left (by omega)
  · intro h k hk
    by_cases q : k < m
    · left; omega
    · right; rw [inB1 p k (by omega)]; exact h k (by omega) (by omega)
theorem id_one {m p : Nat} (h1 : 1 ≤ m) (hm : m ≤ 8) (hp : p < 256) (h : mayB (m : Int) [(p : Int)] = true) : madeL (m : Int) (told m fun k => p.testBit k) = [(p : Int)] := one_id ⟨m, by omega⟩ h1 ⟨p, hp⟩ h
theorem or_one {m p u : Nat} (h1 : 1 ≤ m) (hm : m ≤ 8) (hp : p < 256) (hu : u < 256) (h : mayB (m : Int) [(p : Int)] = true) (g : mayB (m : Int) [(u : Int)] = true) : madeL (m : Int) (told m fun k => p.testBit k || u.testBit k) = [orN p u] := by
  obtain ⟨e, hl⟩ := orN_nat p u hp hu
  rw [e, told_congr (g := fun k => (p ||| u).testBit k) fun k _ => (Nat.testBit_or p u k).symm]
  refine id_one h1 hm hl ((may_bits h1 hm).2 fun k a b => ?_)
  rw [Nat.testBit_or, (may_bits h1 hm).1 h k a b, (may_bits h1 hm).1 g k a b]; rfl
theorem not_one {m p u : Nat} (h1 : 1 ≤ m) (hm : m ≤ 8) (hp : p < 256) (h : mayB (m : Int) [(p : Int)] = true) : madeL (m : Int) (told m fun k => p.testBit k && !u.testBit k) = [andN p u] := by
  obtain ⟨w, e, hl, hw⟩ := andN_nat p u hp
  rw [e, told_congr (g := fun k => w.testBit k) fun k hk => (hw k (by omega)).symm]
  refine id_one h1 hm hl ((may_bits h1 hm).2 fun k a b => ?_)
  rw [hw k b, (may_bits h1 hm).1 h k a b]; rfl
theorem full_one (p : Nat) (hp : p < 256) : mayB ((8 : Nat) : Int) [(p : Int)] = true := may8 ⟨p, hp⟩
/-- Two bytes. -/
theorem split_n {n : Int} (h1 : 9 ≤ n) (h2 : n ≤ 16) : ∃ m : Nat, n = ((8 + m : Nat) : Int) ∧ 1 ≤ m ∧ m ≤ 8 ∧ n.toNat = 8 + m ∧ n - 8 = (m : Int) := ⟨(n - 8).toNat, by omega, by omega, by omega, by omega, by omega⟩
theorem or_two {n : Int} {p q u w : Nat} (h1 : 9 ≤ n) (h2 : n ≤ 16) (hp : p < 256) (hq : q < 256) (hu : u < 256) (hw : w < 256) (h : mayB n [(p : Int), (q : Int)] = true) (g : mayB n [(u : Int), (w : Int)] = true) : orL n [(p : Int), (q : Int)] [(u : Int), (w : Int)] = [orN p u, orN q w] := by
  rw [may_two n _ _ h1 h2] at h g
  obtain ⟨m, rfl, m1, m2, m3, m4⟩ := split_n h1 h2
  rw [m4] at h g
  unfold orL
  rw [m3, told_two m2 (g1 := fun k => p.testBit k || u.testBit k) (g2 := fun k => q.testBit k || w.testBit k) (fun k hk => ?_) fun k hk => ?_, made_two h1 h2 _ _ (told_length 8 _), m4]
  · exact congr (congrArg _ (or_one (m := 8) (by omega) (by omega) hp hu (full_one p hp) (full_one u hu))) (or_one m1 m2 hq hw h g)
  · unfold inOr; rw [inB2lo p k _ hk, inB2lo u k _ hk]
  · unfold inOr; rw [inB2hi _ q k (by omega), inB2hi _ w k (by omega)]
theorem less_two {n : Int} {p q u w : Nat} (h1 : 9 ≤ n) (h2 : n ≤ 16) (hp : p < 256) (hq : q < 256) (h : mayB n [(p : Int), (q : Int)] = true) : lessL n [(p : Int), (q : Int)] [(u : Int), (w : Int)] = [andN p u, andN q w] := by
  rw [may_two n _ _ h1 h2] at h
  obtain ⟨m, rfl, m1, m2, m3, m4⟩ := split_n h1 h2
  rw [m4] at h
  unfold lessL
  rw [m3, told_two m2 (g1 := fun k => p.testBit k && !u.testBit k) (g2 := fun k => q.testBit k && !w.testBit k) (fun k hk => ?_) fun k hk => ?_, made_two h1 h2 _ _ (told_length 8 _), m4]
  · exact congr (congrArg _ (not_one (m := 8) (by omega) (by omega) hp (full_one p hp))) (not_one m1 m2 hq h)
  · unfold inNot; rw [inB2lo p k _ hk, inB2lo u k _ hk]
  · unfold inNot; rw [inB2hi _ q k (by omega), inB2hi _ w k (by omega)]
theorem with_two {n : Int} {p q : Nat} {t : Nat} {is : Bool} (h1 : 9 ≤ n) (h2 : n ≤ 16) (hp : p < 256) (hq : q < 256) (h : mayB n [(p : Int), (q : Int)] = true) (ht : (t : Int) < n) : withL n [(p : Int), (q : Int)] t is = if t < 8 then [putB p t is, (q : Int)] else [(p : Int), putB q (t - 8) is] := by
  rw [may_two n _ _ h1 h2] at h
  obtain ⟨m, rfl, m1, m2, m3, m4⟩ := split_n h1 h2
  rw [m4] at h
  unfold withL
  rw [m3, told_two m2 (g1 := fun k => p.testBit k) (g2 := fun k => q.testBit k) (fun k hk => ?_) fun k hk => ?_]
  · simp only [Int.toNat_natCast]
    by_cases c : t < 8
    · rw [if_pos c, List.set_append, if_pos (by rw [told_length]; exact c), made_two h1 h2 _ _ (by rw [List.length_set]; exact told_length 8 _), m4]
      exact congr (congrArg _ (one_with ⟨8, by omega⟩ (by show 1 ≤ 8; omega) ⟨p, hp⟩ (full_one p hp) ⟨t, c⟩ c is)) (id_one m1 m2 hq h)
    · rw [if_neg c, List.set_append, if_neg (by rw [told_length]; exact c), told_length, made_two h1 h2 _ _ (told_length 8 _), m4]
      exact congr (congrArg _ (id_one (m := 8) (by omega) (by omega) hp (full_one p hp))) (one_with ⟨m, by omega⟩ m1 ⟨q, hq⟩ h ⟨t - 8, by omega⟩ (by show t - 8 < m; omega) is)
  · rw [inB2lo p k _ hk]
  · rw [inB2hi _ q k (by omega)]
theorem or_byte {n : Int} {p u : Nat} (h1 : 1 ≤ n) (h2 : n ≤ 8) (hp : p < 256) (hu : u < 256) (h : mayB n [(p : Int)] = true) (g : mayB n [(u : Int)] = true) : orL n [(p : Int)] [(u : Int)] = [orN p u] := by
  obtain ⟨m, rfl⟩ : ∃ m : Nat, n = m := ⟨n.toNat, by omega⟩
  unfold orL
  rw [Int.toNat_natCast, told_congr (g := fun k => p.testBit k || u.testBit k) fun k hk => by unfold inOr; rw [inB1 p k (by omega), inB1 u k (by omega)]]
  exact or_one (by omega) (by omega) hp hu h g
theorem less_byte {n : Int} {p u : Nat} (h1 : 1 ≤ n) (h2 : n ≤ 8) (hp : p < 256) (h : mayB n [(p : Int)] = true) : lessL n [(p : Int)] [(u : Int)] = [andN p u] := by
  obtain ⟨m, rfl⟩ : ∃ m : Nat, n = m := ⟨n.toNat, by omega⟩
  unfold lessL
  rw [Int.toNat_natCast, told_congr (g := fun k => p.testBit k && !u.testBit k) fun k hk => by unfold inNot; rw [inB1 p k (by omega), inB1 u k (by omega)]]
  exact not_one (by omega) (by omega) hp h
theorem with_byte {n : Int} {p t : Nat} {is : Bool} (h1 : 1 ≤ n) (h2 : n ≤ 8) (hp : p < 256) (h : mayB n [(p : Int)] = true) (ht : (t : Int) < n) : withL n [(p : Int)] t is = [putB p t is] := by
  obtain ⟨m, rfl⟩ : ∃ m : Nat, n = m := ⟨n.toNat, by omega⟩
  unfold withL
  rw [Int.toNat_natCast, Int.toNat_natCast, told_one m p (by omega)]
  exact one_with ⟨m, by omega⟩ (by show 1 ≤ m; omega) ⟨p, hp⟩ h ⟨t, by omega⟩ (by show t < m; omega) is

end
end Go.Proofs.Ytifgifhbefhkmaa.VM
