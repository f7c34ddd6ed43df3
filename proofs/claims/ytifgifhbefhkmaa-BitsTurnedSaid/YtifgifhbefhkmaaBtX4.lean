/- Sets of tracks turned: the law, told. No conditions. -/
import Derived.Test.YtifgifhbefhkmaaProg
import Derived.KernelRfl
import Derived.Test.YtifgifhbefhkmaaBtX3
/- Sets of tracks turned: the law, told. No conditions. -/
namespace Go.Proofs.Ytifgifhbefhkmaa.VM
open Go Go.RowKit
set_option linter.unusedVariables false
set_option linter.unusedSimpArgs false
set_option maxRecDepth 100000
noncomputable section
def sxF (p p' o o' m m' : SCall) : SX := ⟨rowT, ctOf [(8, p), (9, p'), (10, o), (11, o'), (12, m), (13, m')], lpOf []⟩
def rows2 (l : SV) (e : Int) : SV := .tup [l, .int .i64 (.lit e)]
theorem vc_E22 (n : Int) (a b : List Int) (t : Int) (is : Bool) : (scallI (sxF (oneB (argP n (row a) t is) (errB 2) ([])) (oneC (argP n (row a) t is) (rows2 (lit0) 2)) (oneB (argO n (row a) (row b)) (errB 2) ([])) (oneC (argO n (row a) (row b)) (rows2 (lit0) 2)) (oneB (argO n (row a) (row b)) (errB 2) ([])) (oneC (argO n (row a) (row b)) (rows2 (lit0) 2))) Try.prog cf0 (sexec (sxF (oneB (argP n (row a) t is) (errB 2) ([])) (oneC (argP n (row a) t is) (rows2 (lit0) 2)) (oneB (argO n (row a) (row b)) (errB 2) ([])) (oneC (argO n (row a) (row b)) (rows2 (lit0) 2)) (oneB (argO n (row a) (row b)) (errB 2) ([])) (oneC (argO n (row a) (row b)) (rows2 (lit0) 2))) Try.prog cf0 1000) 3 0 [.int .i64 (.sym n), row a, row b, .int .i64 (.sym t), .bool (.sym (is = true))] (post (.bool (.lit true)))) = (((100 : Int) < (↑(List.length a) : Int) → true = true) ∧ (¬(100 : Int) < (↑(List.length a) : Int) → ((100 : Int) < (↑(List.length b) : Int) → true = true) ∧ (¬(100 : Int) < (↑(List.length b) : Int) →
List.length a ≤ List.length a ∧ List.length a ≤ (1099511627776 : Nat) ∧ List.length b ≤ List.length b ∧ List.length b ≤ (1099511627776 : Nat) ∧ List.length a ≤ List.length (List.take (List.length a)
(rdrop (SN.lit (0 : Nat)) a)) ∧ (n = n ∧ (List.length a = List.length a ∧ SC.rows eB (1 : Nat) (1 : Nat) true (List.take (List.length a) (rdrop (SN.lit (0 : Nat)) (List.take (List.length a) (rdrop
(SN.lit (0 : Nat)) a)))) = SC.rows eB (1 : Nat) (1 : Nat) true a) ∧ t = t ∧ (is = true ↔ is = true) ∧ True) ∧ ∃ (y5 : Unit), (n = n ∧ (List.length a = List.length a ∧ SC.rows eB (1 : Nat) (1 : Nat)
true a = SC.rows eB (1 : Nat) (1 : Nat) true a) ∧ t = t ∧ (is = true ↔ is = true) ∧ True) ∧ True ∧ List.length a ≤ List.length (List.take (List.length a) (rdrop (SN.lit (0 : Nat)) a)) ∧ List.length b
≤ List.length (List.take (List.length b) (rdrop (SN.lit (0 : Nat)) b)) ∧ (n = n ∧ (List.length a = List.length a ∧ SC.rows eB (1 : Nat) (1 : Nat) true (List.take (List.length a) (rdrop (SN.lit (0 :
Nat)) (List.take (List.length a) (rdrop (SN.lit (0 : Nat)) a)))) = SC.rows eB (1 : Nat) (1 : Nat) true a) ∧ (List.length b = List.length b ∧ SC.rows eB (1 : Nat) (1 : Nat) true (List.take (List.length
b) (rdrop (SN.lit (0 : Nat)) (List.take (List.length b) (rdrop (SN.lit (0 : Nat)) b)))) = SC.rows eB (1 : Nat) (1 : Nat) true b) ∧ True) ∧ ∃ (y6 : Unit), (n = n ∧ (List.length a = List.length a ∧
SC.rows eB (1 : Nat) (1 : Nat) true a = SC.rows eB (1 : Nat) (1 : Nat) true a) ∧ (List.length b = List.length b ∧ SC.rows eB (1 : Nat) (1 : Nat) true b = SC.rows eB (1 : Nat) (1 : Nat) true b) ∧ True)
∧ True ∧ List.length a ≤ List.length (List.take (List.length a) (rdrop (SN.lit (0 : Nat)) a)) ∧ List.length b ≤ List.length (List.take (List.length b) (rdrop (SN.lit (0 : Nat)) b)) ∧ (n = n ∧
(List.length a = List.length a ∧ SC.rows eB (1 : Nat) (1 : Nat) true (List.take (List.length a) (rdrop (SN.lit (0 : Nat)) (List.take (List.length a) (rdrop (SN.lit (0 : Nat)) a)))) = SC.rows eB (1 :
Nat) (1 : Nat) true a) ∧ (List.length b = List.length b ∧ SC.rows eB (1 : Nat) (1 : Nat) true (List.take (List.length b) (rdrop (SN.lit (0 : Nat)) (List.take (List.length b) (rdrop (SN.lit (0 : Nat))
b)))) = SC.rows eB (1 : Nat) (1 : Nat) true b) ∧ True) ∧ ∃ (y7 : Unit), (n = n ∧ (List.length a = List.length a ∧ SC.rows eB (1 : Nat) (1 : Nat) true a = SC.rows eB (1 : Nat) (1 : Nat) true a) ∧
(List.length b = List.length b ∧ SC.rows eB (1 : Nat) (1 : Nat) true b = SC.rows eB (1 : Nat) (1 : Nat) true b) ∧ True) ∧ True ∧ List.length a ≤ List.length (List.take (List.length a) (rdrop (SN.lit
(0 : Nat)) a)) ∧ ∃ (y8 : List Int), SC.rows eB (1 : Nat) (1 : Nat) true (List.take (List.length a) (rdrop (SN.lit (0 : Nat)) (List.take (List.length a) (rdrop (SN.lit (0 : Nat)) a)))) = SC.rows eB (1
: Nat) (1 : Nat) true y8 ∧ List.length a ≤ List.length a ∧ ∃ (y9 : List Int), SC.rows eB (1 : Nat) (1 : Nat) true (List.take (List.length a) (rdrop (SN.lit (0 : Nat)) a)) = SC.rows eB (1 : Nat) (1 :
Nat) true y9 ∧ isBytes y8 ∧ isBytes y9 ∧ (y8 = y9 → List.length b ≤ List.length (List.take (List.length b) (rdrop (SN.lit (0 : Nat)) b)) ∧ ∃ (y10 : List Int), SC.rows eB (1 : Nat) (1 : Nat) true
(List.take (List.length b) (rdrop (SN.lit (0 : Nat)) (List.take (List.length b) (rdrop (SN.lit (0 : Nat)) b)))) = SC.rows eB (1 : Nat) (1 : Nat) true y10 ∧ List.length b ≤ List.length b ∧ ∃ (y11 :
List Int), SC.rows eB (1 : Nat) (1 : Nat) true (List.take (List.length b) (rdrop (SN.lit (0 : Nat)) b)) = SC.rows eB (1 : Nat) (1 : Nat) true y11 ∧ isBytes y10 ∧ isBytes y11 ∧ (y10 = y11 ↔ true =
true)) ∧ (¬y8 = y9 → false = true)))) := by kernel_rfl
theorem vc_E88 (n : Int) (a b : List Int) (t : Int) (is : Bool) : (scallI (sxF (oneB (argP n (row a) t is) (errB 8) ([])) (oneC (argP n (row a) t is) (rows2 (lit0) 8)) (oneB (argO n (row a) (row b)) (errB 8) ([])) (oneC (argO n (row a) (row b)) (rows2 (lit0) 8)) (oneB (argO n (row a) (row b)) (errB 8) ([])) (oneC (argO n (row a) (row b)) (rows2 (lit0) 8))) Try.prog cf0 (sexec (sxF (oneB (argP n (row a) t is) (errB 8) ([])) (oneC (argP n (row a) t is) (rows2 (lit0) 8)) (oneB (argO n (row a) (row b)) (errB 8) ([])) (oneC (argO n (row a) (row b)) (rows2 (lit0) 8)) (oneB (argO n (row a) (row b)) (errB 8) ([])) (oneC (argO n (row a) (row b)) (rows2 (lit0) 8))) Try.prog cf0 1000) 3 0 [.int .i64 (.sym n), row a, row b, .int .i64 (.sym t), .bool (.sym (is = true))] (post (.bool (.lit true)))) = (((100 : Int) < (↑(List.length a) : Int) → true = true) ∧ (¬(100 : Int) < (↑(List.length a) : Int) → ((100 : Int) < (↑(List.length b) : Int) → true = true) ∧ (¬(100 : Int) < (↑(List.length b) : Int) →
List.length a ≤ List.length a ∧ List.length a ≤ (1099511627776 : Nat) ∧ List.length b ≤ List.length b ∧ List.length b ≤ (1099511627776 : Nat) ∧ List.length a ≤ List.length (List.take (List.length a)
(rdrop (SN.lit (0 : Nat)) a)) ∧ (n = n ∧ (List.length a = List.length a ∧ SC.rows eB (1 : Nat) (1 : Nat) true (List.take (List.length a) (rdrop (SN.lit (0 : Nat)) (List.take (List.length a) (rdrop
(SN.lit (0 : Nat)) a)))) = SC.rows eB (1 : Nat) (1 : Nat) true a) ∧ t = t ∧ (is = true ↔ is = true) ∧ True) ∧ ∃ (y5 : Unit), (n = n ∧ (List.length a = List.length a ∧ SC.rows eB (1 : Nat) (1 : Nat)
true a = SC.rows eB (1 : Nat) (1 : Nat) true a) ∧ t = t ∧ (is = true ↔ is = true) ∧ True) ∧ True ∧ List.length a ≤ List.length (List.take (List.length a) (rdrop (SN.lit (0 : Nat)) a)) ∧ List.length b
≤ List.length (List.take (List.length b) (rdrop (SN.lit (0 : Nat)) b)) ∧ (n = n ∧ (List.length a = List.length a ∧ SC.rows eB (1 : Nat) (1 : Nat) true (List.take (List.length a) (rdrop (SN.lit (0 :
Nat)) (List.take (List.length a) (rdrop (SN.lit (0 : Nat)) a)))) = SC.rows eB (1 : Nat) (1 : Nat) true a) ∧ (List.length b = List.length b ∧ SC.rows eB (1 : Nat) (1 : Nat) true (List.take (List.length
b) (rdrop (SN.lit (0 : Nat)) (List.take (List.length b) (rdrop (SN.lit (0 : Nat)) b)))) = SC.rows eB (1 : Nat) (1 : Nat) true b) ∧ True) ∧ ∃ (y6 : Unit), (n = n ∧ (List.length a = List.length a ∧
SC.rows eB (1 : Nat) (1 : Nat) true a = SC.rows eB (1 : Nat) (1 : Nat) true a) ∧ (List.length b = List.length b ∧ SC.rows eB (1 : Nat) (1 : Nat) true b = SC.rows eB (1 : Nat) (1 : Nat) true b) ∧ True)
∧ True ∧ List.length a ≤ List.length (List.take (List.length a) (rdrop (SN.lit (0 : Nat)) a)) ∧ List.length b ≤ List.length (List.take (List.length b) (rdrop (SN.lit (0 : Nat)) b)) ∧ (n = n ∧
(List.length a = List.length a ∧ SC.rows eB (1 : Nat) (1 : Nat) true (List.take (List.length a) (rdrop (SN.lit (0 : Nat)) (List.take (List.length a) (rdrop (SN.lit (0 : Nat)) a)))) = SC.rows eB (1 :
Nat) (1 : Nat) true a) ∧ (List.length b = List.length b ∧ SC.rows eB (1 : Nat) (1 : Nat) true (List.take (List.length b) (rdrop (SN.lit (0 : Nat)) (List.take (List.length b) (rdrop (SN.lit (0 : Nat))
b)))) = SC.rows eB (1 : Nat) (1 : Nat) true b) ∧ True) ∧ ∃ (y7 : Unit), (n = n ∧ (List.length a = List.length a ∧ SC.rows eB (1 : Nat) (1 : Nat) true a = SC.rows eB (1 : Nat) (1 : Nat) true a) ∧
(List.length b = List.length b ∧ SC.rows eB (1 : Nat) (1 : Nat) true b = SC.rows eB (1 : Nat) (1 : Nat) true b) ∧ True) ∧ True ∧ List.length a ≤ List.length (List.take (List.length a) (rdrop (SN.lit
(0 : Nat)) a)) ∧ ∃ (y8 : List Int), SC.rows eB (1 : Nat) (1 : Nat) true (List.take (List.length a) (rdrop (SN.lit (0 : Nat)) (List.take (List.length a) (rdrop (SN.lit (0 : Nat)) a)))) = SC.rows eB (1
: Nat) (1 : Nat) true y8 ∧ List.length a ≤ List.length a ∧ ∃ (y9 : List Int), SC.rows eB (1 : Nat) (1 : Nat) true (List.take (List.length a) (rdrop (SN.lit (0 : Nat)) a)) = SC.rows eB (1 : Nat) (1 :
Nat) true y9 ∧ isBytes y8 ∧ isBytes y9 ∧ (y8 = y9 → List.length b ≤ List.length (List.take (List.length b) (rdrop (SN.lit (0 : Nat)) b)) ∧ ∃ (y10 : List Int), SC.rows eB (1 : Nat) (1 : Nat) true
(List.take (List.length b) (rdrop (SN.lit (0 : Nat)) (List.take (List.length b) (rdrop (SN.lit (0 : Nat)) b)))) = SC.rows eB (1 : Nat) (1 : Nat) true y10 ∧ List.length b ≤ List.length b ∧ ∃ (y11 :
List Int), SC.rows eB (1 : Nat) (1 : Nat) true (List.take (List.length b) (rdrop (SN.lit (0 : Nat)) b)) = SC.rows eB (1 : Nat) (1 : Nat) true y11 ∧ isBytes y10 ∧ isBytes y11 ∧ (y10 = y11 ↔ true =
true)) ∧ (¬y8 = y9 → false = true)))) := by kernel_rfl
theorem vc_E28 (n : Int) (a b : List Int) (t : Int) (is : Bool) : (scallI (sxF (oneB (argP n (row a) t is) (errB 2) ([])) (oneC (argP n (row a) t is) (rows2 (lit0) 2)) (oneB (argO n (row a) (row b)) (errB 8) ([])) (oneC (argO n (row a) (row b)) (rows2 (lit0) 8)) (oneB (argO n (row a) (row b)) (errB 8) ([])) (oneC (argO n (row a) (row b)) (rows2 (lit0) 8))) Try.prog cf0 (sexec (sxF (oneB (argP n (row a) t is) (errB 2) ([])) (oneC (argP n (row a) t is) (rows2 (lit0) 2)) (oneB (argO n (row a) (row b)) (errB 8) ([])) (oneC (argO n (row a) (row b)) (rows2 (lit0) 8)) (oneB (argO n (row a) (row b)) (errB 8) ([])) (oneC (argO n (row a) (row b)) (rows2 (lit0) 8))) Try.prog cf0 1000) 3 0 [.int .i64 (.sym n), row a, row b, .int .i64 (.sym t), .bool (.sym (is = true))] (post (.bool (.lit true)))) = (((100 : Int) < (↑(List.length a) : Int) → true = true) ∧ (¬(100 : Int) < (↑(List.length a) : Int) → ((100 : Int) < (↑(List.length b) : Int) → true = true) ∧ (¬(100 : Int) < (↑(List.length b) : Int) →
List.length a ≤ List.length a ∧ List.length a ≤ (1099511627776 : Nat) ∧ List.length b ≤ List.length b ∧ List.length b ≤ (1099511627776 : Nat) ∧ List.length a ≤ List.length (List.take (List.length a)
(rdrop (SN.lit (0 : Nat)) a)) ∧ (n = n ∧ (List.length a = List.length a ∧ SC.rows eB (1 : Nat) (1 : Nat) true (List.take (List.length a) (rdrop (SN.lit (0 : Nat)) (List.take (List.length a) (rdrop
(SN.lit (0 : Nat)) a)))) = SC.rows eB (1 : Nat) (1 : Nat) true a) ∧ t = t ∧ (is = true ↔ is = true) ∧ True) ∧ ∃ (y5 : Unit), (n = n ∧ (List.length a = List.length a ∧ SC.rows eB (1 : Nat) (1 : Nat)
true a = SC.rows eB (1 : Nat) (1 : Nat) true a) ∧ t = t ∧ (is = true ↔ is = true) ∧ True) ∧ True ∧ List.length a ≤ List.length (List.take (List.length a) (rdrop (SN.lit (0 : Nat)) a)) ∧ List.length b
≤ List.length (List.take (List.length b) (rdrop (SN.lit (0 : Nat)) b)) ∧ (n = n ∧ (List.length a = List.length a ∧ SC.rows eB (1 : Nat) (1 : Nat) true (List.take (List.length a) (rdrop (SN.lit (0 :
Nat)) (List.take (List.length a) (rdrop (SN.lit (0 : Nat)) a)))) = SC.rows eB (1 : Nat) (1 : Nat) true a) ∧ (List.length b = List.length b ∧ SC.rows eB (1 : Nat) (1 : Nat) true (List.take (List.length
b) (rdrop (SN.lit (0 : Nat)) (List.take (List.length b) (rdrop (SN.lit (0 : Nat)) b)))) = SC.rows eB (1 : Nat) (1 : Nat) true b) ∧ True) ∧ ∃ (y6 : Unit), (n = n ∧ (List.length a = List.length a ∧
SC.rows eB (1 : Nat) (1 : Nat) true a = SC.rows eB (1 : Nat) (1 : Nat) true a) ∧ (List.length b = List.length b ∧ SC.rows eB (1 : Nat) (1 : Nat) true b = SC.rows eB (1 : Nat) (1 : Nat) true b) ∧ True)
∧ True ∧ List.length a ≤ List.length (List.take (List.length a) (rdrop (SN.lit (0 : Nat)) a)) ∧ List.length b ≤ List.length (List.take (List.length b) (rdrop (SN.lit (0 : Nat)) b)) ∧ (n = n ∧
(List.length a = List.length a ∧ SC.rows eB (1 : Nat) (1 : Nat) true (List.take (List.length a) (rdrop (SN.lit (0 : Nat)) (List.take (List.length a) (rdrop (SN.lit (0 : Nat)) a)))) = SC.rows eB (1 :
Nat) (1 : Nat) true a) ∧ (List.length b = List.length b ∧ SC.rows eB (1 : Nat) (1 : Nat) true (List.take (List.length b) (rdrop (SN.lit (0 : Nat)) (List.take (List.length b) (rdrop (SN.lit (0 : Nat))
b)))) = SC.rows eB (1 : Nat) (1 : Nat) true b) ∧ True) ∧ ∃ (y7 : Unit), (n = n ∧ (List.length a = List.length a ∧ SC.rows eB (1 : Nat) (1 : Nat) true a = SC.rows eB (1 : Nat) (1 : Nat) true a) ∧
(List.length b = List.length b ∧ SC.rows eB (1 : Nat) (1 : Nat) true b = SC.rows eB (1 : Nat) (1 : Nat) true b) ∧ True) ∧ True ∧ List.length a ≤ List.length (List.take (List.length a) (rdrop (SN.lit
(0 : Nat)) a)) ∧ ∃ (y8 : List Int), SC.rows eB (1 : Nat) (1 : Nat) true (List.take (List.length a) (rdrop (SN.lit (0 : Nat)) (List.take (List.length a) (rdrop (SN.lit (0 : Nat)) a)))) = SC.rows eB (1
: Nat) (1 : Nat) true y8 ∧ List.length a ≤ List.length a ∧ ∃ (y9 : List Int), SC.rows eB (1 : Nat) (1 : Nat) true (List.take (List.length a) (rdrop (SN.lit (0 : Nat)) a)) = SC.rows eB (1 : Nat) (1 :
Nat) true y9 ∧ isBytes y8 ∧ isBytes y9 ∧ (y8 = y9 → List.length b ≤ List.length (List.take (List.length b) (rdrop (SN.lit (0 : Nat)) b)) ∧ ∃ (y10 : List Int), SC.rows eB (1 : Nat) (1 : Nat) true
(List.take (List.length b) (rdrop (SN.lit (0 : Nat)) (List.take (List.length b) (rdrop (SN.lit (0 : Nat)) b)))) = SC.rows eB (1 : Nat) (1 : Nat) true y10 ∧ List.length b ≤ List.length b ∧ ∃ (y11 :
List Int), SC.rows eB (1 : Nat) (1 : Nat) true (List.take (List.length b) (rdrop (SN.lit (0 : Nat)) b)) = SC.rows eB (1 : Nat) (1 : Nat) true y11 ∧ isBytes y10 ∧ isBytes y11 ∧ (y10 = y11 ↔ true =
true)) ∧ (¬y8 = y9 → false = true)))) := by kernel_rfl
theorem vc_F1 (n : Int) (p : Int) (b : List Int) (x : Int) (t : Int) (is : Bool) : (scallI (sxF (oneB (argP n (lit1 p) t is) (okB 1) (blk [byt x])) (oneC (argP n (lit1 p) t is) (rows2 (lit1 x) 0)) (oneB (argO n (row [p]) (row b)) (errB 8) ([])) (oneC (argO n (row [p]) (row b)) (rows2 (lit0) 8)) (oneB (argO n (row [p]) (row b)) (errB 8) ([])) (oneC (argO n (row [p]) (row b)) (rows2 (lit0) 8))) Try.prog cf0 (sexec (sxF (oneB (argP n (lit1 p) t is) (okB 1) (blk [byt x])) (oneC (argP n (lit1 p) t is) (rows2 (lit1 x) 0)) (oneB (argO n (row [p]) (row b)) (errB 8) ([])) (oneC (argO n (row [p]) (row b)) (rows2 (lit0) 8)) (oneB (argO n (row [p]) (row b)) (errB 8) ([])) (oneC (argO n (row [p]) (row b)) (rows2 (lit0) 8))) Try.prog cf0 1000) 3 0 [.int .i64 (.sym n), lit1 p, row b, .int .i64 (.sym t), .bool (.sym (is = true))] (post (.bool (.lit true)))) = (((100 : Int) < (↑(List.length b) : Int) → true = true) ∧ (¬(100 : Int) < (↑(List.length b) : Int) → List.length b ≤ List.length b ∧ List.length b ≤ (1099511627776 : Nat) ∧ (n = n ∧ ((1 : Nat) = (1 :
Nat) ∧ p = p ∧ True) ∧ t = t ∧ (is = true ↔ is = true) ∧ True) ∧ ∃ (y6 : Unit), (n = n ∧ ((1 : Nat) = (1 : Nat) ∧ p = p ∧ True) ∧ t = t ∧ (is = true ↔ is = true) ∧ True) ∧ True ∧ List.length b ≤
List.length (List.take (List.length b) (rdrop (SN.lit (0 : Nat)) b)) ∧ (n = n ∧ ((1 : Nat) = List.length [p] ∧ ROK eB (1 : Nat) (1 : Nat) true ∧ p = p ∧ True) ∧ (List.length b = List.length b ∧
SC.rows eB (1 : Nat) (1 : Nat) true (List.take (List.length b) (rdrop (SN.lit (0 : Nat)) (List.take (List.length b) (rdrop (SN.lit (0 : Nat)) b)))) = SC.rows eB (1 : Nat) (1 : Nat) true b) ∧ True) ∧ ∃
(y7 : Unit), (n = n ∧ ((1 : Nat) = List.length [p] ∧ ROK eB (1 : Nat) (1 : Nat) true ∧ p = p ∧ True) ∧ (List.length b = List.length b ∧ SC.rows eB (1 : Nat) (1 : Nat) true b = SC.rows eB (1 : Nat) (1
: Nat) true b) ∧ True) ∧ True ∧ List.length b ≤ List.length (List.take (List.length b) (rdrop (SN.lit (0 : Nat)) b)) ∧ (n = n ∧ ((1 : Nat) = List.length [p] ∧ ROK eB (1 : Nat) (1 : Nat) true ∧ p = p ∧
True) ∧ (List.length b = List.length b ∧ SC.rows eB (1 : Nat) (1 : Nat) true (List.take (List.length b) (rdrop (SN.lit (0 : Nat)) (List.take (List.length b) (rdrop (SN.lit (0 : Nat)) b)))) = SC.rows
eB (1 : Nat) (1 : Nat) true b) ∧ True) ∧ ∃ (y8 : Unit), (n = n ∧ ((1 : Nat) = List.length [p] ∧ ROK eB (1 : Nat) (1 : Nat) true ∧ p = p ∧ True) ∧ (List.length b = List.length b ∧ SC.rows eB (1 : Nat)
(1 : Nat) true b = SC.rows eB (1 : Nat) (1 : Nat) true b) ∧ True) ∧ True ∧ isBytes [x] ∧ isBytes [x] ∧ ([x] = [x] → isBytes [p] ∧ isBytes [p] ∧ ([p] = [p] → List.length b ≤ List.length (List.take
(List.length b) (rdrop (SN.lit (0 : Nat)) b)) ∧ ∃ (y9 : List Int), SC.rows eB (1 : Nat) (1 : Nat) true (List.take (List.length b) (rdrop (SN.lit (0 : Nat)) (List.take (List.length b) (rdrop (SN.lit (0
: Nat)) b)))) = SC.rows eB (1 : Nat) (1 : Nat) true y9 ∧ List.length b ≤ List.length b ∧ ∃ (y10 : List Int), SC.rows eB (1 : Nat) (1 : Nat) true (List.take (List.length b) (rdrop (SN.lit (0 : Nat))
b)) = SC.rows eB (1 : Nat) (1 : Nat) true y10 ∧ isBytes y9 ∧ isBytes y10 ∧ (y9 = y10 ↔ true = true)) ∧ (¬[p] = [p] → false = true)) ∧ (¬[x] = [x] → false = true))) := by kernel_rfl
theorem vc_F2 (n : Int) (p q : Int) (b : List Int) (x x2 : Int) (t : Int) (is : Bool) : (scallI (sxF (oneB (argP n (lit2 p q) t is) (okB 2) (blk [byt x, byt x2])) (oneC (argP n (lit2 p q) t is) (rows2 (lit2 x x2) 0)) (oneB (argO n (row [p, q]) (row b)) (errB 8) ([])) (oneC (argO n (row [p, q]) (row b)) (rows2 (lit0) 8)) (oneB (argO n (row [p, q]) (row b)) (errB 8) ([])) (oneC (argO n (row [p, q]) (row b)) (rows2 (lit0) 8))) Try.prog cf0 (sexec (sxF (oneB (argP n (lit2 p q) t is) (okB 2) (blk [byt x, byt x2])) (oneC (argP n (lit2 p q) t is) (rows2 (lit2 x x2) 0)) (oneB (argO n (row [p, q]) (row b)) (errB 8) ([])) (oneC (argO n (row [p, q]) (row b)) (rows2 (lit0) 8)) (oneB (argO n (row [p, q]) (row b)) (errB 8) ([])) (oneC (argO n (row [p, q]) (row b)) (rows2 (lit0) 8))) Try.prog cf0 1000) 3 0 [.int .i64 (.sym n), lit2 p q, row b, .int .i64 (.sym t), .bool (.sym (is = true))] (post (.bool (.lit true)))) = (((100 : Int) < (↑(List.length b) : Int) → true = true) ∧ (¬(100 : Int) < (↑(List.length b) : Int) → List.length b ≤ List.length b ∧ List.length b ≤ (1099511627776 : Nat) ∧ (n = n ∧ ((2 : Nat) = (2 :
Nat) ∧ p = p ∧ q = q ∧ True) ∧ t = t ∧ (is = true ↔ is = true) ∧ True) ∧ ∃ (y8 : Unit), (n = n ∧ ((2 : Nat) = (2 : Nat) ∧ p = p ∧ q = q ∧ True) ∧ t = t ∧ (is = true ↔ is = true) ∧ True) ∧ True ∧
List.length b ≤ List.length (List.take (List.length b) (rdrop (SN.lit (0 : Nat)) b)) ∧ (n = n ∧ ((2 : Nat) = List.length [p, q] ∧ ROK eB (1 : Nat) (1 : Nat) true ∧ p = p ∧ q = q ∧ True) ∧ (List.length
b = List.length b ∧ SC.rows eB (1 : Nat) (1 : Nat) true (List.take (List.length b) (rdrop (SN.lit (0 : Nat)) (List.take (List.length b) (rdrop (SN.lit (0 : Nat)) b)))) = SC.rows eB (1 : Nat) (1 : Nat)
true b) ∧ True) ∧ ∃ (y9 : Unit), (n = n ∧ ((2 : Nat) = List.length [p, q] ∧ ROK eB (1 : Nat) (1 : Nat) true ∧ p = p ∧ q = q ∧ True) ∧ (List.length b = List.length b ∧ SC.rows eB (1 : Nat) (1 : Nat)
true b = SC.rows eB (1 : Nat) (1 : Nat) true b) ∧ True) ∧ True ∧ List.length b ≤ List.length (List.take (List.length b) (rdrop (SN.lit (0 : Nat)) b)) ∧ (n = n ∧ ((2 : Nat) = List.length [p, q] ∧ ROK
eB (1 : Nat) (1 : Nat) true ∧ p = p ∧ q = q ∧ True) ∧ (List.length b = List.length b ∧ SC.rows eB (1 : Nat) (1 : Nat) true (List.take (List.length b) (rdrop (SN.lit (0 : Nat)) (List.take (List.length
b) (rdrop (SN.lit (0 : Nat)) b)))) = SC.rows eB (1 : Nat) (1 : Nat) true b) ∧ True) ∧ ∃ (y10 : Unit), (n = n ∧ ((2 : Nat) = List.length [p, q] ∧ ROK eB (1 : Nat) (1 : Nat) true ∧ p = p ∧ q = q ∧ True)
∧ (List.length b = List.length b ∧ SC.rows eB (1 : Nat) (1 : Nat) true b = SC.rows eB (1 : Nat) (1 : Nat) true b) ∧ True) ∧ True ∧ isBytes [x, x2] ∧ isBytes [x, x2] ∧ ([x, x2] = [x, x2] → isBytes [p,
q] ∧ isBytes [p, q] ∧ ([p, q] = [p, q] → List.length b ≤ List.length (List.take (List.length b) (rdrop (SN.lit (0 : Nat)) b)) ∧ ∃ (y11 : List Int), SC.rows eB (1 : Nat) (1 : Nat) true (List.take
(List.length b) (rdrop (SN.lit (0 : Nat)) (List.take (List.length b) (rdrop (SN.lit (0 : Nat)) b)))) = SC.rows eB (1 : Nat) (1 : Nat) true y11 ∧ List.length b ≤ List.length b ∧ ∃ (y12 : List Int),
SC.rows eB (1 : Nat) (1 : Nat) true (List.take (List.length b) (rdrop (SN.lit (0 : Nat)) b)) = SC.rows eB (1 : Nat) (1 : Nat) true y12 ∧ isBytes y11 ∧ isBytes y12 ∧ (y11 = y12 ↔ true = true)) ∧ (¬[p,
q] = [p, q] → false = true)) ∧ (¬[x, x2] = [x, x2] → false = true))) := by kernel_rfl
theorem vc_G1 (n : Int) (p u c m : Int) (t : Int) (is : Bool) : (scallI (sxF (oneB (argP n (row [p]) t is) (errB 2) ([])) (oneC (argP n (row [p]) t is) (rows2 (lit0) 2)) (oneB (argO n (lit1 p) (lit1 u)) (okB 1) (blk [byt c])) (oneC (argO n (lit1 p) (lit1 u)) (rows2 (lit1 c) 0)) (oneB (argO n (lit1 p) (lit1 u)) (okB 1) (blk [byt m])) (oneC (argO n (lit1 p) (lit1 u)) (rows2 (lit1 m) 0))) Try.prog cf0 (sexec (sxF (oneB (argP n (row [p]) t is) (errB 2) ([])) (oneC (argP n (row [p]) t is) (rows2 (lit0) 2)) (oneB (argO n (lit1 p) (lit1 u)) (okB 1) (blk [byt c])) (oneC (argO n (lit1 p) (lit1 u)) (rows2 (lit1 c) 0)) (oneB (argO n (lit1 p) (lit1 u)) (okB 1) (blk [byt m])) (oneC (argO n (lit1 p) (lit1 u)) (rows2 (lit1 m) 0))) Try.prog cf0 1000) 3 0 [.int .i64 (.sym n), lit1 p, lit1 u, .int .i64 (.sym t), .bool (.sym (is = true))] (post (.bool (.lit true)))) = ((n = n ∧ ((1 : Nat) = List.length [p] ∧ ROK eB (1 : Nat) (1 : Nat) true ∧ p = p ∧ True) ∧ t = t ∧ (is = true ↔ is = true) ∧ True) ∧ ∃ (y7 : Unit), (n = n ∧ ((1 : Nat) = List.length [p] ∧ ROK eB (1 :
Nat) (1 : Nat) true ∧ p = p ∧ True) ∧ t = t ∧ (is = true ↔ is = true) ∧ True) ∧ True ∧ (n = n ∧ ((1 : Nat) = (1 : Nat) ∧ p = p ∧ True) ∧ ((1 : Nat) = (1 : Nat) ∧ u = u ∧ True) ∧ True) ∧ ∃ (y8 : Unit),
(n = n ∧ ((1 : Nat) = (1 : Nat) ∧ p = p ∧ True) ∧ ((1 : Nat) = (1 : Nat) ∧ u = u ∧ True) ∧ True) ∧ True ∧ (n = n ∧ ((1 : Nat) = (1 : Nat) ∧ p = p ∧ True) ∧ ((1 : Nat) = (1 : Nat) ∧ u = u ∧ True) ∧
True) ∧ ∃ (y9 : Unit), (n = n ∧ ((1 : Nat) = (1 : Nat) ∧ p = p ∧ True) ∧ ((1 : Nat) = (1 : Nat) ∧ u = u ∧ True) ∧ True) ∧ True ∧ isBytes [c] ∧ isBytes [c] ∧ ([c] = [c] → isBytes [m] ∧ isBytes [m] ∧
([m] = [m] → isBytes [p] ∧ isBytes [p] ∧ ([p] = [p] → isBytes [u] ∧ isBytes [u] ∧ ([u] = [u] ↔ true = true)) ∧ (¬[p] = [p] → false = true)) ∧ (¬[m] = [m] → false = true)) ∧ (¬[c] = [c] → false = true)) := by kernel_rfl
theorem vc_G2 (n : Int) (p q u w c c2 m m2 : Int) (t : Int) (is : Bool) : (scallI (sxF (oneB (argP n (row [p, q]) t is) (errB 2) ([])) (oneC (argP n (row [p, q]) t is) (rows2 (lit0) 2)) (oneB (argO n (lit2 p q) (lit2 u w)) (okB 2) (blk [byt c, byt c2])) (oneC (argO n (lit2 p q) (lit2 u w)) (rows2 (lit2 c c2) 0)) (oneB (argO n (lit2 p q) (lit2 u w)) (okB 2) (blk [byt m, byt m2])) (oneC (argO n (lit2 p q) (lit2 u w)) (rows2 (lit2 m m2) 0))) Try.prog cf0 (sexec (sxF (oneB (argP n (row [p, q]) t is) (errB 2) ([])) (oneC (argP n (row [p, q]) t is) (rows2 (lit0) 2)) (oneB (argO n (lit2 p q) (lit2 u w)) (okB 2) (blk [byt c, byt c2])) (oneC (argO n (lit2 p q) (lit2 u w)) (rows2 (lit2 c c2) 0)) (oneB (argO n (lit2 p q) (lit2 u w)) (okB 2) (blk [byt m, byt m2])) (oneC (argO n (lit2 p q) (lit2 u w)) (rows2 (lit2 m m2) 0))) Try.prog cf0 1000) 3 0 [.int .i64 (.sym n), lit2 p q, lit2 u w, .int .i64 (.sym t), .bool (.sym (is = true))] (post (.bool (.lit true)))) = ((n = n ∧ ((2 : Nat) = List.length [p, q] ∧ ROK eB (1 : Nat) (1 : Nat) true ∧ p = p ∧ q = q ∧ True) ∧ t = t ∧ (is = true ↔ is = true) ∧ True) ∧ ∃ (y11 : Unit), (n = n ∧ ((2 : Nat) = List.length [p, q]
∧ ROK eB (1 : Nat) (1 : Nat) true ∧ p = p ∧ q = q ∧ True) ∧ t = t ∧ (is = true ↔ is = true) ∧ True) ∧ True ∧ (n = n ∧ ((2 : Nat) = (2 : Nat) ∧ p = p ∧ q = q ∧ True) ∧ ((2 : Nat) = (2 : Nat) ∧ u = u ∧
w = w ∧ True) ∧ True) ∧ ∃ (y12 : Unit), (n = n ∧ ((2 : Nat) = (2 : Nat) ∧ p = p ∧ q = q ∧ True) ∧ ((2 : Nat) = (2 : Nat) ∧ u = u ∧ w = w ∧ True) ∧ True) ∧ True ∧ (n = n ∧ ((2 : Nat) = (2 : Nat) ∧ p =
p ∧ q = q ∧ True) ∧ ((2 : Nat) = (2 : Nat) ∧ u = u ∧ w = w ∧ True) ∧ True) ∧ ∃ (y13 : Unit), (n = n ∧ ((2 : Nat) = (2 : Nat) ∧ p = p ∧ q = q ∧ True) ∧ ((2 : Nat) = (2 : Nat) ∧ u = u ∧ w = w ∧ True) ∧
True) ∧ True ∧ isBytes [c, c2] ∧ isBytes [c, c2] ∧ ([c, c2] = [c, c2] → isBytes [m, m2] ∧ isBytes [m, m2] ∧ ([m, m2] = [m, m2] → isBytes [p, q] ∧ isBytes [p, q] ∧ ([p, q] = [p, q] → isBytes [u, w] ∧
isBytes [u, w] ∧ ([u, w] = [u, w] ↔ true = true)) ∧ (¬[p, q] = [p, q] → false = true)) ∧ (¬[m, m2] = [m, m2] → false = true)) ∧ (¬[c, c2] = [c, c2] → false = true)) := by kernel_rfl
theorem vc_H1 (n : Int) (p u x c m : Int) (t : Int) (is : Bool) : (scallI (sxF (oneB (argP n (lit1 p) t is) (okB 1) (blk [byt x])) (oneC (argP n (lit1 p) t is) (rows2 (lit1 x) 0)) (oneB (argO n (lit1 p) (lit1 u)) (okB 1) (blk [byt c])) (oneC (argO n (lit1 p) (lit1 u)) (rows2 (lit1 c) 0)) (oneB (argO n (lit1 p) (lit1 u)) (okB 1) (blk [byt m])) (oneC (argO n (lit1 p) (lit1 u)) (rows2 (lit1 m) 0))) Try.prog cf0 (sexec (sxF (oneB (argP n (lit1 p) t is) (okB 1) (blk [byt x])) (oneC (argP n (lit1 p) t is) (rows2 (lit1 x) 0)) (oneB (argO n (lit1 p) (lit1 u)) (okB 1) (blk [byt c])) (oneC (argO n (lit1 p) (lit1 u)) (rows2 (lit1 c) 0)) (oneB (argO n (lit1 p) (lit1 u)) (okB 1) (blk [byt m])) (oneC (argO n (lit1 p) (lit1 u)) (rows2 (lit1 m) 0))) Try.prog cf0 1000) 3 0 [.int .i64 (.sym n), lit1 p, lit1 u, .int .i64 (.sym t), .bool (.sym (is = true))] (post (.bool (.lit true)))) = ((n = n ∧ ((1 : Nat) = (1 : Nat) ∧ p = p ∧ True) ∧ t = t ∧ (is = true ↔ is = true) ∧ True) ∧ ∃ (y8 : Unit), (n = n ∧ ((1 : Nat) = (1 : Nat) ∧ p = p ∧ True) ∧ t = t ∧ (is = true ↔ is = true) ∧ True) ∧
True ∧ (n = n ∧ ((1 : Nat) = (1 : Nat) ∧ p = p ∧ True) ∧ ((1 : Nat) = (1 : Nat) ∧ u = u ∧ True) ∧ True) ∧ ∃ (y9 : Unit), (n = n ∧ ((1 : Nat) = (1 : Nat) ∧ p = p ∧ True) ∧ ((1 : Nat) = (1 : Nat) ∧ u =
u ∧ True) ∧ True) ∧ True ∧ (n = n ∧ ((1 : Nat) = (1 : Nat) ∧ p = p ∧ True) ∧ ((1 : Nat) = (1 : Nat) ∧ u = u ∧ True) ∧ True) ∧ ∃ (y10 : Unit), (n = n ∧ ((1 : Nat) = (1 : Nat) ∧ p = p ∧ True) ∧ ((1 :
Nat) = (1 : Nat) ∧ u = u ∧ True) ∧ True) ∧ True ∧ isBytes [x] ∧ isBytes [x] ∧ ([x] = [x] → isBytes [c] ∧ isBytes [c] ∧ ([c] = [c] → isBytes [m] ∧ isBytes [m] ∧ ([m] = [m] → isBytes [p] ∧ isBytes [p] ∧
([p] = [p] → isBytes [u] ∧ isBytes [u] ∧ ([u] = [u] ↔ true = true)) ∧ (¬[p] = [p] → false = true)) ∧ (¬[m] = [m] → false = true)) ∧ (¬[c] = [c] → false = true)) ∧ (¬[x] = [x] → false = true)) := by kernel_rfl
theorem vc_H2 (n : Int) (p q u w x x2 c c2 m m2 : Int) (t : Int) (is : Bool) : (scallI (sxF (oneB (argP n (lit2 p q) t is) (okB 2) (blk [byt x, byt x2])) (oneC (argP n (lit2 p q) t is) (rows2 (lit2 x x2) 0)) (oneB (argO n (lit2 p q) (lit2 u w)) (okB 2) (blk [byt c, byt c2])) (oneC (argO n (lit2 p q) (lit2 u w)) (rows2 (lit2 c c2) 0)) (oneB (argO n (lit2 p q) (lit2 u w)) (okB 2) (blk [byt m, byt m2])) (oneC (argO n (lit2 p q) (lit2 u w)) (rows2 (lit2 m m2) 0))) Try.prog cf0 (sexec (sxF (oneB (argP n (lit2 p q) t is) (okB 2) (blk [byt x, byt x2])) (oneC (argP n (lit2 p q) t is) (rows2 (lit2 x x2) 0)) (oneB (argO n (lit2 p q) (lit2 u w)) (okB 2) (blk [byt c, byt c2])) (oneC (argO n (lit2 p q) (lit2 u w)) (rows2 (lit2 c c2) 0)) (oneB (argO n (lit2 p q) (lit2 u w)) (okB 2) (blk [byt m, byt m2])) (oneC (argO n (lit2 p q) (lit2 u w)) (rows2 (lit2 m m2) 0))) Try.prog cf0 1000) 3 0 [.int .i64 (.sym n), lit2 p q, lit2 u w, .int .i64 (.sym t), .bool (.sym (is = true))] (post (.bool (.lit true)))) = ((n = n ∧ ((2 : Nat) = (2 : Nat) ∧ p = p ∧ q = q ∧ True) ∧ t = t ∧ (is = true ↔ is = true) ∧ True) ∧ ∃ (y13 : Unit), (n = n ∧ ((2 : Nat) = (2 : Nat) ∧ p = p ∧ q = q ∧ True) ∧ t = t ∧ (is = true ↔ is =
true) ∧ True) ∧ True ∧ (n = n ∧ ((2 : Nat) = (2 : Nat) ∧ p = p ∧ q = q ∧ True) ∧ ((2 : Nat) = (2 : Nat) ∧ u = u ∧ w = w ∧ True) ∧ True) ∧ ∃ (y14 : Unit), (n = n ∧ ((2 : Nat) = (2 : Nat) ∧ p = p ∧ q =
q ∧ True) ∧ ((2 : Nat) = (2 : Nat) ∧ u = u ∧ w = w ∧ True) ∧ True) ∧ True ∧ (n = n ∧ ((2 : Nat) = (2 : Nat) ∧ p = p ∧ q = q ∧ True) ∧ ((2 : Nat) = (2 : Nat) ∧ u = u ∧ w = w ∧ True) ∧ True) ∧ ∃ (y15 :
Unit), (n = n ∧ ((2 : Nat) = (2 : Nat) ∧ p = p ∧ q = q ∧ True) ∧ ((2 : Nat) = (2 : Nat) ∧ u = u ∧ w = w ∧ True) ∧ True) ∧ True ∧ isBytes [x, x2] ∧ isBytes [x, x2] ∧ ([x, x2] = [x, x2] → isBytes [c,
c2] ∧ isBytes [c, c2] ∧ ([c, c2] = [c, c2] → isBytes [m, m2] ∧ isBytes [m, m2] ∧ ([m, m2] = [m, m2] → isBytes [p, q] ∧ isBytes [p, q] ∧ ([p, q] = [p, q] → isBytes [u, w] ∧ isBytes [u, w] ∧ ([u, w] =
[u, w] ↔ true = true)) ∧ (¬[p, q] = [p, q] → false = true)) ∧ (¬[m, m2] = [m, m2] → false = true)) ∧ (¬[c, c2] = [c, c2] → false = true)) ∧ (¬[x, x2] = [x, x2] → false = true)) := by kernel_rfl
theorem vc_Big (n : Int) (a b : List Int) (t : Int) (is : Bool) : (scallI (sxF (fun _ _ _ _ => Stuck 300) (fun _ _ _ _ => Stuck 300) (fun _ _ _ _ => Stuck 300) (fun _ _ _ _ => Stuck 300) (fun _ _ _ _ => Stuck 300) (fun _ _ _ _ => Stuck 300)) Try.prog cf0 (sexec (sxF (fun _ _ _ _ => Stuck 300) (fun _ _ _ _ => Stuck 300) (fun _ _ _ _ => Stuck 300) (fun _ _ _ _ => Stuck 300) (fun _ _ _ _ => Stuck 300) (fun _ _ _ _ => Stuck 300)) Try.prog cf0 1000) 3 0 [.int .i64 (.sym n), row a, row b, .int .i64 (.sym t), .bool (.sym (is = true))] (post (.bool (.lit true)))) = (((100 : Int) < (↑(List.length a) : Int) → true = true) ∧ (¬(100 : Int) < (↑(List.length a) : Int) → ((100 : Int) < (↑(List.length b) : Int) → true = true) ∧ (¬(100 : Int) < (↑(List.length b) : Int) →
List.length a ≤ List.length a ∧ List.length a ≤ (1099511627776 : Nat) ∧ List.length b ≤ List.length b ∧ List.length b ≤ (1099511627776 : Nat) ∧ List.length a ≤ List.length (List.take (List.length a)
(rdrop (SN.lit (0 : Nat)) a)) ∧ Stuck (300 : Nat)))) := by kernel_rfl
end
end Go.Proofs.Ytifgifhbefhkmaa.VM
/- Sets of tracks turned: the law. No conditions. -/
namespace Go.Proofs.Ytifgifhbefhkmaa.VM
open Go Go.RowKit
set_option linter.unusedVariables false
set_option linter.unusedSimpArgs false
set_option maxRecDepth 100000
noncomputable section
def ctPutR : SCall := Ct (fun a : Int × List Int × Int × Bool => [.int .i64 (.sym a.1), row a.2.1, .int .i64 (.sym a.2.2.1), .bool (.sym (a.2.2.2 = true))]) (fun a => By a.2.1 ∧ a.2.1.length ≤ 1000) (fun a => .tup [row (rput a.1 a.2.1 a.2.2.1 a.2.2.2), .int .i64 (.sym (hasE a.1 a.2.1 a.2.2.1))])
def ctOrR : SCall := Ct (fun a : Int × List Int × List Int => [.int .i64 (.sym a.1), row a.2.1, row a.2.2]) (fun a => By a.2.1 ∧ By a.2.2 ∧ a.2.1.length ≤ 1000 ∧ a.2.2.length ≤ 1000) (fun a => .tup [row (ror a.1 a.2.1 a.2.2), .int .i64 (.sym (firstE a.1 a.2.1 a.2.2))])
def ctLessR : SCall := Ct (fun a : Int × List Int × List Int => [.int .i64 (.sym a.1), row a.2.1, row a.2.2]) (fun a => By a.2.1 ∧ By a.2.2 ∧ a.2.1.length ≤ 1000 ∧ a.2.2.length ≤ 1000) (fun a => .tup [row (rless a.1 a.2.1 a.2.2), .int .i64 (.sym (firstE a.1 a.2.1 a.2.2))])
theorem By2 {p q : Int} (h : By [p]) (g : By [q]) : By [p, q] := fun x hx => by
  rcases List.mem_cons.1 hx with rfl | hx
  · exact h _ (by simp)
  · exact g _ hx
theorem noBlk_nil {l : List SBlk} (h : noBlk l) : l = [] := by
  cases l with
  | nil => rfl
  | cons => cases h
theorem oneB_ok {sx : SX} {m f : Nat} {as0 as1 : List SV} {r : Nat → SV} {bl : List SBlk} {Kvc : Nat → SV → List SBlk → Prop} (hsx : SXOK Try.prog cf0 sx) (h : ∀ base, scallI sx Try.prog cf0 (sexec sx Try.prog cf0 m) f base as1 (Kvc base)) (hle : sles as0 as1) (hk : ∀ base x bs, Kvc base x bs → x = r base ∧ bs = bl) : CtOK Try.prog cf0 f (oneB as0 r bl) := by
  intro base bs K hK as' has vbase
  obtain ⟨h1, h2⟩ := hK
  obtain ⟨rv, blks, srv, sblks, hN, g1, g2, g3⟩ := scallI_of hsx (sexec_of hsx m) f base as1 _ (h base) as' (sles_rel hle (sles_rel h1 has)) vbase
  obtain ⟨rfl, rfl⟩ := hk base _ _ g1
  exact ⟨rv, blks, _, _, hN, h2, g2, g3⟩
theorem sxT_ok {f : Nat} {c : SCall} (h : CtOK Try.prog cf0 f c) : SXOK Try.prog cf0 (sxT f c) := sxok_of (all_cons h all_nil) all_nil
theorem has_ok : CtOK Try.prog cf0 18 ctHas := ct_vc (m := 1000) sxH_ok fun a h => HasB_all a.1 a.2.1 a.2.2 h.1 h.2
theorem putR_ok : CtOK Try.prog cf0 9 ctPutR := ct_vc (m := 1000) sxP_ok fun a h => Put_all a.1 a.2.1 a.2.2.1 a.2.2.2 h.1 h.2
theorem orR_ok : CtOK Try.prog cf0 11 ctOrR := ct_vc (m := 1000) sxP_ok fun a h => Or_all a.1 a.2.1 a.2.2 h.1 h.2.1 h.2.2.1 h.2.2.2
theorem lessR_ok : CtOK Try.prog cf0 13 ctLessR := ct_vc (m := 1000) sxP_ok fun a h => Minus_all a.1 a.2.1 a.2.2 h.1 h.2.1 h.2.2.1 h.2.2.2
def ctChks : SCall := Ct (fun a : Int × List Int × List Int => [.int .i64 (.sym a.1), .slI false (.lit [row a.2.1, row a.2.2]) (.lit 2) true]) (fun a => By a.2.1 ∧ By a.2.2 ∧ a.2.1.length ≤ 1000 ∧ a.2.2.length ≤ 1000) (fun a => .int .i64 (.sym (firstE a.1 a.2.1 a.2.2)))
theorem chks_ok : CtOK Try.prog cf0 49 ctChks := ct_vc (m := 1000) sxH_ok fun a h => chks_all a.1 a.2.1 a.2.2 h.1 h.2.1 h.2.2.1 h.2.2.2
/-- What may stand for a row. -/
def Stand (A : SV) (a : List Int) : Prop := ∀ n, sle (n + 2) A (row a)
theorem st0 (a : List Int) : Stand (row a) a := fun _ => ⟨rfl, rfl⟩
theorem st1 (p : Int) : Stand (lit1 p) [p] := fun _ => ⟨rfl, rokB, rfl, trivial⟩
theorem st2 (p q : Int) : Stand (lit2 p q) [p, q] := fun _ => ⟨rfl, rokB, rfl, rfl, trivial⟩
section
variable {n t : Int} {a b : List Int} {A B : SV} {is : Bool} {e : Int}
theorem c18 (hA : By a) (hl : a.length ≤ 1000) (hs : Stand A a) (h : hasE n a t = e) : CtOK Try.prog cf0 18 (one18 n A t (hasV n a t = true) e) :=
  ct_one has_ok (n, a, t) ⟨hA, hl⟩ (by show sle 12 (.tup [.bool (.sym (hasV n a t = true)), .int .i64 (.sym (hasE n a t))]) (.tup [.bool (.sym (hasV n a t = true)), .int .i64 (.lit e)]); rw [h]; exact ⟨Iff.rfl, rfl, trivial⟩) ⟨rfl, hs 10, rfl, trivial⟩
theorem c49 (hA : By a) (hB : By b) (hl : a.length ≤ 1000) (hm : b.length ≤ 1000) (hs : Stand A a) (ht : Stand B b) (h : firstE n a b = e) : CtOK Try.prog cf0 49 (one49 n A B e) :=
  ct_one chks_ok (n, a, b) ⟨hA, hB, hl, hm⟩ (by show sle 12 (.int .i64 (.sym (firstE n a b))) (.int .i64 (.lit e)); rw [h]; rfl) ⟨rfl, ⟨rfl, hs 9, ht 9, trivial⟩, trivial⟩
theorem c9 (hA : By a) (hl : a.length ≤ 1000) (hs : Stand A a) {L : SV} (hr : sle 11 (row (rput n a t is)) L) (h : hasE n a t = e) : CtOK Try.prog cf0 9 (oneC (argP n A t is) (rows2 L e)) :=
  ct_one putR_ok (n, a, t, is) ⟨hA, hl⟩ (by show sle 12 (.tup [row (rput n a t is), .int .i64 (.sym (hasE n a t))]) (.tup [L, .int .i64 (.lit e)]); rw [h]; exact ⟨hr, rfl, trivial⟩) ⟨rfl, hs 10, rfl, Iff.rfl, trivial⟩
theorem c11 (hA : By a) (hB : By b) (hl : a.length ≤ 1000) (hm : b.length ≤ 1000) (hs : Stand A a) (ht : Stand B b) {L : SV} (hr : sle 11 (row (ror n a b)) L) (h : firstE n a b = e) : CtOK Try.prog cf0 11 (oneC (argO n A B) (rows2 L e)) :=
  ct_one orR_ok (n, a, b) ⟨hA, hB, hl, hm⟩ (by show sle 12 (.tup [row (ror n a b), .int .i64 (.sym (firstE n a b))]) (.tup [L, .int .i64 (.lit e)]); rw [h]; exact ⟨hr, rfl, trivial⟩) ⟨rfl, hs 10, ht 10, trivial⟩
theorem c13 (hA : By a) (hB : By b) (hl : a.length ≤ 1000) (hm : b.length ≤ 1000) (hs : Stand A a) (ht : Stand B b) {L : SV} (hr : sle 11 (row (rless n a b)) L) (h : firstE n a b = e) : CtOK Try.prog cf0 13 (oneC (argO n A B) (rows2 L e)) :=
  ct_one lessR_ok (n, a, b) ⟨hA, hB, hl, hm⟩ (by show sle 12 (.tup [row (rless n a b), .int .i64 (.sym (firstE n a b))]) (.tup [L, .int .i64 (.lit e)]); rw [h]; exact ⟨hr, rfl, trivial⟩) ⟨rfl, hs 10, ht 10, trivial⟩
theorem nil_lit0 : sle 11 (row []) lit0 := ⟨rfl, trivial⟩
theorem c8e (hA : By a) (hl : a.length ≤ 1000) (he : e = 2 ∨ e = 8) (h : hasE n a t = e) : CtOK Try.prog cf0 8 (oneB (argP n (row a) t is) (errB e) []) := by
  rcases he with rfl | rfl
  · exact oneB_ok (m := 1000) (as1 := argP n (row a) t is) (Kvc := fun base x bs => x = errB 2 base ∧ noBlk bs) (sxT_ok (c18 hA hl (st0 a) h)) (fun base => by rw [vc_PutE2]; exact ⟨(), ⟨rfl, ⟨rfl, rfl⟩, rfl, trivial⟩, trivial, rfl, trivial⟩) ⟨rfl, st0 a 10, rfl, Iff.rfl, trivial⟩ fun _ _ _ h => ⟨h.1, noBlk_nil h.2⟩
  · exact oneB_ok (m := 1000) (as1 := argP n (row a) t is) (Kvc := fun base x bs => x = errB 8 base ∧ noBlk bs) (sxT_ok (c18 hA hl (st0 a) h)) (fun base => by rw [vc_PutE8]; exact ⟨(), ⟨rfl, ⟨rfl, rfl⟩, rfl, trivial⟩, trivial, rfl, trivial⟩) ⟨rfl, st0 a 10, rfl, Iff.rfl, trivial⟩ fun _ _ _ h => ⟨h.1, noBlk_nil h.2⟩
theorem c10e (hA : By a) (hB : By b) (hl : a.length ≤ 1000) (hm : b.length ≤ 1000) (he : e = 2 ∨ e = 8) (h : firstE n a b = e) : CtOK Try.prog cf0 10 (oneB (argO n (row a) (row b)) (errB e) []) := by
  rcases he with rfl | rfl
  · exact oneB_ok (m := 1000) (as1 := argO n (row a) (row b)) (Kvc := fun base x bs => x = errB 2 base ∧ noBlk bs) (sxT_ok (c49 hA hB hl hm (st0 a) (st0 b) h)) (fun base => by rw [vc_OrE2]; exact ⟨(), ⟨rfl, ⟨rfl, ⟨rfl, rfl⟩, ⟨rfl, rfl⟩, trivial⟩, trivial⟩, trivial, rfl, trivial⟩) ⟨rfl, st0 a 10, st0 b 10, trivial⟩ fun _ _ _ h => ⟨h.1, noBlk_nil h.2⟩
  · exact oneB_ok (m := 1000) (as1 := argO n (row a) (row b)) (Kvc := fun base x bs => x = errB 8 base ∧ noBlk bs) (sxT_ok (c49 hA hB hl hm (st0 a) (st0 b) h)) (fun base => by rw [vc_OrE8]; exact ⟨(), ⟨rfl, ⟨rfl, ⟨rfl, rfl⟩, ⟨rfl, rfl⟩, trivial⟩, trivial⟩, trivial, rfl, trivial⟩) ⟨rfl, st0 a 10, st0 b 10, trivial⟩ fun _ _ _ h => ⟨h.1, noBlk_nil h.2⟩
theorem c12e (hA : By a) (hB : By b) (hl : a.length ≤ 1000) (hm : b.length ≤ 1000) (he : e = 2 ∨ e = 8) (h : firstE n a b = e) : CtOK Try.prog cf0 12 (oneB (argO n (row a) (row b)) (errB e) []) := by
  rcases he with rfl | rfl
  · exact oneB_ok (m := 1000) (as1 := argO n (row a) (row b)) (Kvc := fun base x bs => x = errB 2 base ∧ noBlk bs) (sxT_ok (c49 hA hB hl hm (st0 a) (st0 b) h)) (fun base => by rw [vc_MiE2]; exact ⟨(), ⟨rfl, ⟨rfl, ⟨rfl, rfl⟩, ⟨rfl, rfl⟩, trivial⟩, trivial⟩, trivial, rfl, trivial⟩) ⟨rfl, st0 a 10, st0 b 10, trivial⟩ fun _ _ _ h => ⟨h.1, noBlk_nil h.2⟩
  · exact oneB_ok (m := 1000) (as1 := argO n (row a) (row b)) (Kvc := fun base x bs => x = errB 8 base ∧ noBlk bs) (sxT_ok (c49 hA hB hl hm (st0 a) (st0 b) h)) (fun base => by rw [vc_MiE8]; exact ⟨(), ⟨rfl, ⟨rfl, ⟨rfl, rfl⟩, ⟨rfl, rfl⟩, trivial⟩, trivial⟩, trivial, rfl, trivial⟩) ⟨rfl, st0 a 10, st0 b 10, trivial⟩ fun _ _ _ h => ⟨h.1, noBlk_nil h.2⟩
end
theorem c8_1 {n p : Int} {t : Nat} {is : Bool} (hA : By [p]) (ht : t < 8) (h : hasE n [p] t = 0) : CtOK Try.prog cf0 8 (oneB (argP n (lit1 p) t is) (okB 1) (blk [byt (putB p t is)])) := by
  have hc := c18 (A := lit1 p) hA (by simp : [p].length ≤ 1000) (st1 p) h
  have : t = 0 ∨ t = 1 ∨ t = 2 ∨ t = 3 ∨ t = 4 ∨ t = 5 ∨ t = 6 ∨ t = 7 := by omega
  rcases this with rfl | rfl | rfl | rfl | rfl | rfl | rfl | rfl
  · refine oneB_ok (m := 1000) (as1 := [.int .i64 (.sym n), lit1 p, .int .i64 (.lit 0), .bool (.sym (is = true))]) (Kvc := fun base x bs => x = okB 1 base ∧ bs = blk [byt (putB p 0 is)]) (sxT_ok hc) (fun base => ?_) ⟨rfl, ⟨rfl, rfl, trivial⟩, rfl, Iff.rfl, trivial⟩ fun _ _ _ h => h
    refine Eq.mpr (vc_Put1_0 n p is (hasV n [p] 0 = true) base (putB p 0 is)) ⟨(), ⟨rfl, ⟨rfl, rfl, trivial⟩, rfl, trivial⟩, trivial, ?_⟩
    cases is
    · exact ⟨fun q => (by cases q), fun _ => ⟨rfl, rfl⟩⟩
    · exact ⟨fun _ => ⟨rfl, rfl⟩, fun q => absurd rfl q⟩
  · refine oneB_ok (m := 1000) (as1 := [.int .i64 (.sym n), lit1 p, .int .i64 (.lit 1), .bool (.sym (is = true))]) (Kvc := fun base x bs => x = okB 1 base ∧ bs = blk [byt (putB p 1 is)]) (sxT_ok hc) (fun base => ?_) ⟨rfl, ⟨rfl, rfl, trivial⟩, rfl, Iff.rfl, trivial⟩ fun _ _ _ h => h
    refine Eq.mpr (vc_Put1_1 n p is (hasV n [p] 1 = true) base (putB p 1 is)) ⟨(), ⟨rfl, ⟨rfl, rfl, trivial⟩, rfl, trivial⟩, trivial, ?_⟩
    cases is
    · exact ⟨fun q => (by cases q), fun _ => ⟨rfl, rfl⟩⟩
    · exact ⟨fun _ => ⟨rfl, rfl⟩, fun q => absurd rfl q⟩
  · refine oneB_ok (m := 1000) (as1 := [.int .i64 (.sym n), lit1 p, .int .i64 (.lit 2), .bool (.sym (is = true))]) (Kvc := fun base x bs => x = okB 1 base ∧ bs = blk [byt (putB p 2 is)]) (sxT_ok hc) (fun base => ?_) ⟨rfl, ⟨rfl, rfl, trivial⟩, rfl, Iff.rfl, trivial⟩ fun _ _ _ h => h
    refine Eq.mpr (vc_Put1_2 n p is (hasV n [p] 2 = true) base (putB p 2 is)) ⟨(), ⟨rfl, ⟨rfl, rfl, trivial⟩, rfl, trivial⟩, trivial, ?_⟩
    cases is
    · exact ⟨fun q => (by cases q), fun _ => ⟨rfl, rfl⟩⟩
    · exact ⟨fun _ => ⟨rfl, rfl⟩, fun q => absurd rfl q⟩
  · refine oneB_ok (m := 1000) (as1 := [.int .i64 (.sym n), lit1 p, .int .i64 (.lit 3), .bool (.sym (is = true))]) (Kvc := fun base x bs => x = okB 1 base ∧ bs = blk [byt (putB p 3 is)]) (sxT_ok hc) (fun base => ?_) ⟨rfl, ⟨rfl, rfl, trivial⟩, rfl, Iff.rfl, trivial⟩ fun _ _ _ h => h
    refine Eq.mpr (vc_Put1_3 n p is (hasV n [p] 3 = true) base (putB p 3 is)) ⟨(), ⟨rfl, ⟨rfl, rfl, trivial⟩, rfl, trivial⟩, trivial, ?_⟩
    cases is
    · exact ⟨fun q => (by cases q), fun _ => ⟨rfl, rfl⟩⟩
    · exact ⟨fun _ => ⟨rfl, rfl⟩, fun q => absurd rfl q⟩
  · refine oneB_ok (m := 1000) (as1 := [.int .i64 (.sym n), lit1 p, .int .i64 (.lit 4), .bool (.sym (is = true))]) (Kvc := fun base x bs => x = okB 1 base ∧ bs = blk [byt (putB p 4 is)]) (sxT_ok hc) (fun base => ?_) ⟨rfl, ⟨rfl, rfl, trivial⟩, rfl, Iff.rfl, trivial⟩ fun _ _ _ h => h
    refine Eq.mpr (vc_Put1_4 n p is (hasV n [p] 4 = true) base (putB p 4 is)) ⟨(), ⟨rfl, ⟨rfl, rfl, trivial⟩, rfl, trivial⟩, trivial, ?_⟩
    cases is
    · exact ⟨fun q => (by cases q), fun _ => ⟨rfl, rfl⟩⟩
    · exact ⟨fun _ => ⟨rfl, rfl⟩, fun q => absurd rfl q⟩
  · refine oneB_ok (m := 1000) (as1 := [.int .i64 (.sym n), lit1 p, .int .i64 (.lit 5), .bool (.sym (is = true))]) (Kvc := fun base x bs => x = okB 1 base ∧ bs = blk [byt (putB p 5 is)]) (sxT_ok hc) (fun base => ?_) ⟨rfl, ⟨rfl, rfl, trivial⟩, rfl, Iff.rfl, trivial⟩ fun _ _ _ h => h
    refine Eq.mpr (vc_Put1_5 n p is (hasV n [p] 5 = true) base (putB p 5 is)) ⟨(), ⟨rfl, ⟨rfl, rfl, trivial⟩, rfl, trivial⟩, trivial, ?_⟩
    cases is
    · exact ⟨fun q => (by cases q), fun _ => ⟨rfl, rfl⟩⟩
    · exact ⟨fun _ => ⟨rfl, rfl⟩, fun q => absurd rfl q⟩
  · refine oneB_ok (m := 1000) (as1 := [.int .i64 (.sym n), lit1 p, .int .i64 (.lit 6), .bool (.sym (is = true))]) (Kvc := fun base x bs => x = okB 1 base ∧ bs = blk [byt (putB p 6 is)]) (sxT_ok hc) (fun base => ?_) ⟨rfl, ⟨rfl, rfl, trivial⟩, rfl, Iff.rfl, trivial⟩ fun _ _ _ h => h
    refine Eq.mpr (vc_Put1_6 n p is (hasV n [p] 6 = true) base (putB p 6 is)) ⟨(), ⟨rfl, ⟨rfl, rfl, trivial⟩, rfl, trivial⟩, trivial, ?_⟩
    cases is
    · exact ⟨fun q => (by cases q), fun _ => ⟨rfl, rfl⟩⟩
    · exact ⟨fun _ => ⟨rfl, rfl⟩, fun q => absurd rfl q⟩
  · refine oneB_ok (m := 1000) (as1 := [.int .i64 (.sym n), lit1 p, .int .i64 (.lit 7), .bool (.sym (is = true))]) (Kvc := fun base x bs => x = okB 1 base ∧ bs = blk [byt (putB p 7 is)]) (sxT_ok hc) (fun base => ?_) ⟨rfl, ⟨rfl, rfl, trivial⟩, rfl, Iff.rfl, trivial⟩ fun _ _ _ h => h
    refine Eq.mpr (vc_Put1_7 n p is (hasV n [p] 7 = true) base (putB p 7 is)) ⟨(), ⟨rfl, ⟨rfl, rfl, trivial⟩, rfl, trivial⟩, trivial, ?_⟩
    cases is
    · exact ⟨fun q => (by cases q), fun _ => ⟨rfl, rfl⟩⟩
    · exact ⟨fun _ => ⟨rfl, rfl⟩, fun q => absurd rfl q⟩
theorem c8_2 {n p q : Int} {t : Nat} {is : Bool} (hA : By [p, q]) (ht : t < 16) (h : hasE n [p, q] t = 0) : CtOK Try.prog cf0 8 (oneB (argP n (lit2 p q) t is) (okB 2) (blk (if t < 8 then [byt (putB p t is), byt q] else [byt p, byt (putB q (t - 8) is)]))) := by
  have hc := c18 (A := lit2 p q) hA (by simp : [p, q].length ≤ 1000) (st2 p q) h
  have : t = 0 ∨ t = 1 ∨ t = 2 ∨ t = 3 ∨ t = 4 ∨ t = 5 ∨ t = 6 ∨ t = 7 ∨ t = 8 ∨ t = 9 ∨ t = 10 ∨ t = 11 ∨ t = 12 ∨ t = 13 ∨ t = 14 ∨ t = 15 := by omega
  rcases this with rfl | rfl | rfl | rfl | rfl | rfl | rfl | rfl | rfl | rfl | rfl | rfl | rfl | rfl | rfl | rfl
  · refine oneB_ok (m := 1000) (as1 := [.int .i64 (.sym n), lit2 p q, .int .i64 (.lit 0), .bool (.sym (is = true))]) (Kvc := fun base x bs => x = okB 2 base ∧ bs = blk [byt (putB p 0 is), byt q]) (sxT_ok hc) (fun base => ?_) ⟨rfl, ⟨rfl, rfl, rfl, trivial⟩, rfl, Iff.rfl, trivial⟩ fun _ _ _ h => h
    refine Eq.mpr (vc_Put2_0 n p q is (hasV n [p, q] 0 = true) base (putB p 0 is) q) ⟨(), ⟨rfl, ⟨rfl, rfl, rfl, trivial⟩, rfl, trivial⟩, trivial, ?_⟩
    cases is
    · exact ⟨fun q => (by cases q), fun _ => ⟨rfl, rfl⟩⟩
    · exact ⟨fun _ => ⟨rfl, rfl⟩, fun q => absurd rfl q⟩
  · refine oneB_ok (m := 1000) (as1 := [.int .i64 (.sym n), lit2 p q, .int .i64 (.lit 1), .bool (.sym (is = true))]) (Kvc := fun base x bs => x = okB 2 base ∧ bs = blk [byt (putB p 1 is), byt q]) (sxT_ok hc) (fun base => ?_) ⟨rfl, ⟨rfl, rfl, rfl, trivial⟩, rfl, Iff.rfl, trivial⟩ fun _ _ _ h => h
    refine Eq.mpr (vc_Put2_1 n p q is (hasV n [p, q] 1 = true) base (putB p 1 is) q) ⟨(), ⟨rfl, ⟨rfl, rfl, rfl, trivial⟩, rfl, trivial⟩, trivial, ?_⟩
    cases is
    · exact ⟨fun q => (by cases q), fun _ => ⟨rfl, rfl⟩⟩
    · exact ⟨fun _ => ⟨rfl, rfl⟩, fun q => absurd rfl q⟩
  · refine oneB_ok (m := 1000) (as1 := [.int .i64 (.sym n), lit2 p q, .int .i64 (.lit 2), .bool (.sym (is = true))]) (Kvc := fun base x bs => x = okB 2 base ∧ bs = blk [byt (putB p 2 is), byt q]) (sxT_ok hc) (fun base => ?_) ⟨rfl, ⟨rfl, rfl, rfl, trivial⟩, rfl, Iff.rfl, trivial⟩ fun _ _ _ h => h
    refine Eq.mpr (vc_Put2_2 n p q is (hasV n [p, q] 2 = true) base (putB p 2 is) q) ⟨(), ⟨rfl, ⟨rfl, rfl, rfl, trivial⟩, rfl, trivial⟩, trivial, ?_⟩
    cases is
    · exact ⟨fun q => (by cases q), fun _ => ⟨rfl, rfl⟩⟩
    · exact ⟨fun _ => ⟨rfl, rfl⟩, fun q => absurd rfl q⟩
  · refine oneB_ok (m := 1000) (as1 := [.int .i64 (.sym n), lit2 p q, .int .i64 (.lit 3), .bool (.sym (is = true))]) (Kvc := fun base x bs => x = okB 2 base ∧ bs = blk [byt (putB p 3 is), byt q]) (sxT_ok hc) (fun base => ?_) ⟨rfl, ⟨rfl, rfl, rfl, trivial⟩, rfl, Iff.rfl, trivial⟩ fun _ _ _ h => h
    refine Eq.mpr (vc_Put2_3 n p q is (hasV n [p, q] 3 = true) base (putB p 3 is) q) ⟨(), ⟨rfl, ⟨rfl, rfl, rfl, trivial⟩, rfl, trivial⟩, trivial, ?_⟩
    cases is
    · exact ⟨fun q => (by cases q), fun _ => ⟨rfl, rfl⟩⟩
    · exact ⟨fun _ => ⟨rfl, rfl⟩, fun q => absurd rfl q⟩
  · refine oneB_ok (m := 1000) (as1 := [.int .i64 (.sym n), lit2 p q, .int .i64 (.lit 4), .bool (.sym (is = true))]) (Kvc := fun base x bs => x = okB 2 base ∧ bs = blk [byt (putB p 4 is), byt q]) (sxT_ok hc) (fun base => ?_) ⟨rfl, ⟨rfl, rfl, rfl, trivial⟩, rfl, Iff.rfl, trivial⟩ fun _ _ _ h => h
    refine Eq.mpr (vc_Put2_4 n p q is (hasV n [p, q] 4 = true) base (putB p 4 is) q) ⟨(), ⟨rfl, ⟨rfl, rfl, rfl, trivial⟩, rfl, trivial⟩, trivial, ?_⟩
    cases is
    · exact ⟨fun q => (by cases q), fun _ => ⟨rfl, rfl⟩⟩
    · exact ⟨fun _ => ⟨rfl, rfl⟩, fun q => absurd rfl q⟩
  · refine oneB_ok (m := 1000) (as1 := [.int .i64 (.sym n), lit2 p q, .int .i64 (.lit 5), .bool (.sym (is = true))]) (Kvc := fun base x bs => x = okB 2 base ∧ bs = blk [byt (putB p 5 is), byt q]) (sxT_ok hc) (fun base => ?_) ⟨rfl, ⟨rfl, rfl, rfl, trivial⟩, rfl, Iff.rfl, trivial⟩ fun _ _ _ h => h
    refine Eq.mpr (vc_Put2_5 n p q is (hasV n [p, q] 5 = true) base (putB p 5 is) q) ⟨(), ⟨rfl, ⟨rfl, rfl, rfl, trivial⟩, rfl, trivial⟩, trivial, ?_⟩
    cases is
    · exact ⟨fun q => (by cases q), fun _ => ⟨rfl, rfl⟩⟩
    · exact ⟨fun _ => ⟨rfl, rfl⟩, fun q => absurd rfl q⟩
  · refine oneB_ok (m := 1000) (as1 := [.int .i64 (.sym n), lit2 p q, .int .i64 (.lit 6), .bool (.sym (is = true))]) (Kvc := fun base x bs => x = okB 2 base ∧ bs = blk [byt (putB p 6 is), byt q]) (sxT_ok hc) (fun base => ?_) ⟨rfl, ⟨rfl, rfl, rfl, trivial⟩, rfl, Iff.rfl, trivial⟩ fun _ _ _ h => h
    refine Eq.mpr (vc_Put2_6 n p q is (hasV n [p, q] 6 = true) base (putB p 6 is) q) ⟨(), ⟨rfl, ⟨rfl, rfl, rfl, trivial⟩, rfl, trivial⟩, trivial, ?_⟩
    cases is
    · exact ⟨fun q => (by cases q), fun _ => ⟨rfl, rfl⟩⟩
    · exact ⟨fun _ => ⟨rfl, rfl⟩, fun q => absurd rfl q⟩
  · refine oneB_ok (m := 1000) (as1 := [.int .i64 (.sym n), lit2 p q, .int .i64 (.lit 7), .bool (.sym (is = true))]) (Kvc := fun base x bs => x = okB 2 base ∧ bs = blk [byt (putB p 7 is), byt q]) (sxT_ok hc) (fun base => ?_) ⟨rfl, ⟨rfl, rfl, rfl, trivial⟩, rfl, Iff.rfl, trivial⟩ fun _ _ _ h => h
    refine Eq.mpr (vc_Put2_7 n p q is (hasV n [p, q] 7 = true) base (putB p 7 is) q) ⟨(), ⟨rfl, ⟨rfl, rfl, rfl, trivial⟩, rfl, trivial⟩, trivial, ?_⟩
    cases is
    · exact ⟨fun q => (by cases q), fun _ => ⟨rfl, rfl⟩⟩
    · exact ⟨fun _ => ⟨rfl, rfl⟩, fun q => absurd rfl q⟩
  · refine oneB_ok (m := 1000) (as1 := [.int .i64 (.sym n), lit2 p q, .int .i64 (.lit 8), .bool (.sym (is = true))]) (Kvc := fun base x bs => x = okB 2 base ∧ bs = blk [byt p, byt (putB q 0 is)]) (sxT_ok hc) (fun base => ?_) ⟨rfl, ⟨rfl, rfl, rfl, trivial⟩, rfl, Iff.rfl, trivial⟩ fun _ _ _ h => h
    refine Eq.mpr (vc_Put2_8 n p q is (hasV n [p, q] 8 = true) base p (putB q 0 is)) ⟨(), ⟨rfl, ⟨rfl, rfl, rfl, trivial⟩, rfl, trivial⟩, trivial, ?_⟩
    cases is
    · exact ⟨fun q => (by cases q), fun _ => ⟨rfl, rfl⟩⟩
    · exact ⟨fun _ => ⟨rfl, rfl⟩, fun q => absurd rfl q⟩
  · refine oneB_ok (m := 1000) (as1 := [.int .i64 (.sym n), lit2 p q, .int .i64 (.lit 9), .bool (.sym (is = true))]) (Kvc := fun base x bs => x = okB 2 base ∧ bs = blk [byt p, byt (putB q 1 is)]) (sxT_ok hc) (fun base => ?_) ⟨rfl, ⟨rfl, rfl, rfl, trivial⟩, rfl, Iff.rfl, trivial⟩ fun _ _ _ h => h
    refine Eq.mpr (vc_Put2_9 n p q is (hasV n [p, q] 9 = true) base p (putB q 1 is)) ⟨(), ⟨rfl, ⟨rfl, rfl, rfl, trivial⟩, rfl, trivial⟩, trivial, ?_⟩
    cases is
    · exact ⟨fun q => (by cases q), fun _ => ⟨rfl, rfl⟩⟩
    · exact ⟨fun _ => ⟨rfl, rfl⟩, fun q => absurd rfl q⟩
  · refine oneB_ok (m := 1000) (as1 := [.int .i64 (.sym n), lit2 p q, .int .i64 (.lit 10), .bool (.sym (is = true))]) (Kvc := fun base x bs => x = okB 2 base ∧ bs = blk [byt p, byt (putB q 2 is)]) (sxT_ok hc) (fun base => ?_) ⟨rfl, ⟨rfl, rfl, rfl, trivial⟩, rfl, Iff.rfl, trivial⟩ fun _ _ _ h => h
    refine Eq.mpr (vc_Put2_10 n p q is (hasV n [p, q] 10 = true) base p (putB q 2 is)) ⟨(), ⟨rfl, ⟨rfl, rfl, rfl, trivial⟩, rfl, trivial⟩, trivial, ?_⟩
    cases is
    · exact ⟨fun q => (by cases q), fun _ => ⟨rfl, rfl⟩⟩
    · exact ⟨fun _ => ⟨rfl, rfl⟩, fun q => absurd rfl q⟩
  · refine oneB_ok (m := 1000) (as1 := [.int .i64 (.sym n), lit2 p q, .int .i64 (.lit 11), .bool (.sym (is = true))]) (Kvc := fun base x bs => x = okB 2 base ∧ bs = blk [byt p, byt (putB q 3 is)]) (sxT_ok hc) (fun base => ?_) ⟨rfl, ⟨rfl, rfl, rfl, trivial⟩, rfl, Iff.rfl, trivial⟩ fun _ _ _ h => h
    refine Eq.mpr (vc_Put2_11 n p q is (hasV n [p, q] 11 = true) base p (putB q 3 is)) ⟨(), ⟨rfl, ⟨rfl, rfl, rfl, trivial⟩, rfl, trivial⟩, trivial, ?_⟩
    cases is
    · exact ⟨fun q => (by cases q), fun _ => ⟨rfl, rfl⟩⟩
    · exact ⟨fun _ => ⟨rfl, rfl⟩, fun q => absurd rfl q⟩
  · refine oneB_ok (m := 1000) (as1 := [.int .i64 (.sym n), lit2 p q, .int .i64 (.lit 12), .bool (.sym (is = true))]) (Kvc := fun base x bs => x = okB 2 base ∧ bs = blk [byt p, byt (putB q 4 is)]) (sxT_ok hc) (fun base => ?_) ⟨rfl, ⟨rfl, rfl, rfl, trivial⟩, rfl, Iff.rfl, trivial⟩ fun _ _ _ h => h
    refine Eq.mpr (vc_Put2_12 n p q is (hasV n [p, q] 12 = true) base p (putB q 4 is)) ⟨(), ⟨rfl, ⟨rfl, rfl, rfl, trivial⟩, rfl, trivial⟩, trivial, ?_⟩
    cases is
    · exact ⟨fun q => (by cases q), fun _ => ⟨rfl, rfl⟩⟩
    · exact ⟨fun _ => ⟨rfl, rfl⟩, fun q => absurd rfl q⟩
  · refine oneB_ok (m := 1000) (as1 := [.int .i64 (.sym n), lit2 p q, .int .i64 (.lit 13), .bool (.sym (is = true))]) (Kvc := fun base x bs => x = okB 2 base ∧ bs = blk [byt p, byt (putB q 5 is)]) (sxT_ok hc) (fun base => ?_) ⟨rfl, ⟨rfl, rfl, rfl, trivial⟩, rfl, Iff.rfl, trivial⟩ fun _ _ _ h => h
    refine Eq.mpr (vc_Put2_13 n p q is (hasV n [p, q] 13 = true) base p (putB q 5 is)) ⟨(), ⟨rfl, ⟨rfl, rfl, rfl, trivial⟩, rfl, trivial⟩, trivial, ?_⟩
    cases is
    · exact ⟨fun q => (by cases q), fun _ => ⟨rfl, rfl⟩⟩
    · exact ⟨fun _ => ⟨rfl, rfl⟩, fun q => absurd rfl q⟩
  · refine oneB_ok (m := 1000) (as1 := [.int .i64 (.sym n), lit2 p q, .int .i64 (.lit 14), .bool (.sym (is = true))]) (Kvc := fun base x bs => x = okB 2 base ∧ bs = blk [byt p, byt (putB q 6 is)]) (sxT_ok hc) (fun base => ?_) ⟨rfl, ⟨rfl, rfl, rfl, trivial⟩, rfl, Iff.rfl, trivial⟩ fun _ _ _ h => h
    refine Eq.mpr (vc_Put2_14 n p q is (hasV n [p, q] 14 = true) base p (putB q 6 is)) ⟨(), ⟨rfl, ⟨rfl, rfl, rfl, trivial⟩, rfl, trivial⟩, trivial, ?_⟩
    cases is
    · exact ⟨fun q => (by cases q), fun _ => ⟨rfl, rfl⟩⟩
    · exact ⟨fun _ => ⟨rfl, rfl⟩, fun q => absurd rfl q⟩
  · refine oneB_ok (m := 1000) (as1 := [.int .i64 (.sym n), lit2 p q, .int .i64 (.lit 15), .bool (.sym (is = true))]) (Kvc := fun base x bs => x = okB 2 base ∧ bs = blk [byt p, byt (putB q 7 is)]) (sxT_ok hc) (fun base => ?_) ⟨rfl, ⟨rfl, rfl, rfl, trivial⟩, rfl, Iff.rfl, trivial⟩ fun _ _ _ h => h
    refine Eq.mpr (vc_Put2_15 n p q is (hasV n [p, q] 15 = true) base p (putB q 7 is)) ⟨(), ⟨rfl, ⟨rfl, rfl, rfl, trivial⟩, rfl, trivial⟩, trivial, ?_⟩
    cases is
    · exact ⟨fun q => (by cases q), fun _ => ⟨rfl, rfl⟩⟩
    · exact ⟨fun _ => ⟨rfl, rfl⟩, fun q => absurd rfl q⟩
theorem c10_1 {n p u : Int} (hA : By [p]) (hB : By [u]) (h : firstE n [p] [u] = 0) : CtOK Try.prog cf0 10 (oneB (argO n (lit1 p) (lit1 u)) (okB 1) (blk [byt (orN p u)])) :=
  oneB_ok (m := 1000) (as1 := argO n (lit1 p) (lit1 u)) (Kvc := fun base x bs => x = okB 1 base ∧ bs = blk [byt (orN p u)]) (sxT_ok (c49 (A := lit1 p) (B := lit1 u) hA hB (by simp : [p].length ≤ 1000) (by simp : [u].length ≤ 1000) (st1 p) (st1 u) h)) (fun base => Eq.mpr (vc_Or1 n p u (orN p u) base) ⟨(), ⟨rfl, ⟨rfl, ⟨rfl, rfl, trivial⟩, ⟨rfl, rfl, trivial⟩, trivial⟩, trivial⟩, trivial, rfl, rfl⟩) ⟨rfl, ⟨rfl, rfl, trivial⟩, ⟨rfl, rfl, trivial⟩, trivial⟩ fun _ _ _ h => h
theorem c10_2 {n p q u w : Int} (hA : By [p, q]) (hB : By [u, w]) (h : firstE n [p, q] [u, w] = 0) : CtOK Try.prog cf0 10 (oneB (argO n (lit2 p q) (lit2 u w)) (okB 2) (blk [byt (orN p u), byt (orN q w)])) :=
  oneB_ok (m := 1000) (as1 := argO n (lit2 p q) (lit2 u w)) (Kvc := fun base x bs => x = okB 2 base ∧ bs = blk [byt (orN p u), byt (orN q w)]) (sxT_ok (c49 (A := lit2 p q) (B := lit2 u w) hA hB (by simp : [p, q].length ≤ 1000) (by simp : [u, w].length ≤ 1000) (st2 p q) (st2 u w) h)) (fun base => Eq.mpr (vc_Or2 n p q u w (orN p u) (orN q w) base) ⟨(), ⟨rfl, ⟨rfl, ⟨rfl, rfl, rfl, trivial⟩, ⟨rfl, rfl, rfl, trivial⟩, trivial⟩, trivial⟩, trivial, rfl, rfl⟩) ⟨rfl, ⟨rfl, rfl, rfl, trivial⟩, ⟨rfl, rfl, rfl, trivial⟩, trivial⟩ fun _ _ _ h => h
theorem c12_1 {n p u : Int} (hA : By [p]) (hB : By [u]) (h : firstE n [p] [u] = 0) : CtOK Try.prog cf0 12 (oneB (argO n (lit1 p) (lit1 u)) (okB 1) (blk [byt (andN p u)])) :=
  oneB_ok (m := 1000) (as1 := argO n (lit1 p) (lit1 u)) (Kvc := fun base x bs => x = okB 1 base ∧ bs = blk [byt (andN p u)]) (sxT_ok (c49 (A := lit1 p) (B := lit1 u) hA hB (by simp : [p].length ≤ 1000) (by simp : [u].length ≤ 1000) (st1 p) (st1 u) h)) (fun base => Eq.mpr (vc_Mi1 n p u (andN p u) base) ⟨(), ⟨rfl, ⟨rfl, ⟨rfl, rfl, trivial⟩, ⟨rfl, rfl, trivial⟩, trivial⟩, trivial⟩, trivial, rfl, rfl⟩) ⟨rfl, ⟨rfl, rfl, trivial⟩, ⟨rfl, rfl, trivial⟩, trivial⟩ fun _ _ _ h => h
theorem c12_2 {n p q u w : Int} (hA : By [p, q]) (hB : By [u, w]) (h : firstE n [p, q] [u, w] = 0) : CtOK Try.prog cf0 12 (oneB (argO n (lit2 p q) (lit2 u w)) (okB 2) (blk [byt (andN p u), byt (andN q w)])) :=
  oneB_ok (m := 1000) (as1 := argO n (lit2 p q) (lit2 u w)) (Kvc := fun base x bs => x = okB 2 base ∧ bs = blk [byt (andN p u), byt (andN q w)]) (sxT_ok (c49 (A := lit2 p q) (B := lit2 u w) hA hB (by simp : [p, q].length ≤ 1000) (by simp : [u, w].length ≤ 1000) (st2 p q) (st2 u w) h)) (fun base => Eq.mpr (vc_Mi2 n p q u w (andN p u) (andN q w) base) ⟨(), ⟨rfl, ⟨rfl, ⟨rfl, rfl, rfl, trivial⟩, ⟨rfl, rfl, rfl, trivial⟩, trivial⟩, trivial⟩, trivial, rfl, rfl⟩) ⟨rfl, ⟨rfl, rfl, rfl, trivial⟩, ⟨rfl, rfl, rfl, trivial⟩, trivial⟩ fun _ _ _ h => h

end
end Go.Proofs.Ytifgifhbefhkmaa.VM
/- Sets of tracks turned: the law holds. No conditions. -/
namespace Go.Proofs.Ytifgifhbefhkmaa.VM
open Go Go.RowKit
set_option linter.unusedVariables false
set_option linter.unusedSimpArgs false
set_option maxRecDepth 100000
noncomputable section
theorem wr8_rng (x : Int) : 0 ≤ IntKind.wrap .u8 x ∧ IntKind.wrap .u8 x < 256 := by
  have : IntKind.wrap .u8 x = x % 256 := by simp [IntKind.wrap, IntKind.signed, IntKind.bits]
  omega
theorem By1 {x : Int} (h : 0 ≤ x ∧ x < 256) : By [x] := fun y hy => by
  rw [List.mem_singleton.1 hy]; exact h
theorem orN_by (p u : Int) : By [orN p u] := By1 (wr8_rng _)
theorem andN_by (p u : Int) : By [andN p u] := By1 (wr8_rng _)
theorem putB_by (p : Int) (k : Nat) (is : Bool) : By [putB p k is] := by
  unfold putB
  split
  · exact orN_by _ _
  · exact andN_by _ _
theorem sxF_ok {p p' o o' m m' : SCall} (h1 : CtOK Try.prog cf0 8 p) (h2 : CtOK Try.prog cf0 9 p') (h3 : CtOK Try.prog cf0 10 o) (h4 : CtOK Try.prog cf0 11 o') (h5 : CtOK Try.prog cf0 12 m) (h6 : CtOK Try.prog cf0 13 m') : SXOK Try.prog cf0 (sxF p p' o o' m m') :=
  sxok_of (all_cons h1 (all_cons h2 (all_cons h3 (all_cons h4 (all_cons h5 (all_cons h6 all_nil)))))) all_nil
theorem stuck_ok (f : Nat) : CtOK Try.prog cf0 f (fun _ _ _ _ => Stuck 300) := fun base bs K hK => by cases hK
def Walk (n : Int) (a b : List Int) (t : Int) (is : Bool) : Prop := ∃ sx as', SXOK Try.prog cf0 sx ∧ sles [.int .i64 (.sym n), row a, row b, .int .i64 (.sym t), .bool (.sym (is = true))] as' ∧ scallI sx Try.prog cf0 (sexec sx Try.prog cf0 1000) 3 0 as' (post (.bool (.lit true)))
section
variable {n t : Int} {a b : List Int} {is : Bool}
theorem args0 (n : Int) (a b : List Int) (t : Int) (is : Bool) : sles [.int .i64 (.sym n), row a, row b, .int .i64 (.sym t), .bool (.sym (is = true))] [.int .i64 (.sym n), row a, row b, .int .i64 (.sym t), .bool (.sym (is = true))] := ⟨rfl, ⟨rfl, rfl⟩, ⟨rfl, rfl⟩, rfl, Iff.rfl, trivial⟩
theorem rput_no (h : hasE n a t ≠ 0) : rput n a t is = [] := by unfold rput; rw [if_neg h]
theorem ror_no (h : firstE n a b ≠ 0) : ror n a b = [] := by unfold ror; rw [if_neg h]
theorem rless_no (h : firstE n a b ≠ 0) : rless n a b = [] := by unfold rless; rw [if_neg h]
theorem rput_is (h : hasE n a t = 0) : rput n a t is = withL n a t is := by unfold rput; rw [if_pos h]
theorem ror_is (h : firstE n a b = 0) : ror n a b = orL n a b := by unfold ror; rw [if_pos h]
theorem rless_is (h : firstE n a b = 0) : rless n a b = lessL n a b := by unfold rless; rw [if_pos h]
theorem walkE22 (hA : By a) (hB : By b) (hl : a.length ≤ 100) (hm : b.length ≤ 100) (h1 : hasE n a t = 2) (h2 : firstE n a b = 2) : Walk n a b t is := by
  have r1 : rput n a t is = [] := rput_no (by rw [h1]; decide)
  have r2 : ror n a b = [] := ror_no (by rw [h2]; decide)
  have r3 : rless n a b = [] := rless_no (by rw [h2]; decide)
  have ha : a.length ≤ 1000 := by omega
  have hb : b.length ≤ 1000 := by omega
  refine ⟨_, _, sxF_ok (c8e (is := is) hA ha (e := 2) (by decide) h1) (c9 (is := is) hA ha (st0 a) (L := lit0) (by rw [r1]; exact nil_lit0) h1) (c10e hA hB ha hb (e := 2) (by decide) h2) (c11 hA hB ha hb (st0 a) (st0 b) (L := lit0) (by rw [r2]; exact nil_lit0) h2) (c12e hA hB ha hb (e := 2) (by decide) h2) (c13 hA hB ha hb (st0 a) (st0 b) (L := lit0) (by rw [r3]; exact nil_lit0) h2), args0 n a b t is, ?_⟩
  rw [vc_E22]
  simp only [List.take_length, rdrop0, true_and, and_true, eq_self, exists_const, not_true, iff_self, implies_true, iff_true, false_imp_iff, Nat.le_refl, List.length_cons, List.length_nil, Nat.reduceAdd]
  have fin : (a = a → ∃ y10, SC.rows eB 1 1 true b = SC.rows eB 1 1 true y10 ∧ ∃ y11, SC.rows eB 1 1 true b = SC.rows eB 1 1 true y11 ∧ isBytes y10 ∧ isBytes y11 ∧ y10 = y11) ∧ (¬ a = a → false = true) := ⟨fun _ => Exists.intro b ⟨rfl, Exists.intro b ⟨rfl, hB, hB, rfl⟩⟩, fun q => absurd rfl q⟩
  exact fun _ _ => ⟨by omega, by omega, Exists.intro a ⟨rfl, Exists.intro a ⟨rfl, hA, hA, fin⟩⟩⟩
theorem walkE88 (hA : By a) (hB : By b) (hl : a.length ≤ 100) (hm : b.length ≤ 100) (h1 : hasE n a t = 8) (h2 : firstE n a b = 8) : Walk n a b t is := by
  have r1 : rput n a t is = [] := rput_no (by rw [h1]; decide)
  have r2 : ror n a b = [] := ror_no (by rw [h2]; decide)
  have r3 : rless n a b = [] := rless_no (by rw [h2]; decide)
  have ha : a.length ≤ 1000 := by omega
  have hb : b.length ≤ 1000 := by omega
  refine ⟨_, _, sxF_ok (c8e (is := is) hA ha (e := 8) (by decide) h1) (c9 (is := is) hA ha (st0 a) (L := lit0) (by rw [r1]; exact nil_lit0) h1) (c10e hA hB ha hb (e := 8) (by decide) h2) (c11 hA hB ha hb (st0 a) (st0 b) (L := lit0) (by rw [r2]; exact nil_lit0) h2) (c12e hA hB ha hb (e := 8) (by decide) h2) (c13 hA hB ha hb (st0 a) (st0 b) (L := lit0) (by rw [r3]; exact nil_lit0) h2), args0 n a b t is, ?_⟩
  rw [vc_E88]
  simp only [List.take_length, rdrop0, true_and, and_true, eq_self, exists_const, not_true, iff_self, implies_true, iff_true, false_imp_iff, Nat.le_refl, List.length_cons, List.length_nil, Nat.reduceAdd]
  have fin : (a = a → ∃ y10, SC.rows eB 1 1 true b = SC.rows eB 1 1 true y10 ∧ ∃ y11, SC.rows eB 1 1 true b = SC.rows eB 1 1 true y11 ∧ isBytes y10 ∧ isBytes y11 ∧ y10 = y11) ∧ (¬ a = a → false = true) := ⟨fun _ => Exists.intro b ⟨rfl, Exists.intro b ⟨rfl, hB, hB, rfl⟩⟩, fun q => absurd rfl q⟩
  exact fun _ _ => ⟨by omega, by omega, Exists.intro a ⟨rfl, Exists.intro a ⟨rfl, hA, hA, fin⟩⟩⟩
theorem walkE28 (hA : By a) (hB : By b) (hl : a.length ≤ 100) (hm : b.length ≤ 100) (h1 : hasE n a t = 2) (h2 : firstE n a b = 8) : Walk n a b t is := by
  have r1 : rput n a t is = [] := rput_no (by rw [h1]; decide)
  have r2 : ror n a b = [] := ror_no (by rw [h2]; decide)
  have r3 : rless n a b = [] := rless_no (by rw [h2]; decide)
  have ha : a.length ≤ 1000 := by omega
  have hb : b.length ≤ 1000 := by omega
  refine ⟨_, _, sxF_ok (c8e (is := is) hA ha (e := 2) (by decide) h1) (c9 (is := is) hA ha (st0 a) (L := lit0) (by rw [r1]; exact nil_lit0) h1) (c10e hA hB ha hb (e := 8) (by decide) h2) (c11 hA hB ha hb (st0 a) (st0 b) (L := lit0) (by rw [r2]; exact nil_lit0) h2) (c12e hA hB ha hb (e := 8) (by decide) h2) (c13 hA hB ha hb (st0 a) (st0 b) (L := lit0) (by rw [r3]; exact nil_lit0) h2), args0 n a b t is, ?_⟩
  rw [vc_E28]
  simp only [List.take_length, rdrop0, true_and, and_true, eq_self, exists_const, not_true, iff_self, implies_true, iff_true, false_imp_iff, Nat.le_refl, List.length_cons, List.length_nil, Nat.reduceAdd]
  have fin : (a = a → ∃ y10, SC.rows eB 1 1 true b = SC.rows eB 1 1 true y10 ∧ ∃ y11, SC.rows eB 1 1 true b = SC.rows eB 1 1 true y11 ∧ isBytes y10 ∧ isBytes y11 ∧ y10 = y11) ∧ (¬ a = a → false = true) := ⟨fun _ => Exists.intro b ⟨rfl, Exists.intro b ⟨rfl, hB, hB, rfl⟩⟩, fun q => absurd rfl q⟩
  exact fun _ _ => ⟨by omega, by omega, Exists.intro a ⟨rfl, Exists.intro a ⟨rfl, hA, hA, fin⟩⟩⟩
end
section
variable {n : Int} {p u t : Nat} {b : List Int} {is : Bool}
theorem walkF1 (h1 : 1 ≤ n) (h8 : n ≤ 8) (hp : p < 256) (hM : mayB n [(p : Int)] = true) (hB : By b) (hm : b.length ≤ 100) (ht : (t : Int) < n) (g1 : hasE n [(p : Int)] t = 0) (g2 : firstE n [(p : Int)] b = 8) : Walk n [(p : Int)] b t is := by
  have hA : By [(p : Int)] := By1 (by omega)
  have la : [(p : Int)].length ≤ 1000 := by simp
  have hb : b.length ≤ 1000 := by omega
  have r1 : rput n [(p : Int)] t is = [putB p t is] := by rw [rput_is g1]; exact with_byte h1 h8 hp hM ht
  have r2 : ror n [(p : Int)] b = [] := ror_no (by rw [g2]; decide)
  have r3 : rless n [(p : Int)] b = [] := rless_no (by rw [g2]; decide)
  refine ⟨_, _, sxF_ok (c8_1 (is := is) hA (by omega) g1) (c9 (is := is) hA la (st1 p) (L := lit1 (putB p t is)) (by rw [r1]; exact ⟨rfl, rfl, trivial⟩) g1) (c10e hA hB la hb (e := 8) (by decide) g2) (c11 hA hB la hb (st0 _) (st0 b) (L := lit0) (by rw [r2]; exact nil_lit0) g2) (c12e hA hB la hb (e := 8) (by decide) g2) (c13 hA hB la hb (st0 _) (st0 b) (L := lit0) (by rw [r3]; exact nil_lit0) g2), (show sles _ [.int .i64 (.sym n), lit1 p, row b, .int .i64 (.sym (t : Int)), .bool (.sym (is = true))] from ⟨rfl, ⟨rfl, rfl, trivial⟩, ⟨rfl, rfl⟩, rfl, Iff.rfl, trivial⟩), ?_⟩
  rw [vc_F1]
  have hx := putB_by p t is
  have hx' : isBytes [putB p t is] := hx
  have hp' : isBytes [(p : Int)] := hA
  have hb' : isBytes b := hB
  simp only [List.take_length, rdrop0, true_and, and_true, eq_self, exists_const, not_true, iff_self, implies_true, iff_true, false_imp_iff, Nat.le_refl, List.length_cons, List.length_nil, Nat.reduceAdd]
  repeat' first | assumption | exact rokB | rfl | omega | (refine And.intro ?_ ?_) | (intro _) | (refine Exists.intro b ?_)
theorem walkG1 {t : Int} (h1 : 1 ≤ n) (h8 : n ≤ 8) (hp : p < 256) (hu : u < 256) (hM : mayB n [(p : Int)] = true) (hN : mayB n [(u : Int)] = true) (g1 : hasE n [(p : Int)] t = 2) (g2 : firstE n [(p : Int)] [(u : Int)] = 0) : Walk n [(p : Int)] [(u : Int)] t is := by
  have hA : By [(p : Int)] := By1 (by omega)
  have hB : By [(u : Int)] := By1 (by omega)
  have la : [(p : Int)].length ≤ 1000 := by simp
  have lb : [(u : Int)].length ≤ 1000 := by simp
  have r1 : rput n [(p : Int)] t is = [] := rput_no (by rw [g1]; decide)
  have r2 : ror n [(p : Int)] [(u : Int)] = [orN p u] := by rw [ror_is g2]; exact or_byte h1 h8 hp hu hM hN
  have r3 : rless n [(p : Int)] [(u : Int)] = [andN p u] := by rw [rless_is g2]; exact less_byte h1 h8 hp hM
  refine ⟨_, _, sxF_ok (c8e (is := is) hA la (e := 2) (by decide) g1) (c9 (is := is) hA la (st0 _) (L := lit0) (by rw [r1]; exact nil_lit0) g1) (c10_1 hA hB g2) (c11 hA hB la lb (st1 p) (st1 u) (L := lit1 (orN p u)) (by rw [r2]; exact ⟨rfl, rfl, trivial⟩) g2) (c12_1 hA hB g2) (c13 hA hB la lb (st1 p) (st1 u) (L := lit1 (andN p u)) (by rw [r3]; exact ⟨rfl, rfl, trivial⟩) g2), (show sles _ [.int .i64 (.sym n), lit1 p, lit1 u, .int .i64 (.sym t), .bool (.sym (is = true))] from ⟨rfl, ⟨rfl, rfl, trivial⟩, ⟨rfl, rfl, trivial⟩, rfl, Iff.rfl, trivial⟩), ?_⟩
  rw [vc_G1]
  have hc' : isBytes [orN p u] := orN_by p u
  have hm' : isBytes [andN p u] := andN_by p u
  have hp' : isBytes [(p : Int)] := hA
  have hu' : isBytes [(u : Int)] := hB
  simp only [List.take_length, rdrop0, true_and, and_true, eq_self, exists_const, not_true, iff_self, implies_true, iff_true, false_imp_iff, Nat.le_refl, List.length_cons, List.length_nil, Nat.reduceAdd]
  repeat' first | assumption | exact rokB | rfl | omega | (refine And.intro ?_ ?_) | (intro _)
theorem walkH1 (h1 : 1 ≤ n) (h8 : n ≤ 8) (hp : p < 256) (hu : u < 256) (hM : mayB n [(p : Int)] = true) (hN : mayB n [(u : Int)] = true) (ht : (t : Int) < n) (g1 : hasE n [(p : Int)] t = 0) (g2 : firstE n [(p : Int)] [(u : Int)] = 0) : Walk n [(p : Int)] [(u : Int)] t is := by
  have hA : By [(p : Int)] := By1 (by omega)
  have hB : By [(u : Int)] := By1 (by omega)
  have la : [(p : Int)].length ≤ 1000 := by simp
  have lb : [(u : Int)].length ≤ 1000 := by simp
  have r1 : rput n [(p : Int)] t is = [putB p t is] := by rw [rput_is g1]; exact with_byte h1 h8 hp hM ht
  have r2 : ror n [(p : Int)] [(u : Int)] = [orN p u] := by rw [ror_is g2]; exact or_byte h1 h8 hp hu hM hN
  have r3 : rless n [(p : Int)] [(u : Int)] = [andN p u] := by rw [rless_is g2]; exact less_byte h1 h8 hp hM
  refine ⟨_, _, sxF_ok (c8_1 (is := is) hA (by omega) g1) (c9 (is := is) hA la (st1 p) (L := lit1 (putB p t is)) (by rw [r1]; exact ⟨rfl, rfl, trivial⟩) g1) (c10_1 hA hB g2) (c11 hA hB la lb (st1 p) (st1 u) (L := lit1 (orN p u)) (by rw [r2]; exact ⟨rfl, rfl, trivial⟩) g2) (c12_1 hA hB g2) (c13 hA hB la lb (st1 p) (st1 u) (L := lit1 (andN p u)) (by rw [r3]; exact ⟨rfl, rfl, trivial⟩) g2), (show sles _ [.int .i64 (.sym n), lit1 p, lit1 u, .int .i64 (.sym (t : Int)), .bool (.sym (is = true))] from ⟨rfl, ⟨rfl, rfl, trivial⟩, ⟨rfl, rfl, trivial⟩, rfl, Iff.rfl, trivial⟩), ?_⟩
  rw [vc_H1]
  have hx' : isBytes [putB p t is] := putB_by p t is
  have hc' : isBytes [orN p u] := orN_by p u
  have hm' : isBytes [andN p u] := andN_by p u
  have hp' : isBytes [(p : Int)] := hA
  have hu' : isBytes [(u : Int)] := hB
  simp only [List.take_length, rdrop0, true_and, and_true, eq_self, exists_const, not_true, iff_self, implies_true, iff_true, false_imp_iff, Nat.le_refl, List.length_cons, List.length_nil, Nat.reduceAdd]
  repeat' first | assumption | exact rokB | rfl | omega | (refine And.intro ?_ ?_) | (intro _)
end
section
variable {n : Int} {p q u w t : Nat} {b : List Int} {is : Bool}
theorem c8_2' {p q : Int} (hA : By [p, q]) (ht : t < 16) (h : hasE n [p, q] t = 0) : ∃ x y : Int, (if t < 8 then [putB p t is, q] else [p, putB q (t - 8) is]) = [x, y] ∧ By [x, y] ∧ CtOK Try.prog cf0 8 (oneB (argP n (lit2 p q) t is) (okB 2) (blk [byt x, byt y])) := by
  have hc := c8_2 (is := is) hA ht h
  have p0 : By [p] := fun z hz => hA z (by simp at hz ⊢; exact .inl hz)
  have q0 : By [q] := fun z hz => hA z (by simp at hz ⊢; exact .inr hz)
  by_cases c : t < 8
  · rw [if_pos c] at hc ⊢
    exact ⟨_, _, rfl, By2 (putB_by p t is) q0, hc⟩
  · rw [if_neg c] at hc ⊢
    exact ⟨_, _, rfl, By2 p0 (putB_by q (t - 8) is), hc⟩
theorem walkF2 (h1 : 9 ≤ n) (h8 : n ≤ 16) (hp : p < 256) (hq : q < 256) (hM : mayB n [(p : Int), (q : Int)] = true) (hB : By b) (hm : b.length ≤ 100) (ht : (t : Int) < n) (g1 : hasE n [(p : Int), (q : Int)] t = 0) (g2 : firstE n [(p : Int), (q : Int)] b = 8) : Walk n [(p : Int), (q : Int)] b t is := by
  have hA : By [(p : Int), (q : Int)] := By2 (By1 (by omega)) (By1 (by omega))
  have la : [(p : Int), (q : Int)].length ≤ 1000 := by simp
  have hb : b.length ≤ 1000 := by omega
  obtain ⟨x, y, exy, hxy, hc8⟩ := c8_2' (is := is) hA (by omega : t < 16) g1
  have r1 : rput n [(p : Int), (q : Int)] t is = [x, y] := by rw [rput_is g1, with_two h1 h8 hp hq hM ht]; exact exy
  have r2 : ror n [(p : Int), (q : Int)] b = [] := ror_no (by rw [g2]; decide)
  have r3 : rless n [(p : Int), (q : Int)] b = [] := rless_no (by rw [g2]; decide)
  refine ⟨_, _, sxF_ok hc8 (c9 (is := is) hA la (st2 p q) (L := lit2 x y) (by rw [r1]; exact ⟨rfl, rfl, rfl, trivial⟩) g1) (c10e hA hB la hb (e := 8) (by decide) g2) (c11 hA hB la hb (st0 _) (st0 b) (L := lit0) (by rw [r2]; exact nil_lit0) g2) (c12e hA hB la hb (e := 8) (by decide) g2) (c13 hA hB la hb (st0 _) (st0 b) (L := lit0) (by rw [r3]; exact nil_lit0) g2), (show sles _ [.int .i64 (.sym n), lit2 p q, row b, .int .i64 (.sym (t : Int)), .bool (.sym (is = true))] from ⟨rfl, ⟨rfl, rfl, rfl, trivial⟩, ⟨rfl, rfl⟩, rfl, Iff.rfl, trivial⟩), ?_⟩
  rw [vc_F2]
  have hx' : isBytes [x, y] := hxy
  have hp' : isBytes [(p : Int), (q : Int)] := hA
  have hb' : isBytes b := hB
  simp only [List.take_length, rdrop0, true_and, and_true, eq_self, exists_const, not_true, iff_self, implies_true, iff_true, false_imp_iff, Nat.le_refl, List.length_cons, List.length_nil, Nat.reduceAdd]
  repeat' first | assumption | exact rokB | rfl | omega | (refine And.intro ?_ ?_) | (intro _) | (refine Exists.intro b ?_)
theorem walkG2 {t : Int} (h1 : 9 ≤ n) (h8 : n ≤ 16) (hp : p < 256) (hq : q < 256) (hu : u < 256) (hw : w < 256) (hM : mayB n [(p : Int), (q : Int)] = true) (hN : mayB n [(u : Int), (w : Int)] = true) (g1 : hasE n [(p : Int), (q : Int)] t = 2) (g2 : firstE n [(p : Int), (q : Int)] [(u : Int), (w : Int)] = 0) : Walk n [(p : Int), (q : Int)] [(u : Int), (w : Int)] t is := by
  have hA : By [(p : Int), (q : Int)] := By2 (By1 (by omega)) (By1 (by omega))
  have hB : By [(u : Int), (w : Int)] := By2 (By1 (by omega)) (By1 (by omega))
  have la : [(p : Int), (q : Int)].length ≤ 1000 := by simp
  have lb : [(u : Int), (w : Int)].length ≤ 1000 := by simp
  have r1 : rput n [(p : Int), (q : Int)] t is = [] := rput_no (by rw [g1]; decide)
  have r2 : ror n [(p : Int), (q : Int)] [(u : Int), (w : Int)] = [orN p u, orN q w] := by rw [ror_is g2]; exact or_two h1 h8 hp hq hu hw hM hN
  have r3 : rless n [(p : Int), (q : Int)] [(u : Int), (w : Int)] = [andN p u, andN q w] := by rw [rless_is g2]; exact less_two h1 h8 hp hq hM
  refine ⟨_, _, sxF_ok (c8e (is := is) hA la (e := 2) (by decide) g1) (c9 (is := is) hA la (st0 _) (L := lit0) (by rw [r1]; exact nil_lit0) g1) (c10_2 hA hB g2) (c11 hA hB la lb (st2 p q) (st2 u w) (L := lit2 (orN p u) (orN q w)) (by rw [r2]; exact ⟨rfl, rfl, rfl, trivial⟩) g2) (c12_2 hA hB g2) (c13 hA hB la lb (st2 p q) (st2 u w) (L := lit2 (andN p u) (andN q w)) (by rw [r3]; exact ⟨rfl, rfl, rfl, trivial⟩) g2), (show sles _ [.int .i64 (.sym n), lit2 p q, lit2 u w, .int .i64 (.sym t), .bool (.sym (is = true))] from ⟨rfl, ⟨rfl, rfl, rfl, trivial⟩, ⟨rfl, rfl, rfl, trivial⟩, rfl, Iff.rfl, trivial⟩), ?_⟩
  rw [vc_G2]
  have hc' : isBytes [orN p u, orN q w] := By2 (orN_by p u) (orN_by q w)
  have hm' : isBytes [andN p u, andN q w] := By2 (andN_by p u) (andN_by q w)
  have hp' : isBytes [(p : Int), (q : Int)] := hA
  have hu' : isBytes [(u : Int), (w : Int)] := hB
  simp only [List.take_length, rdrop0, true_and, and_true, eq_self, exists_const, not_true, iff_self, implies_true, iff_true, false_imp_iff, Nat.le_refl, List.length_cons, List.length_nil, Nat.reduceAdd]
  repeat' first | assumption | exact rokB | rfl | omega | (refine And.intro ?_ ?_) | (intro _)
theorem walkH2 (h1 : 9 ≤ n) (h8 : n ≤ 16) (hp : p < 256) (hq : q < 256) (hu : u < 256) (hw : w < 256) (hM : mayB n [(p : Int), (q : Int)] = true) (hN : mayB n [(u : Int), (w : Int)] = true) (ht : (t : Int) < n) (g1 : hasE n [(p : Int), (q : Int)] t = 0) (g2 : firstE n [(p : Int), (q : Int)] [(u : Int), (w : Int)] = 0) : Walk n [(p : Int), (q : Int)] [(u : Int), (w : Int)] t is := by
  have hA : By [(p : Int), (q : Int)] := By2 (By1 (by omega)) (By1 (by omega))
  have hB : By [(u : Int), (w : Int)] := By2 (By1 (by omega)) (By1 (by omega))
  have la : [(p : Int), (q : Int)].length ≤ 1000 := by simp
  have lb : [(u : Int), (w : Int)].length ≤ 1000 := by simp
  obtain ⟨x, y, exy, hxy, hc8⟩ := c8_2' (is := is) hA (by omega : t < 16) g1
  have r1 : rput n [(p : Int), (q : Int)] t is = [x, y] := by rw [rput_is g1, with_two h1 h8 hp hq hM ht]; exact exy
  have r2 : ror n [(p : Int), (q : Int)] [(u : Int), (w : Int)] = [orN p u, orN q w] := by rw [ror_is g2]; exact or_two h1 h8 hp hq hu hw hM hN
  have r3 : rless n [(p : Int), (q : Int)] [(u : Int), (w : Int)] = [andN p u, andN q w] := by rw [rless_is g2]; exact less_two h1 h8 hp hq hM
  refine ⟨_, _, sxF_ok hc8 (c9 (is := is) hA la (st2 p q) (L := lit2 x y) (by rw [r1]; exact ⟨rfl, rfl, rfl, trivial⟩) g1) (c10_2 hA hB g2) (c11 hA hB la lb (st2 p q) (st2 u w) (L := lit2 (orN p u) (orN q w)) (by rw [r2]; exact ⟨rfl, rfl, rfl, trivial⟩) g2) (c12_2 hA hB g2) (c13 hA hB la lb (st2 p q) (st2 u w) (L := lit2 (andN p u) (andN q w)) (by rw [r3]; exact ⟨rfl, rfl, rfl, trivial⟩) g2), (show sles _ [.int .i64 (.sym n), lit2 p q, lit2 u w, .int .i64 (.sym (t : Int)), .bool (.sym (is = true))] from ⟨rfl, ⟨rfl, rfl, rfl, trivial⟩, ⟨rfl, rfl, rfl, trivial⟩, rfl, Iff.rfl, trivial⟩), ?_⟩
  rw [vc_H2]
  have hx' : isBytes [x, y] := hxy
  have hc' : isBytes [orN p u, orN q w] := By2 (orN_by p u) (orN_by q w)
  have hm' : isBytes [andN p u, andN q w] := By2 (andN_by p u) (andN_by q w)
  have hp' : isBytes [(p : Int), (q : Int)] := hA
  have hu' : isBytes [(u : Int), (w : Int)] := hB
  simp only [List.take_length, rdrop0, true_and, and_true, eq_self, exists_const, not_true, iff_self, implies_true, iff_true, false_imp_iff, Nat.le_refl, List.length_cons, List.length_nil, Nat.reduceAdd]
  repeat' first | assumption | exact rokB | rfl | omega | (refine And.intro ?_ ?_) | (intro _)
end
theorem may_len {n : Int} {s : List Int} (h : mayB n s = true) : s.length = pages n := by
  unfold mayB at h
  simp only [Bool.and_eq_true, decide_eq_true_eq] at h
  exact h.1.2
theorem shape1 {n : Int} {s : List Int} (h : mayB n s = true) (hb : By s) (h1 : 1 ≤ n) (h8 : n ≤ 8) : ∃ p : Nat, s = [(p : Int)] ∧ p < 256 := by
  have hl := may_len h
  rw [show pages n = 1 by unfold pages; omega] at hl
  match s, hl with
  | [x], _ =>
    obtain ⟨x0, x1⟩ := hb x (by simp)
    obtain ⟨p, rfl, hp⟩ := nat_of x0 x1
    exact ⟨p, rfl, hp⟩
theorem shape2 {n : Int} {s : List Int} (h : mayB n s = true) (hb : By s) (h1 : 9 ≤ n) (h8 : n ≤ 16) : ∃ p q : Nat, s = [(p : Int), (q : Int)] ∧ p < 256 ∧ q < 256 := by
  have hl := may_len h
  rw [show pages n = 2 by unfold pages; omega] at hl
  match s, hl with
  | [x, y], _ =>
    obtain ⟨x0, x1⟩ := hb x (by simp)
    obtain ⟨y0, y1⟩ := hb y (by simp)
    obtain ⟨p, rfl, hp⟩ := nat_of x0 x1
    obtain ⟨q, rfl, hq⟩ := nat_of y0 y1
    exact ⟨p, q, rfl, hp, hq⟩
theorem law_all (n : Int) (a b : List Int) (t : Int) (is : Bool) (hA : By a) (hB : By b) : Walk n a b t is := by
  by_cases hbig : 100 < a.length ∨ 100 < b.length
  · refine ⟨_, _, sxF_ok (stuck_ok 8) (stuck_ok 9) (stuck_ok 10) (stuck_ok 11) (stuck_ok 12) (stuck_ok 13), args0 n a b t is, ?_⟩
    rw [vc_Big]
    refine ⟨fun _ => rfl, fun h1 => ⟨fun _ => rfl, fun h2 => ?_⟩⟩
    omega
  · have hl : a.length ≤ 100 := by omega
    have hm : b.length ≤ 100 := by omega
    by_cases hca : chkR n a = 0
    · obtain ⟨hs, hM⟩ := chk_size hca
      obtain ⟨n1, n16⟩ := sizeB_iff.1 hs
      have hE : hasE n a t = if 0 ≤ t ∧ t < n then 0 else 2 := by unfold hasE; rw [if_pos hca]
      have hF : firstE n a b = chkR n b := by unfold firstE; rw [if_pos hca]
      by_cases hcb : chkR n b = 0
      · obtain ⟨_, hN⟩ := chk_size hcb
        have hF : firstE n a b = 0 := hF.trans hcb
        by_cases h8 : n ≤ 8
        · obtain ⟨p, rfl, hp⟩ := shape1 hM hA n1 h8
          obtain ⟨u, rfl, hu⟩ := shape1 hN hB n1 h8
          by_cases ht : 0 ≤ t ∧ t < n
          · rw [if_pos ht] at hE
            obtain ⟨k, rfl⟩ : ∃ k : Nat, t = k := ⟨t.toNat, by omega⟩
            exact walkH1 n1 h8 hp hu hM hN ht.2 hE hF
          · rw [if_neg ht] at hE
            exact walkG1 n1 h8 hp hu hM hN hE hF
        · obtain ⟨p, q, rfl, hp, hq⟩ := shape2 hM hA (by omega) n16
          obtain ⟨u, w, rfl, hu, hw⟩ := shape2 hN hB (by omega) n16
          by_cases ht : 0 ≤ t ∧ t < n
          · rw [if_pos ht] at hE
            obtain ⟨k, rfl⟩ : ∃ k : Nat, t = k := ⟨t.toNat, by omega⟩
            exact walkH2 (by omega) n16 hp hq hu hw hM hN ht.2 hE hF
          · rw [if_neg ht] at hE
            exact walkG2 (by omega) n16 hp hq hu hw hM hN hE hF
      · have hF : firstE n a b = 8 := by
          rw [hF]
          unfold chkR at hcb ⊢
          rw [if_pos hs] at hcb ⊢
          split at hcb
          · exact absurd rfl hcb
          · rename_i q; rw [if_neg q]
        by_cases ht : 0 ≤ t ∧ t < n
        · rw [if_pos ht] at hE
          obtain ⟨k, rfl⟩ : ∃ k : Nat, t = k := ⟨t.toNat, by omega⟩
          by_cases h8 : n ≤ 8
          · obtain ⟨p, rfl, hp⟩ := shape1 hM hA n1 h8
            exact walkF1 n1 h8 hp hM hB hm ht.2 hE hF
          · obtain ⟨p, q, rfl, hp, hq⟩ := shape2 hM hA (by omega) n16
            exact walkF2 (by omega) n16 hp hq hM hB hm ht.2 hE hF
        · rw [if_neg ht] at hE
          exact walkE28 hA hB hl hm hE hF
    · have hE : hasE n a t = chkR n a := by unfold hasE; rw [if_neg hca]
      have hF : firstE n a b = chkR n a := by unfold firstE; rw [if_neg hca]
      have : chkR n a = 2 ∨ chkR n a = 8 := by
        unfold chkR at hca ⊢
        split
        · rename_i hs
          rw [if_pos hs] at hca
          split
          · rename_i q; rw [if_pos q] at hca; exact absurd rfl hca
          · exact .inr rfl
        · exact .inl rfl
      rcases this with q | q
      · rw [q] at hE hF
        exact walkE22 hA hB hl hm hE hF
      · rw [q] at hE hF
        exact walkE88 hA hB hl hm hE hF
theorem lo_u8 : LO Try.prog 5 1 (eI .u8) (fun n => IntKind.min .u8 ≤ n ∧ n ≤ IntKind.max .u8) := lo_int Try.underlying5 (by kernel_rfl)
theorem lo_row : LO Try.prog 22 1 (eR (eI .u8) 1 1 true) (fun xs => xs.length ≤ 9223372036854775807 ∧ ∀ y ∈ xs, IntKind.min .u8 ≤ y ∧ y ≤ IntKind.max .u8) := lo_slice Try.underlying22 (by kernel_rfl) lo_u8 (Nat.le_refl 1) rokB
theorem By_of {a : List Int} (h : a.length ≤ 9223372036854775807 ∧ ∀ y ∈ a, IntKind.min .u8 ≤ y ∧ y ≤ IntKind.max .u8) : By a := fun x hx => by
  have := h.2 x hx
  have e1 : IntKind.min .u8 = 0 := by decide
  have e2 : IntKind.max .u8 = 255 := by decide
  omega
theorem walk (n : Int) (a b : List Int) (t : Int) (is : Bool) (_ : IntKind.min .i64 ≤ n ∧ n ≤ IntKind.max .i64) (ha : a.length ≤ 9223372036854775807 ∧ ∀ y ∈ a, IntKind.min .u8 ≤ y ∧ y ≤ IntKind.max .u8) (hb : b.length ≤ 9223372036854775807 ∧ ∀ y ∈ b, IntKind.min .u8 ≤ y ∧ y ≤ IntKind.max .u8) (_ : IntKind.min .i64 ≤ t ∧ t ≤ IntKind.max .i64) (_ : True) :
    ∃ sx as', SXOK Try.prog cf0 sx ∧ sles [.int .i64 (.sym n), row a, row b, .int .i64 (.sym t), .bool (.sym (is = true))] as' ∧ scallI sx Try.prog cf0 (sexec sx Try.prog cf0 1000) 3 0 as' (post (.bool (.lit true))) :=
  law_all n a b t is (By_of ha) (By_of hb)

end
end Go.Proofs.Ytifgifhbefhkmaa.VM
