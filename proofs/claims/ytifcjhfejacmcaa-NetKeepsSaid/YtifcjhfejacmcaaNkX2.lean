/- Nets: the law, told. No conditions. -/
import Derived.Test.YtifcjhfejacmcaaProg
import Derived.KernelRfl
import Derived.Test.YtifcjhfejacmcaaNkX1
/- Nets: the law, told. No conditions. -/
namespace Go.Proofs.Ytifcjhfejacmcaa.VM
open Go Go.RowKit
set_option linter.unusedVariables false
set_option linter.unusedSimpArgs false
set_option maxRecDepth 100000
noncomputable section
def ctSame : SCall := Ct (fun a : (List (List Int) × Nat) × (List (List Int) × Nat) => [rowsN a.1.1 a.1.2, rowsN a.2.1 a.2.2]) (fun a => All a.1.1 ∧ All a.2.1 ∧ a.1.2 ≤ a.1.1.length ∧ a.2.2 ≤ a.2.1.length ∧ a.1.2 ≤ 1000) (fun a => .bool (.sym (a.1.1.take a.1.2 = a.2.1.take a.2.2)))
def ctSend : SCall := Ct (fun a : List (List Int) × List Int => [rows2 a.1, row a.2]) (fun a => All a.1 ∧ a.2.length ≤ 200) (fun a => .tup [rows2 (sendL a.1 a.2), .int .i64 (.sym (sendE a.1))])
def ctTwice : SCall := Ct (fun a : List (List Int) × Int => [rows2 a.1, .int .i64 (.sym a.2)]) (fun a => All a.1) (fun a => .tup [rows2 (twiceL a.1 a.2), .int .i64 (.sym (takeE a.1 a.2))])
def ctTake : SCall := Ct (fun a : List (List Int) × Int => [rows2 a.1, .int .i64 (.sym a.2)]) (fun a => All a.1) (fun a => .tup [rows2 (takeL a.1 a.2), row (takeB a.1 a.2), .int .i64 (.sym (takeE a.1 a.2))])
def litB (x : Int) : SV := .slI false (.lit [.int .u8 (.lit x)]) (.lit 1) false
def litR (l : List SV) (m : Nat) : SV := .slI false (.lit l) (.lit m) false
def orC (c d : SCall) : SCall := fun f base bs K => c f base bs K ∨ d f base bs K
def oneC (as0 : List SV) (r : SV) : SCall := Ct (fun _ : Unit => as0) (fun _ => True) (fun _ => r)
def s1 : SCall := oneC [.nilSl, litB 97] (.tup [rows2 [[97]], .int .i64 (.lit 0)])
def s2 : SCall := oneC [rows2 [[97]], litB 98] (.tup [rows2 [[97], [98]], .int .i64 (.lit 0)])
def w1 : SCall := oneC [rows2 [[97], [98]], .int .i64 (.lit 0)] (.tup [rows2 [[97], [98], [97]], .int .i64 (.lit 0)])
def t1 : SCall := oneC [rows2 [[97], [98], [97]], .int .i64 (.lit 1)] (.tup [rows2 [[97], [97]], litB 98, .int .i64 (.lit 0)])
def a1 : SCall := oneC [rows2 [[97], [98], [97]], litR [litB 97, litB 98, litB 97] 3] (.bool (.lit true))
def a2 : SCall := oneC [rows2 [[97], [97]], litR [litB 97, litB 97] 2] (.bool (.lit true))
def sxV : SX := ⟨rowT, ctOf [(6, orC s1 s2), (9, t1), (10, w1), (7, orC a1 a2)], lpOf []⟩
def ctCount : SCall := Ct (fun a : List (List Int) × List Int => [rows2 a.1, row a.2]) (fun a => All a.1 ∧ By a.2 ∧ a.1.length ≤ 1000) (fun a => .int .i64 (.sym (a.1.count a.2 : Int)))
def sxL (g s t w : SCall) : SX := ⟨rowT, ctOf [(4, oneC [] (.bool (.lit true))), (5, g), (6, s), (7, ctSame), (8, ctCount), (9, t), (10, w)], lpOf []⟩
def stk : SCall := fun _ _ _ _ => Stuck 300
def great (n : List (List Int)) (b : SB) : SCall := oneC [rows2 n] (.bool b)
theorem vc_alive  : (scallI sxV Try.prog cf0 (sexec sxV Try.prog cf0 1000) 4 0 [] (post (.bool (.lit true)))) = ((∃ (y1 : Unit), (True ∧ ((1 : Nat) = (1 : Nat) ∧ (97 : Int) = (97 : Int) ∧ True) ∧ True) ∧ True ∧ ((∃ (y2 : Unit), (Stuck (11 : Nat) ∧ ((1 : Nat) = (1 : Nat) ∧ (98 : Int) = (97 : Int) ∧ True) ∧ True)
∧ True ∧ ∃ (y3 : Unit), (((1 : Nat) = (2 : Nat) ∧ SC.rows eT (1 : Nat) (2 : Nat) false [[(97 : Int)]] = SC.rows eT (1 : Nat) (2 : Nat) false [[(97 : Int)], [(98 : Int)]]) ∧ (0 : Int) = (0 : Int) ∧
True) ∧ True ∧ ∃ (y4 : Unit), (((3 : Nat) = (3 : Nat) ∧ SC.rows eT (1 : Nat) (2 : Nat) false [[(97 : Int)], [(98 : Int)], [(97 : Int)]] = SC.rows eT (1 : Nat) (2 : Nat) false [[(97 : Int)], [(98 :
Int)], [(97 : Int)]]) ∧ (1 : Int) = (1 : Int) ∧ True) ∧ True ∧ ((∃ (y5 : Unit), (((3 : Nat) = (3 : Nat) ∧ SC.rows eT (1 : Nat) (2 : Nat) false [[(97 : Int)], [(98 : Int)], [(97 : Int)]] = SC.rows eT
(1 : Nat) (2 : Nat) false [[(97 : Int)], [(98 : Int)], [(97 : Int)]]) ∧ ((3 : Nat) = (3 : Nat) ∧ ((1 : Nat) = (1 : Nat) ∧ (97 : Int) = (97 : Int) ∧ True) ∧ ((1 : Nat) = (1 : Nat) ∧ (98 : Int) = (98 :
Int) ∧ True) ∧ ((1 : Nat) = (1 : Nat) ∧ (97 : Int) = (97 : Int) ∧ True) ∧ True) ∧ True) ∧ True ∧ ((∃ (y6 : Unit), (((2 : Nat) = (3 : Nat) ∧ SC.rows eT (1 : Nat) (2 : Nat) false [[(97 : Int)], [(97 :
Int)]] = SC.rows eT (1 : Nat) (2 : Nat) false [[(97 : Int)], [(98 : Int)], [(97 : Int)]]) ∧ ((2 : Nat) = (3 : Nat) ∧ ((1 : Nat) = (1 : Nat) ∧ (97 : Int) = (97 : Int) ∧ True) ∧ ((1 : Nat) = (1 : Nat) ∧
(97 : Int) = (98 : Int) ∧ True) ∧ Stuck (3 : Nat)) ∧ True) ∧ True ∧ true = true) ∨ ∃ (y6 : Unit), (((2 : Nat) = (2 : Nat) ∧ SC.rows eT (1 : Nat) (2 : Nat) false [[(97 : Int)], [(97 : Int)]] = SC.rows
eT (1 : Nat) (2 : Nat) false [[(97 : Int)], [(97 : Int)]]) ∧ ((2 : Nat) = (2 : Nat) ∧ ((1 : Nat) = (1 : Nat) ∧ (97 : Int) = (97 : Int) ∧ True) ∧ ((1 : Nat) = (1 : Nat) ∧ (97 : Int) = (97 : Int) ∧
True) ∧ True) ∧ True) ∧ True ∧ true = true)) ∨ ∃ (y5 : Unit), (((3 : Nat) = (2 : Nat) ∧ SC.rows eT (1 : Nat) (2 : Nat) false [[(97 : Int)], [(98 : Int)], [(97 : Int)]] = SC.rows eT (1 : Nat) (2 : Nat)
false [[(97 : Int)], [(97 : Int)]]) ∧ ((3 : Nat) = (2 : Nat) ∧ ((1 : Nat) = (1 : Nat) ∧ (97 : Int) = (97 : Int) ∧ True) ∧ ((1 : Nat) = (1 : Nat) ∧ (98 : Int) = (97 : Int) ∧ True) ∧ Stuck (3 : Nat)) ∧
True) ∧ True ∧ ((∃ (y6 : Unit), (((2 : Nat) = (3 : Nat) ∧ SC.rows eT (1 : Nat) (2 : Nat) false [[(97 : Int)], [(97 : Int)]] = SC.rows eT (1 : Nat) (2 : Nat) false [[(97 : Int)], [(98 : Int)], [(97 :
Int)]]) ∧ ((2 : Nat) = (3 : Nat) ∧ ((1 : Nat) = (1 : Nat) ∧ (97 : Int) = (97 : Int) ∧ True) ∧ ((1 : Nat) = (1 : Nat) ∧ (97 : Int) = (98 : Int) ∧ True) ∧ Stuck (3 : Nat)) ∧ True) ∧ True ∧ true = true)
∨ ∃ (y6 : Unit), (((2 : Nat) = (2 : Nat) ∧ SC.rows eT (1 : Nat) (2 : Nat) false [[(97 : Int)], [(97 : Int)]] = SC.rows eT (1 : Nat) (2 : Nat) false [[(97 : Int)], [(97 : Int)]]) ∧ ((2 : Nat) = (2 :
Nat) ∧ ((1 : Nat) = (1 : Nat) ∧ (97 : Int) = (97 : Int) ∧ True) ∧ ((1 : Nat) = (1 : Nat) ∧ (97 : Int) = (97 : Int) ∧ True) ∧ True) ∧ True) ∧ True ∧ true = true))) ∨ ∃ (y2 : Unit), (((1 : Nat) = (1 :
Nat) ∧ SC.rows eT (1 : Nat) (2 : Nat) false [[(97 : Int)]] = SC.rows eT (1 : Nat) (2 : Nat) false [[(97 : Int)]]) ∧ ((1 : Nat) = (1 : Nat) ∧ (98 : Int) = (98 : Int) ∧ True) ∧ True) ∧ True ∧ ∃ (y3 :
Unit), (((2 : Nat) = (2 : Nat) ∧ SC.rows eT (1 : Nat) (2 : Nat) false [[(97 : Int)], [(98 : Int)]] = SC.rows eT (1 : Nat) (2 : Nat) false [[(97 : Int)], [(98 : Int)]]) ∧ (0 : Int) = (0 : Int) ∧ True)
∧ True ∧ ∃ (y4 : Unit), (((3 : Nat) = (3 : Nat) ∧ SC.rows eT (1 : Nat) (2 : Nat) false [[(97 : Int)], [(98 : Int)], [(97 : Int)]] = SC.rows eT (1 : Nat) (2 : Nat) false [[(97 : Int)], [(98 : Int)],
[(97 : Int)]]) ∧ (1 : Int) = (1 : Int) ∧ True) ∧ True ∧ ((∃ (y5 : Unit), (((3 : Nat) = (3 : Nat) ∧ SC.rows eT (1 : Nat) (2 : Nat) false [[(97 : Int)], [(98 : Int)], [(97 : Int)]] = SC.rows eT (1 :
Nat) (2 : Nat) false [[(97 : Int)], [(98 : Int)], [(97 : Int)]]) ∧ ((3 : Nat) = (3 : Nat) ∧ ((1 : Nat) = (1 : Nat) ∧ (97 : Int) = (97 : Int) ∧ True) ∧ ((1 : Nat) = (1 : Nat) ∧ (98 : Int) = (98 : Int)
∧ True) ∧ ((1 : Nat) = (1 : Nat) ∧ (97 : Int) = (97 : Int) ∧ True) ∧ True) ∧ True) ∧ True ∧ ((∃ (y6 : Unit), (((2 : Nat) = (3 : Nat) ∧ SC.rows eT (1 : Nat) (2 : Nat) false [[(97 : Int)], [(97 : Int)]]
= SC.rows eT (1 : Nat) (2 : Nat) false [[(97 : Int)], [(98 : Int)], [(97 : Int)]]) ∧ ((2 : Nat) = (3 : Nat) ∧ ((1 : Nat) = (1 : Nat) ∧ (97 : Int) = (97 : Int) ∧ True) ∧ ((1 : Nat) = (1 : Nat) ∧ (97 :
Int) = (98 : Int) ∧ True) ∧ Stuck (3 : Nat)) ∧ True) ∧ True ∧ true = true) ∨ ∃ (y6 : Unit), (((2 : Nat) = (2 : Nat) ∧ SC.rows eT (1 : Nat) (2 : Nat) false [[(97 : Int)], [(97 : Int)]] = SC.rows eT (1
: Nat) (2 : Nat) false [[(97 : Int)], [(97 : Int)]]) ∧ ((2 : Nat) = (2 : Nat) ∧ ((1 : Nat) = (1 : Nat) ∧ (97 : Int) = (97 : Int) ∧ True) ∧ ((1 : Nat) = (1 : Nat) ∧ (97 : Int) = (97 : Int) ∧ True) ∧
True) ∧ True) ∧ True ∧ true = true)) ∨ ∃ (y5 : Unit), (((3 : Nat) = (2 : Nat) ∧ SC.rows eT (1 : Nat) (2 : Nat) false [[(97 : Int)], [(98 : Int)], [(97 : Int)]] = SC.rows eT (1 : Nat) (2 : Nat) false
[[(97 : Int)], [(97 : Int)]]) ∧ ((3 : Nat) = (2 : Nat) ∧ ((1 : Nat) = (1 : Nat) ∧ (97 : Int) = (97 : Int) ∧ True) ∧ ((1 : Nat) = (1 : Nat) ∧ (98 : Int) = (97 : Int) ∧ True) ∧ Stuck (3 : Nat)) ∧ True)
∧ True ∧ ((∃ (y6 : Unit), (((2 : Nat) = (3 : Nat) ∧ SC.rows eT (1 : Nat) (2 : Nat) false [[(97 : Int)], [(97 : Int)]] = SC.rows eT (1 : Nat) (2 : Nat) false [[(97 : Int)], [(98 : Int)], [(97 : Int)]])
∧ ((2 : Nat) = (3 : Nat) ∧ ((1 : Nat) = (1 : Nat) ∧ (97 : Int) = (97 : Int) ∧ True) ∧ ((1 : Nat) = (1 : Nat) ∧ (97 : Int) = (98 : Int) ∧ True) ∧ Stuck (3 : Nat)) ∧ True) ∧ True ∧ true = true) ∨ ∃ (y6
: Unit), (((2 : Nat) = (2 : Nat) ∧ SC.rows eT (1 : Nat) (2 : Nat) false [[(97 : Int)], [(97 : Int)]] = SC.rows eT (1 : Nat) (2 : Nat) false [[(97 : Int)], [(97 : Int)]]) ∧ ((2 : Nat) = (2 : Nat) ∧ ((1
: Nat) = (1 : Nat) ∧ (97 : Int) = (97 : Int) ∧ True) ∧ ((1 : Nat) = (1 : Nat) ∧ (97 : Int) = (97 : Int) ∧ True) ∧ True) ∧ True) ∧ True ∧ true = true)))) ∨ ∃ (y1 : Unit), (((1 : Nat) = (0 : Nat) ∧ ∀
(y2 : List Int), List.length (eT y2) = (1 : Nat) ∧ (∀ (y3 : SV), y3 ∈ eT y2 → imm (2 : Nat) y3 ∧ SV.one y3 = true) ∧ (false = true → ∀ (y3 : SV), y3 ∈ eT y2 → scalar y3)) ∧ ((1 : Nat) = (1 : Nat) ∧
(97 : Int) = (98 : Int) ∧ True) ∧ True) ∧ True ∧ ((∃ (y2 : Unit), (Stuck (11 : Nat) ∧ ((1 : Nat) = (1 : Nat) ∧ (98 : Int) = (97 : Int) ∧ True) ∧ True) ∧ True ∧ ∃ (y3 : Unit), (((1 : Nat) = (2 : Nat) ∧
SC.rows eT (1 : Nat) (2 : Nat) false [[(97 : Int)]] = SC.rows eT (1 : Nat) (2 : Nat) false [[(97 : Int)], [(98 : Int)]]) ∧ (0 : Int) = (0 : Int) ∧ True) ∧ True ∧ ∃ (y4 : Unit), (((3 : Nat) = (3 : Nat)
∧ SC.rows eT (1 : Nat) (2 : Nat) false [[(97 : Int)], [(98 : Int)], [(97 : Int)]] = SC.rows eT (1 : Nat) (2 : Nat) false [[(97 : Int)], [(98 : Int)], [(97 : Int)]]) ∧ (1 : Int) = (1 : Int) ∧ True) ∧
True ∧ ((∃ (y5 : Unit), (((3 : Nat) = (3 : Nat) ∧ SC.rows eT (1 : Nat) (2 : Nat) false [[(97 : Int)], [(98 : Int)], [(97 : Int)]] = SC.rows eT (1 : Nat) (2 : Nat) false [[(97 : Int)], [(98 : Int)],
[(97 : Int)]]) ∧ ((3 : Nat) = (3 : Nat) ∧ ((1 : Nat) = (1 : Nat) ∧ (97 : Int) = (97 : Int) ∧ True) ∧ ((1 : Nat) = (1 : Nat) ∧ (98 : Int) = (98 : Int) ∧ True) ∧ ((1 : Nat) = (1 : Nat) ∧ (97 : Int) =
(97 : Int) ∧ True) ∧ True) ∧ True) ∧ True ∧ ((∃ (y6 : Unit), (((2 : Nat) = (3 : Nat) ∧ SC.rows eT (1 : Nat) (2 : Nat) false [[(97 : Int)], [(97 : Int)]] = SC.rows eT (1 : Nat) (2 : Nat) false [[(97 :
Int)], [(98 : Int)], [(97 : Int)]]) ∧ ((2 : Nat) = (3 : Nat) ∧ ((1 : Nat) = (1 : Nat) ∧ (97 : Int) = (97 : Int) ∧ True) ∧ ((1 : Nat) = (1 : Nat) ∧ (97 : Int) = (98 : Int) ∧ True) ∧ Stuck (3 : Nat)) ∧
True) ∧ True ∧ true = true) ∨ ∃ (y6 : Unit), (((2 : Nat) = (2 : Nat) ∧ SC.rows eT (1 : Nat) (2 : Nat) false [[(97 : Int)], [(97 : Int)]] = SC.rows eT (1 : Nat) (2 : Nat) false [[(97 : Int)], [(97 :
Int)]]) ∧ ((2 : Nat) = (2 : Nat) ∧ ((1 : Nat) = (1 : Nat) ∧ (97 : Int) = (97 : Int) ∧ True) ∧ ((1 : Nat) = (1 : Nat) ∧ (97 : Int) = (97 : Int) ∧ True) ∧ True) ∧ True) ∧ True ∧ true = true)) ∨ ∃ (y5 :
Unit), (((3 : Nat) = (2 : Nat) ∧ SC.rows eT (1 : Nat) (2 : Nat) false [[(97 : Int)], [(98 : Int)], [(97 : Int)]] = SC.rows eT (1 : Nat) (2 : Nat) false [[(97 : Int)], [(97 : Int)]]) ∧ ((3 : Nat) = (2
: Nat) ∧ ((1 : Nat) = (1 : Nat) ∧ (97 : Int) = (97 : Int) ∧ True) ∧ ((1 : Nat) = (1 : Nat) ∧ (98 : Int) = (97 : Int) ∧ True) ∧ Stuck (3 : Nat)) ∧ True) ∧ True ∧ ((∃ (y6 : Unit), (((2 : Nat) = (3 :
Nat) ∧ SC.rows eT (1 : Nat) (2 : Nat) false [[(97 : Int)], [(97 : Int)]] = SC.rows eT (1 : Nat) (2 : Nat) false [[(97 : Int)], [(98 : Int)], [(97 : Int)]]) ∧ ((2 : Nat) = (3 : Nat) ∧ ((1 : Nat) = (1 :
Nat) ∧ (97 : Int) = (97 : Int) ∧ True) ∧ ((1 : Nat) = (1 : Nat) ∧ (97 : Int) = (98 : Int) ∧ True) ∧ Stuck (3 : Nat)) ∧ True) ∧ True ∧ true = true) ∨ ∃ (y6 : Unit), (((2 : Nat) = (2 : Nat) ∧ SC.rows eT
(1 : Nat) (2 : Nat) false [[(97 : Int)], [(97 : Int)]] = SC.rows eT (1 : Nat) (2 : Nat) false [[(97 : Int)], [(97 : Int)]]) ∧ ((2 : Nat) = (2 : Nat) ∧ ((1 : Nat) = (1 : Nat) ∧ (97 : Int) = (97 : Int)
∧ True) ∧ ((1 : Nat) = (1 : Nat) ∧ (97 : Int) = (97 : Int) ∧ True) ∧ True) ∧ True) ∧ True ∧ true = true))) ∨ ∃ (y2 : Unit), (((2 : Nat) = (1 : Nat) ∧ SC.rows eT (1 : Nat) (2 : Nat) false [[(97 :
Int)], [(98 : Int)]] = SC.rows eT (1 : Nat) (2 : Nat) false [[(97 : Int)]]) ∧ ((1 : Nat) = (1 : Nat) ∧ (98 : Int) = (98 : Int) ∧ True) ∧ True) ∧ True ∧ ∃ (y3 : Unit), (((2 : Nat) = (2 : Nat) ∧ SC.rows
eT (1 : Nat) (2 : Nat) false [[(97 : Int)], [(98 : Int)]] = SC.rows eT (1 : Nat) (2 : Nat) false [[(97 : Int)], [(98 : Int)]]) ∧ (0 : Int) = (0 : Int) ∧ True) ∧ True ∧ ∃ (y4 : Unit), (((3 : Nat) = (3
: Nat) ∧ SC.rows eT (1 : Nat) (2 : Nat) false [[(97 : Int)], [(98 : Int)], [(97 : Int)]] = SC.rows eT (1 : Nat) (2 : Nat) false [[(97 : Int)], [(98 : Int)], [(97 : Int)]]) ∧ (1 : Int) = (1 : Int) ∧
True) ∧ True ∧ ((∃ (y5 : Unit), (((3 : Nat) = (3 : Nat) ∧ SC.rows eT (1 : Nat) (2 : Nat) false [[(97 : Int)], [(98 : Int)], [(97 : Int)]] = SC.rows eT (1 : Nat) (2 : Nat) false [[(97 : Int)], [(98 :
Int)], [(97 : Int)]]) ∧ ((3 : Nat) = (3 : Nat) ∧ ((1 : Nat) = (1 : Nat) ∧ (97 : Int) = (97 : Int) ∧ True) ∧ ((1 : Nat) = (1 : Nat) ∧ (98 : Int) = (98 : Int) ∧ True) ∧ ((1 : Nat) = (1 : Nat) ∧ (97 :
Int) = (97 : Int) ∧ True) ∧ True) ∧ True) ∧ True ∧ ((∃ (y6 : Unit), (((2 : Nat) = (3 : Nat) ∧ SC.rows eT (1 : Nat) (2 : Nat) false [[(97 : Int)], [(97 : Int)]] = SC.rows eT (1 : Nat) (2 : Nat) false
[[(97 : Int)], [(98 : Int)], [(97 : Int)]]) ∧ ((2 : Nat) = (3 : Nat) ∧ ((1 : Nat) = (1 : Nat) ∧ (97 : Int) = (97 : Int) ∧ True) ∧ ((1 : Nat) = (1 : Nat) ∧ (97 : Int) = (98 : Int) ∧ True) ∧ Stuck (3 :
Nat)) ∧ True) ∧ True ∧ true = true) ∨ ∃ (y6 : Unit), (((2 : Nat) = (2 : Nat) ∧ SC.rows eT (1 : Nat) (2 : Nat) false [[(97 : Int)], [(97 : Int)]] = SC.rows eT (1 : Nat) (2 : Nat) false [[(97 : Int)],
[(97 : Int)]]) ∧ ((2 : Nat) = (2 : Nat) ∧ ((1 : Nat) = (1 : Nat) ∧ (97 : Int) = (97 : Int) ∧ True) ∧ ((1 : Nat) = (1 : Nat) ∧ (97 : Int) = (97 : Int) ∧ True) ∧ True) ∧ True) ∧ True ∧ true = true)) ∨ ∃
(y5 : Unit), (((3 : Nat) = (2 : Nat) ∧ SC.rows eT (1 : Nat) (2 : Nat) false [[(97 : Int)], [(98 : Int)], [(97 : Int)]] = SC.rows eT (1 : Nat) (2 : Nat) false [[(97 : Int)], [(97 : Int)]]) ∧ ((3 : Nat)
= (2 : Nat) ∧ ((1 : Nat) = (1 : Nat) ∧ (97 : Int) = (97 : Int) ∧ True) ∧ ((1 : Nat) = (1 : Nat) ∧ (98 : Int) = (97 : Int) ∧ True) ∧ Stuck (3 : Nat)) ∧ True) ∧ True ∧ ((∃ (y6 : Unit), (((2 : Nat) = (3
: Nat) ∧ SC.rows eT (1 : Nat) (2 : Nat) false [[(97 : Int)], [(97 : Int)]] = SC.rows eT (1 : Nat) (2 : Nat) false [[(97 : Int)], [(98 : Int)], [(97 : Int)]]) ∧ ((2 : Nat) = (3 : Nat) ∧ ((1 : Nat) = (1
: Nat) ∧ (97 : Int) = (97 : Int) ∧ True) ∧ ((1 : Nat) = (1 : Nat) ∧ (97 : Int) = (98 : Int) ∧ True) ∧ Stuck (3 : Nat)) ∧ True) ∧ True ∧ true = true) ∨ ∃ (y6 : Unit), (((2 : Nat) = (2 : Nat) ∧ SC.rows
eT (1 : Nat) (2 : Nat) false [[(97 : Int)], [(97 : Int)]] = SC.rows eT (1 : Nat) (2 : Nat) false [[(97 : Int)], [(97 : Int)]]) ∧ ((2 : Nat) = (2 : Nat) ∧ ((1 : Nat) = (1 : Nat) ∧ (97 : Int) = (97 :
Int) ∧ True) ∧ ((1 : Nat) = (1 : Nat) ∧ (97 : Int) = (97 : Int) ∧ True) ∧ True) ∧ True) ∧ True ∧ true = true)))) := by kernel_rfl
theorem vc_Big (n : List (List Int)) (b : List Int) (i : Int) (g : Prop) : (scallI (sxL (great n (.sym g)) (stk) (stk) (stk)) Try.prog cf0 (sexec (sxL (great n (.sym g)) (stk) (stk) (stk)) Try.prog cf0 1000) 3 0 [rows2 n, row b, .int .i64 (.sym i)] (post (.bool (.lit true)))) = (∃ (y4 : Unit), True ∧ True ∧ ∃ (y5 : Unit), ((List.length n = List.length n ∧ SC.rows eT (1 : Nat) (2 : Nat) false n = SC.rows eT (1 : Nat) (2 : Nat) false n) ∧ True) ∧ True ∧ (g → true = true) ∧ (¬g
→ ((200 : Int) < (↑(List.length b) : Int) → true = true) ∧ (¬(200 : Int) < (↑(List.length b) : Int) → Stuck (300 : Nat)))) := by kernel_rfl
theorem vc_No (n : List (List Int)) (b : List Int) (i : Int)  : (scallI (sxL (great n (.lit false)) (oneC [rows2 n, row b] (.tup [rows2 [], .int .i64 (.lit 8)])) (stk) (stk)) Try.prog cf0 (sexec (sxL (great n (.lit false)) (oneC [rows2 n, row b] (.tup [rows2 [], .int .i64 (.lit 8)])) (stk) (stk)) Try.prog cf0 1000) 3 0 [rows2 n, row b, .int .i64 (.sym i)] (post (.bool (.lit true)))) = (∃ (y3 : Unit), True ∧ True ∧ ∃ (y4 : Unit), ((List.length n = List.length n ∧ SC.rows eT (1 : Nat) (2 : Nat) false n = SC.rows eT (1 : Nat) (2 : Nat) false n) ∧ True) ∧ True ∧ ((200 : Int) <
(↑(List.length b) : Int) → true = true) ∧ (¬(200 : Int) < (↑(List.length b) : Int) → ∃ (y5 : Unit), ((List.length n = List.length n ∧ SC.rows eT (1 : Nat) (2 : Nat) false n = SC.rows eT (1 : Nat) (2 :
Nat) false n) ∧ (List.length b = List.length b ∧ SC.rows eB (1 : Nat) (1 : Nat) true b = SC.rows eB (1 : Nat) (1 : Nat) true b) ∧ True) ∧ True ∧ ((64 : Int) < (↑(List.length n) : Int) → ((0 : Int) =
(0 : Int) ↔ true = true)) ∧ (¬(64 : Int) < (↑(List.length n) : Int) → false = true))) := by kernel_rfl
theorem vc_Out (n : List (List Int)) (b : List Int) (i : Int) (x : List (List Int)) : (scallI (sxL (great n (.lit false)) (oneC [rows2 n, row b] (.tup [rows2 x, .int .i64 (.lit 0)])) (oneC [rows2 x, .int .i64 (.sym i)] (.tup [rows2 [], row [], .int .i64 (.lit 2)])) (oneC [rows2 x, .int .i64 (.sym i)] (.tup [rows2 [], .int .i64 (.lit 2)]))) Try.prog cf0 (sexec (sxL (great n (.lit false)) (oneC [rows2 n, row b] (.tup [rows2 x, .int .i64 (.lit 0)])) (oneC [rows2 x, .int .i64 (.sym i)] (.tup [rows2 [], row [], .int .i64 (.lit 2)])) (oneC [rows2 x, .int .i64 (.sym i)] (.tup [rows2 [], .int .i64 (.lit 2)]))) Try.prog cf0 1000) 3 0 [rows2 n, row b, .int .i64 (.sym i)] (post (.bool (.lit true)))) = (∃ (y4 : Unit), True ∧ True ∧ ∃ (y5 : Unit), ((List.length n = List.length n ∧ SC.rows eT (1 : Nat) (2 : Nat) false n = SC.rows eT (1 : Nat) (2 : Nat) false n) ∧ True) ∧ True ∧ ((200 : Int) <
(↑(List.length b) : Int) → true = true) ∧ (¬(200 : Int) < (↑(List.length b) : Int) → ∃ (y6 : Unit), ((List.length n = List.length n ∧ SC.rows eT (1 : Nat) (2 : Nat) false n = SC.rows eT (1 : Nat) (2 :
Nat) false n) ∧ (List.length b = List.length b ∧ SC.rows eB (1 : Nat) (1 : Nat) true b = SC.rows eB (1 : Nat) (1 : Nat) true b) ∧ True) ∧ True ∧ ((↑(List.length n) : Int) < (64 : Int) →
(¬(↑(List.length x) : Int) = IntKind.wrap IntKind.i64 ((↑(List.length n) : Int) + (1 : Int)) → false = true) ∧ (¬¬(↑(List.length x) : Int) = IntKind.wrap IntKind.i64 ((↑(List.length n) : Int) + (1 :
Int)) → (0 : Int) ≤ (↑(List.length n) : Int) ∧ (↑(List.length n) : Int) ≤ (↑(List.length x) : Int) ∧ (↑(List.length x) : Int) ≤ (↑(List.length x) : Int) ∧ ∃ (y7 : (List (List Int) × Nat) × List (List
Int) × Nat), ((Int.toNat (↑(List.length n) : Int) = Prod.snd (Prod.fst y7) ∧ SC.rows eT (1 : Nat) (2 : Nat) false (rdrop (SN.lit (0 : Nat)) x) = SC.rows eT (1 : Nat) (2 : Nat) false (Prod.fst
(Prod.fst y7))) ∧ (List.length n = Prod.snd (Prod.snd y7) ∧ SC.rows eT (1 : Nat) (2 : Nat) false n = SC.rows eT (1 : Nat) (2 : Nat) false (Prod.fst (Prod.snd y7))) ∧ True) ∧ ((∀ (y8 : List Int), y8 ∈
Prod.fst (Prod.fst y7) → (∀ (y9 : Int), y9 ∈ y8 → (0 : Int) ≤ y9 ∧ y9 < (256 : Int)) ∧ List.length y8 ≤ (200 : Nat)) ∧ (∀ (y8 : List Int), y8 ∈ Prod.fst (Prod.snd y7) → (∀ (y9 : Int), y9 ∈ y8 → (0 :
Int) ≤ y9 ∧ y9 < (256 : Int)) ∧ List.length y8 ≤ (200 : Nat)) ∧ Prod.snd (Prod.fst y7) ≤ List.length (Prod.fst (Prod.fst y7)) ∧ Prod.snd (Prod.snd y7) ≤ List.length (Prod.fst (Prod.snd y7)) ∧ Prod.snd
(Prod.fst y7) ≤ (1000 : Nat)) ∧ (¬List.take (Prod.snd (Prod.fst y7)) (Prod.fst (Prod.fst y7)) = List.take (Prod.snd (Prod.snd y7)) (Prod.fst (Prod.snd y7)) → false = true) ∧ (¬¬List.take (Prod.snd
(Prod.fst y7)) (Prod.fst (Prod.fst y7)) = List.take (Prod.snd (Prod.snd y7)) (Prod.fst (Prod.snd y7)) → ∃ (y8 : List (List Int) × List Int), ((List.length x = List.length (Prod.fst y8) ∧ SC.rows eT (1
: Nat) (2 : Nat) false x = SC.rows eT (1 : Nat) (2 : Nat) false (Prod.fst y8)) ∧ (List.length b = List.length (Prod.snd y8) ∧ SC.rows eB (1 : Nat) (1 : Nat) true b = SC.rows eB (1 : Nat) (1 : Nat)
true (Prod.snd y8)) ∧ True) ∧ ((∀ (y9 : List Int), y9 ∈ Prod.fst y8 → (∀ (y10 : Int), y10 ∈ y9 → (0 : Int) ≤ y10 ∧ y10 < (256 : Int)) ∧ List.length y9 ≤ (200 : Nat)) ∧ (∀ (y9 : Int), y9 ∈ Prod.snd y8
→ (0 : Int) ≤ y9 ∧ y9 < (256 : Int)) ∧ List.length (Prod.fst y8) ≤ (1000 : Nat)) ∧ ∃ (y9 : List (List Int) × List Int), ((List.length n = List.length (Prod.fst y9) ∧ SC.rows eT (1 : Nat) (2 : Nat)
false n = SC.rows eT (1 : Nat) (2 : Nat) false (Prod.fst y9)) ∧ (List.length b = List.length (Prod.snd y9) ∧ SC.rows eB (1 : Nat) (1 : Nat) true b = SC.rows eB (1 : Nat) (1 : Nat) true (Prod.snd y9))
∧ True) ∧ ((∀ (y10 : List Int), y10 ∈ Prod.fst y9 → (∀ (y11 : Int), y11 ∈ y10 → (0 : Int) ≤ y11 ∧ y11 < (256 : Int)) ∧ List.length y10 ≤ (200 : Nat)) ∧ (∀ (y10 : Int), y10 ∈ Prod.snd y9 → (0 : Int) ≤
y10 ∧ y10 < (256 : Int)) ∧ List.length (Prod.fst y9) ≤ (1000 : Nat)) ∧ (¬(↑(List.count (Prod.snd y8) (Prod.fst y8)) : Int) = IntKind.wrap IntKind.i64 ((↑(List.count (Prod.snd y9) (Prod.fst y9)) : Int)
+ (1 : Int)) → false = true) ∧ (¬¬(↑(List.count (Prod.snd y8) (Prod.fst y8)) : Int) = IntKind.wrap IntKind.i64 ((↑(List.count (Prod.snd y9) (Prod.fst y9)) : Int) + (1 : Int)) → ∃ (y10 : Unit),
((List.length x = List.length x ∧ SC.rows eT (1 : Nat) (2 : Nat) false x = SC.rows eT (1 : Nat) (2 : Nat) false x) ∧ i = i ∧ True) ∧ True ∧ ∃ (y11 : Unit), ((List.length x = List.length x ∧ SC.rows eT
(1 : Nat) (2 : Nat) false x = SC.rows eT (1 : Nat) (2 : Nat) false x) ∧ i = i ∧ True) ∧ True ∧ ((0 : Int) = (0 : Int) → ((0 : Int) = (0 : Int) → (i < (0 : Int) → true = true) ∧ (¬i < (0 : Int) →
((↑(List.length x) : Int) ≤ i ↔ true = true))) ∧ (¬(0 : Int) = (0 : Int) → false = true)) ∧ (¬(0 : Int) = (0 : Int) → false = true))))) ∧ (¬(↑(List.length n) : Int) < (64 : Int) → (¬(↑(List.length x)
: Int) = IntKind.wrap IntKind.i64 ((↑(List.length n) : Int) + (0 : Int)) → false = true) ∧ (¬¬(↑(List.length x) : Int) = IntKind.wrap IntKind.i64 ((↑(List.length n) : Int) + (0 : Int)) → (0 : Int) ≤
(↑(List.length n) : Int) ∧ (↑(List.length n) : Int) ≤ (↑(List.length x) : Int) ∧ (↑(List.length x) : Int) ≤ (↑(List.length x) : Int) ∧ ∃ (y7 : (List (List Int) × Nat) × List (List Int) × Nat),
((Int.toNat (↑(List.length n) : Int) = Prod.snd (Prod.fst y7) ∧ SC.rows eT (1 : Nat) (2 : Nat) false (rdrop (SN.lit (0 : Nat)) x) = SC.rows eT (1 : Nat) (2 : Nat) false (Prod.fst (Prod.fst y7))) ∧
(List.length n = Prod.snd (Prod.snd y7) ∧ SC.rows eT (1 : Nat) (2 : Nat) false n = SC.rows eT (1 : Nat) (2 : Nat) false (Prod.fst (Prod.snd y7))) ∧ True) ∧ ((∀ (y8 : List Int), y8 ∈ Prod.fst (Prod.fst
y7) → (∀ (y9 : Int), y9 ∈ y8 → (0 : Int) ≤ y9 ∧ y9 < (256 : Int)) ∧ List.length y8 ≤ (200 : Nat)) ∧ (∀ (y8 : List Int), y8 ∈ Prod.fst (Prod.snd y7) → (∀ (y9 : Int), y9 ∈ y8 → (0 : Int) ≤ y9 ∧ y9 <
(256 : Int)) ∧ List.length y8 ≤ (200 : Nat)) ∧ Prod.snd (Prod.fst y7) ≤ List.length (Prod.fst (Prod.fst y7)) ∧ Prod.snd (Prod.snd y7) ≤ List.length (Prod.fst (Prod.snd y7)) ∧ Prod.snd (Prod.fst y7) ≤
(1000 : Nat)) ∧ (¬List.take (Prod.snd (Prod.fst y7)) (Prod.fst (Prod.fst y7)) = List.take (Prod.snd (Prod.snd y7)) (Prod.fst (Prod.snd y7)) → false = true) ∧ (¬¬List.take (Prod.snd (Prod.fst y7))
(Prod.fst (Prod.fst y7)) = List.take (Prod.snd (Prod.snd y7)) (Prod.fst (Prod.snd y7)) → ∃ (y8 : List (List Int) × List Int), ((List.length x = List.length (Prod.fst y8) ∧ SC.rows eT (1 : Nat) (2 :
Nat) false x = SC.rows eT (1 : Nat) (2 : Nat) false (Prod.fst y8)) ∧ (List.length b = List.length (Prod.snd y8) ∧ SC.rows eB (1 : Nat) (1 : Nat) true b = SC.rows eB (1 : Nat) (1 : Nat) true (Prod.snd
y8)) ∧ True) ∧ ((∀ (y9 : List Int), y9 ∈ Prod.fst y8 → (∀ (y10 : Int), y10 ∈ y9 → (0 : Int) ≤ y10 ∧ y10 < (256 : Int)) ∧ List.length y9 ≤ (200 : Nat)) ∧ (∀ (y9 : Int), y9 ∈ Prod.snd y8 → (0 : Int) ≤
y9 ∧ y9 < (256 : Int)) ∧ List.length (Prod.fst y8) ≤ (1000 : Nat)) ∧ ∃ (y9 : List (List Int) × List Int), ((List.length n = List.length (Prod.fst y9) ∧ SC.rows eT (1 : Nat) (2 : Nat) false n = SC.rows
eT (1 : Nat) (2 : Nat) false (Prod.fst y9)) ∧ (List.length b = List.length (Prod.snd y9) ∧ SC.rows eB (1 : Nat) (1 : Nat) true b = SC.rows eB (1 : Nat) (1 : Nat) true (Prod.snd y9)) ∧ True) ∧ ((∀ (y10
: List Int), y10 ∈ Prod.fst y9 → (∀ (y11 : Int), y11 ∈ y10 → (0 : Int) ≤ y11 ∧ y11 < (256 : Int)) ∧ List.length y10 ≤ (200 : Nat)) ∧ (∀ (y10 : Int), y10 ∈ Prod.snd y9 → (0 : Int) ≤ y10 ∧ y10 < (256 :
Int)) ∧ List.length (Prod.fst y9) ≤ (1000 : Nat)) ∧ (¬(↑(List.count (Prod.snd y8) (Prod.fst y8)) : Int) = IntKind.wrap IntKind.i64 ((↑(List.count (Prod.snd y9) (Prod.fst y9)) : Int) + (0 : Int)) →
false = true) ∧ (¬¬(↑(List.count (Prod.snd y8) (Prod.fst y8)) : Int) = IntKind.wrap IntKind.i64 ((↑(List.count (Prod.snd y9) (Prod.fst y9)) : Int) + (0 : Int)) → ∃ (y10 : Unit), ((List.length x =
List.length x ∧ SC.rows eT (1 : Nat) (2 : Nat) false x = SC.rows eT (1 : Nat) (2 : Nat) false x) ∧ i = i ∧ True) ∧ True ∧ ∃ (y11 : Unit), ((List.length x = List.length x ∧ SC.rows eT (1 : Nat) (2 :
Nat) false x = SC.rows eT (1 : Nat) (2 : Nat) false x) ∧ i = i ∧ True) ∧ True ∧ ((0 : Int) = (0 : Int) → ((0 : Int) = (0 : Int) → (i < (0 : Int) → true = true) ∧ (¬i < (0 : Int) → ((↑(List.length x) :
Int) ≤ i ↔ true = true))) ∧ (¬(0 : Int) = (0 : Int) → false = true)) ∧ (¬(0 : Int) = (0 : Int) → false = true))))))) := by kernel_rfl
theorem vc_In (n : List (List Int)) (b : List Int) (i : Int) (x p t : List (List Int)) (c : List Int) : (scallI (sxL (great n (.lit false)) (oneC [rows2 n, row b] (.tup [rows2 x, .int .i64 (.lit 0)])) (oneC [rows2 x, .int .i64 (.sym i)] (.tup [rows2 p, row c, .int .i64 (.lit 0)])) (oneC [rows2 x, .int .i64 (.sym i)] (.tup [rows2 t, .int .i64 (.lit 0)]))) Try.prog cf0 (sexec (sxL (great n (.lit false)) (oneC [rows2 n, row b] (.tup [rows2 x, .int .i64 (.lit 0)])) (oneC [rows2 x, .int .i64 (.sym i)] (.tup [rows2 p, row c, .int .i64 (.lit 0)])) (oneC [rows2 x, .int .i64 (.sym i)] (.tup [rows2 t, .int .i64 (.lit 0)]))) Try.prog cf0 1000) 3 0 [rows2 n, row b, .int .i64 (.sym i)] (post (.bool (.lit true)))) = (∃ (y7 : Unit), True ∧ True ∧ ∃ (y8 : Unit), ((List.length n = List.length n ∧ SC.rows eT (1 : Nat) (2 : Nat) false n = SC.rows eT (1 : Nat) (2 : Nat) false n) ∧ True) ∧ True ∧ ((200 : Int) <
(↑(List.length b) : Int) → true = true) ∧ (¬(200 : Int) < (↑(List.length b) : Int) → ∃ (y9 : Unit), ((List.length n = List.length n ∧ SC.rows eT (1 : Nat) (2 : Nat) false n = SC.rows eT (1 : Nat) (2 :
Nat) false n) ∧ (List.length b = List.length b ∧ SC.rows eB (1 : Nat) (1 : Nat) true b = SC.rows eB (1 : Nat) (1 : Nat) true b) ∧ True) ∧ True ∧ ((↑(List.length n) : Int) < (64 : Int) →
(¬(↑(List.length x) : Int) = IntKind.wrap IntKind.i64 ((↑(List.length n) : Int) + (1 : Int)) → false = true) ∧ (¬¬(↑(List.length x) : Int) = IntKind.wrap IntKind.i64 ((↑(List.length n) : Int) + (1 :
Int)) → (0 : Int) ≤ (↑(List.length n) : Int) ∧ (↑(List.length n) : Int) ≤ (↑(List.length x) : Int) ∧ (↑(List.length x) : Int) ≤ (↑(List.length x) : Int) ∧ ∃ (y10 : (List (List Int) × Nat) × List (List
Int) × Nat), ((Int.toNat (↑(List.length n) : Int) = Prod.snd (Prod.fst y10) ∧ SC.rows eT (1 : Nat) (2 : Nat) false (rdrop (SN.lit (0 : Nat)) x) = SC.rows eT (1 : Nat) (2 : Nat) false (Prod.fst
(Prod.fst y10))) ∧ (List.length n = Prod.snd (Prod.snd y10) ∧ SC.rows eT (1 : Nat) (2 : Nat) false n = SC.rows eT (1 : Nat) (2 : Nat) false (Prod.fst (Prod.snd y10))) ∧ True) ∧ ((∀ (y11 : List Int),
y11 ∈ Prod.fst (Prod.fst y10) → (∀ (y12 : Int), y12 ∈ y11 → (0 : Int) ≤ y12 ∧ y12 < (256 : Int)) ∧ List.length y11 ≤ (200 : Nat)) ∧ (∀ (y11 : List Int), y11 ∈ Prod.fst (Prod.snd y10) → (∀ (y12 : Int),
y12 ∈ y11 → (0 : Int) ≤ y12 ∧ y12 < (256 : Int)) ∧ List.length y11 ≤ (200 : Nat)) ∧ Prod.snd (Prod.fst y10) ≤ List.length (Prod.fst (Prod.fst y10)) ∧ Prod.snd (Prod.snd y10) ≤ List.length (Prod.fst
(Prod.snd y10)) ∧ Prod.snd (Prod.fst y10) ≤ (1000 : Nat)) ∧ (¬List.take (Prod.snd (Prod.fst y10)) (Prod.fst (Prod.fst y10)) = List.take (Prod.snd (Prod.snd y10)) (Prod.fst (Prod.snd y10)) → false =
true) ∧ (¬¬List.take (Prod.snd (Prod.fst y10)) (Prod.fst (Prod.fst y10)) = List.take (Prod.snd (Prod.snd y10)) (Prod.fst (Prod.snd y10)) → ∃ (y11 : List (List Int) × List Int), ((List.length x =
List.length (Prod.fst y11) ∧ SC.rows eT (1 : Nat) (2 : Nat) false x = SC.rows eT (1 : Nat) (2 : Nat) false (Prod.fst y11)) ∧ (List.length b = List.length (Prod.snd y11) ∧ SC.rows eB (1 : Nat) (1 :
Nat) true b = SC.rows eB (1 : Nat) (1 : Nat) true (Prod.snd y11)) ∧ True) ∧ ((∀ (y12 : List Int), y12 ∈ Prod.fst y11 → (∀ (y13 : Int), y13 ∈ y12 → (0 : Int) ≤ y13 ∧ y13 < (256 : Int)) ∧ List.length
y12 ≤ (200 : Nat)) ∧ (∀ (y12 : Int), y12 ∈ Prod.snd y11 → (0 : Int) ≤ y12 ∧ y12 < (256 : Int)) ∧ List.length (Prod.fst y11) ≤ (1000 : Nat)) ∧ ∃ (y12 : List (List Int) × List Int), ((List.length n =
List.length (Prod.fst y12) ∧ SC.rows eT (1 : Nat) (2 : Nat) false n = SC.rows eT (1 : Nat) (2 : Nat) false (Prod.fst y12)) ∧ (List.length b = List.length (Prod.snd y12) ∧ SC.rows eB (1 : Nat) (1 :
Nat) true b = SC.rows eB (1 : Nat) (1 : Nat) true (Prod.snd y12)) ∧ True) ∧ ((∀ (y13 : List Int), y13 ∈ Prod.fst y12 → (∀ (y14 : Int), y14 ∈ y13 → (0 : Int) ≤ y14 ∧ y14 < (256 : Int)) ∧ List.length
y13 ≤ (200 : Nat)) ∧ (∀ (y13 : Int), y13 ∈ Prod.snd y12 → (0 : Int) ≤ y13 ∧ y13 < (256 : Int)) ∧ List.length (Prod.fst y12) ≤ (1000 : Nat)) ∧ (¬(↑(List.count (Prod.snd y11) (Prod.fst y11)) : Int) =
IntKind.wrap IntKind.i64 ((↑(List.count (Prod.snd y12) (Prod.fst y12)) : Int) + (1 : Int)) → false = true) ∧ (¬¬(↑(List.count (Prod.snd y11) (Prod.fst y11)) : Int) = IntKind.wrap IntKind.i64
((↑(List.count (Prod.snd y12) (Prod.fst y12)) : Int) + (1 : Int)) → ∃ (y13 : Unit), ((List.length x = List.length x ∧ SC.rows eT (1 : Nat) (2 : Nat) false x = SC.rows eT (1 : Nat) (2 : Nat) false x) ∧
i = i ∧ True) ∧ True ∧ ∃ (y14 : Unit), ((List.length x = List.length x ∧ SC.rows eT (1 : Nat) (2 : Nat) false x = SC.rows eT (1 : Nat) (2 : Nat) false x) ∧ i = i ∧ True) ∧ True ∧ (i < (0 : Int) →
false = true) ∧ (¬i < (0 : Int) → ((↑(List.length x) : Int) ≤ i → false = true) ∧ (¬(↑(List.length x) : Int) ≤ i → (¬(↑(List.length p) : Int) = IntKind.wrap IntKind.i64 ((↑(List.length x) : Int) - (1
: Int)) → false = true) ∧ (¬¬(↑(List.length p) : Int) = IntKind.wrap IntKind.i64 ((↑(List.length x) : Int) - (1 : Int)) → List.length c ≤ List.length c ∧ ∃ (y15 : List Int), SC.rows eB (1 : Nat) (1 :
Nat) true (List.take (List.length c) (rdrop (SN.lit (0 : Nat)) c)) = SC.rows eB (1 : Nat) (1 : Nat) true y15 ∧ (0 : Int) ≤ i ∧ i < (↑(List.length x) : Int) ∧ Int.toNat i < List.length x ∧ ∀ (y16 :
List Int), x[Int.toNat i]? = some y16 → List.length y16 ≤ List.length y16 ∧ ∃ (y17 : List Int), SC.rows eB (1 : Nat) (1 : Nat) true (List.take (List.length y16) (rdrop (SN.lit (0 : Nat)) y16)) =
SC.rows eB (1 : Nat) (1 : Nat) true y17 ∧ isBytes y15 ∧ isBytes y17 ∧ (¬y15 = y17 → false = true) ∧ (¬¬y15 = y17 → (0 : Int) ≤ i ∧ i ≤ (↑(List.length p) : Int) ∧ (↑(List.length p) : Int) ≤
(↑(List.length p) : Int) ∧ (0 : Int) ≤ i ∧ i ≤ (↑(List.length x) : Int) ∧ (↑(List.length x) : Int) ≤ (↑(List.length x) : Int) ∧ ∃ (y18 : (List (List Int) × Nat) × List (List Int) × Nat), ((Int.toNat i
= Prod.snd (Prod.fst y18) ∧ SC.rows eT (1 : Nat) (2 : Nat) false (rdrop (SN.lit (0 : Nat)) p) = SC.rows eT (1 : Nat) (2 : Nat) false (Prod.fst (Prod.fst y18))) ∧ (Int.toNat i = Prod.snd (Prod.snd y18)
∧ SC.rows eT (1 : Nat) (2 : Nat) false (rdrop (SN.lit (0 : Nat)) x) = SC.rows eT (1 : Nat) (2 : Nat) false (Prod.fst (Prod.snd y18))) ∧ True) ∧ ((∀ (y19 : List Int), y19 ∈ Prod.fst (Prod.fst y18) → (∀
(y20 : Int), y20 ∈ y19 → (0 : Int) ≤ y20 ∧ y20 < (256 : Int)) ∧ List.length y19 ≤ (200 : Nat)) ∧ (∀ (y19 : List Int), y19 ∈ Prod.fst (Prod.snd y18) → (∀ (y20 : Int), y20 ∈ y19 → (0 : Int) ≤ y20 ∧ y20
< (256 : Int)) ∧ List.length y19 ≤ (200 : Nat)) ∧ Prod.snd (Prod.fst y18) ≤ List.length (Prod.fst (Prod.fst y18)) ∧ Prod.snd (Prod.snd y18) ≤ List.length (Prod.fst (Prod.snd y18)) ∧ Prod.snd (Prod.fst
y18) ≤ (1000 : Nat)) ∧ (¬List.take (Prod.snd (Prod.fst y18)) (Prod.fst (Prod.fst y18)) = List.take (Prod.snd (Prod.snd y18)) (Prod.fst (Prod.snd y18)) → false = true) ∧ (¬¬List.take (Prod.snd
(Prod.fst y18)) (Prod.fst (Prod.fst y18)) = List.take (Prod.snd (Prod.snd y18)) (Prod.fst (Prod.snd y18)) → (0 : Int) ≤ i ∧ i ≤ (↑(List.length p) : Int) ∧ (↑(List.length p) : Int) ≤ (↑(List.length p)
: Int) ∧ (↑(List.length p) : Int) ≤ (↑(List.length p) : Int) ∧ (0 : Int) ≤ IntKind.wrap IntKind.i64 (i + (1 : Int)) ∧ IntKind.wrap IntKind.i64 (i + (1 : Int)) ≤ (↑(List.length x) : Int) ∧
(↑(List.length x) : Int) ≤ (↑(List.length x) : Int) ∧ (↑(List.length x) : Int) ≤ (↑(List.length x) : Int) ∧ ∃ (y19 : (List (List Int) × Nat) × List (List Int) × Nat), ((Int.toNat (↑(List.length p) :
Int) - Int.toNat i = Prod.snd (Prod.fst y19) ∧ SC.rows eT (1 : Nat) (2 : Nat) false (rdrop (SN.sym (Int.toNat i)) p) = SC.rows eT (1 : Nat) (2 : Nat) false (Prod.fst (Prod.fst y19))) ∧ (Int.toNat
(↑(List.length x) : Int) - Int.toNat (IntKind.wrap IntKind.i64 (i + (1 : Int))) = Prod.snd (Prod.snd y19) ∧ SC.rows eT (1 : Nat) (2 : Nat) false (rdrop (SN.sym (Int.toNat (IntKind.wrap IntKind.i64 (i
+ (1 : Int))))) x) = SC.rows eT (1 : Nat) (2 : Nat) false (Prod.fst (Prod.snd y19))) ∧ True) ∧ ((∀ (y20 : List Int), y20 ∈ Prod.fst (Prod.fst y19) → (∀ (y21 : Int), y21 ∈ y20 → (0 : Int) ≤ y21 ∧ y21 <
(256 : Int)) ∧ List.length y20 ≤ (200 : Nat)) ∧ (∀ (y20 : List Int), y20 ∈ Prod.fst (Prod.snd y19) → (∀ (y21 : Int), y21 ∈ y20 → (0 : Int) ≤ y21 ∧ y21 < (256 : Int)) ∧ List.length y20 ≤ (200 : Nat)) ∧
Prod.snd (Prod.fst y19) ≤ List.length (Prod.fst (Prod.fst y19)) ∧ Prod.snd (Prod.snd y19) ≤ List.length (Prod.fst (Prod.snd y19)) ∧ Prod.snd (Prod.fst y19) ≤ (1000 : Nat)) ∧ (¬List.take (Prod.snd
(Prod.fst y19)) (Prod.fst (Prod.fst y19)) = List.take (Prod.snd (Prod.snd y19)) (Prod.fst (Prod.snd y19)) → false = true) ∧ (¬¬List.take (Prod.snd (Prod.fst y19)) (Prod.fst (Prod.fst y19)) = List.take
(Prod.snd (Prod.snd y19)) (Prod.fst (Prod.snd y19)) → ((↑(List.length t) : Int) < (↑(List.length x) : Int) → false = true) ∧ (¬(↑(List.length t) : Int) < (↑(List.length x) : Int) → (0 : Int) ≤
(↑(List.length x) : Int) ∧ (↑(List.length x) : Int) ≤ (↑(List.length t) : Int) ∧ (↑(List.length t) : Int) ≤ (↑(List.length t) : Int) ∧ ∃ (y20 : (List (List Int) × Nat) × List (List Int) × Nat),
((Int.toNat (↑(List.length x) : Int) = Prod.snd (Prod.fst y20) ∧ SC.rows eT (1 : Nat) (2 : Nat) false (rdrop (SN.lit (0 : Nat)) t) = SC.rows eT (1 : Nat) (2 : Nat) false (Prod.fst (Prod.fst y20))) ∧
(List.length x = Prod.snd (Prod.snd y20) ∧ SC.rows eT (1 : Nat) (2 : Nat) false x = SC.rows eT (1 : Nat) (2 : Nat) false (Prod.fst (Prod.snd y20))) ∧ True) ∧ ((∀ (y21 : List Int), y21 ∈ Prod.fst
(Prod.fst y20) → (∀ (y22 : Int), y22 ∈ y21 → (0 : Int) ≤ y22 ∧ y22 < (256 : Int)) ∧ List.length y21 ≤ (200 : Nat)) ∧ (∀ (y21 : List Int), y21 ∈ Prod.fst (Prod.snd y20) → (∀ (y22 : Int), y22 ∈ y21 → (0
: Int) ≤ y22 ∧ y22 < (256 : Int)) ∧ List.length y21 ≤ (200 : Nat)) ∧ Prod.snd (Prod.fst y20) ≤ List.length (Prod.fst (Prod.fst y20)) ∧ Prod.snd (Prod.snd y20) ≤ List.length (Prod.fst (Prod.snd y20)) ∧
Prod.snd (Prod.fst y20) ≤ (1000 : Nat)) ∧ (List.take (Prod.snd (Prod.fst y20)) (Prod.fst (Prod.fst y20)) = List.take (Prod.snd (Prod.snd y20)) (Prod.fst (Prod.snd y20)) → ((↑(List.length t) : Int) =
(↑(List.length x) : Int) → ((↑(List.length x) : Int) = (64 : Int) → true = true) ∧ (¬(↑(List.length x) : Int) = (64 : Int) → ((↑(List.length t) : Int) = IntKind.wrap IntKind.i64 ((↑(List.length x) :
Int) + (1 : Int)) → (0 : Int) ≤ (↑(List.length x) : Int) ∧ (↑(List.length x) : Int) < (↑(List.length t) : Int) ∧ Int.toNat (↑(List.length x) : Int) < List.length t ∧ ∀ (y21 : List Int), t[Int.toNat
(↑(List.length x) : Int)]? = some y21 → List.length y21 ≤ List.length y21 ∧ ∃ (y22 : List Int), SC.rows eB (1 : Nat) (1 : Nat) true (List.take (List.length y21) (rdrop (SN.lit (0 : Nat)) y21)) =
SC.rows eB (1 : Nat) (1 : Nat) true y22 ∧ List.length c ≤ List.length c ∧ ∃ (y23 : List Int), SC.rows eB (1 : Nat) (1 : Nat) true (List.take (List.length c) (rdrop (SN.lit (0 : Nat)) c)) = SC.rows eB
(1 : Nat) (1 : Nat) true y23 ∧ isBytes y22 ∧ isBytes y23 ∧ (y22 = y23 ↔ true = true)) ∧ (¬(↑(List.length t) : Int) = IntKind.wrap IntKind.i64 ((↑(List.length x) : Int) + (1 : Int)) → false = true))) ∧
(¬(↑(List.length t) : Int) = (↑(List.length x) : Int) → ((↑(List.length t) : Int) = IntKind.wrap IntKind.i64 ((↑(List.length x) : Int) + (1 : Int)) → (0 : Int) ≤ (↑(List.length x) : Int) ∧
(↑(List.length x) : Int) < (↑(List.length t) : Int) ∧ Int.toNat (↑(List.length x) : Int) < List.length t ∧ ∀ (y21 : List Int), t[Int.toNat (↑(List.length x) : Int)]? = some y21 → List.length y21 ≤
List.length y21 ∧ ∃ (y22 : List Int), SC.rows eB (1 : Nat) (1 : Nat) true (List.take (List.length y21) (rdrop (SN.lit (0 : Nat)) y21)) = SC.rows eB (1 : Nat) (1 : Nat) true y22 ∧ List.length c ≤
List.length c ∧ ∃ (y23 : List Int), SC.rows eB (1 : Nat) (1 : Nat) true (List.take (List.length c) (rdrop (SN.lit (0 : Nat)) c)) = SC.rows eB (1 : Nat) (1 : Nat) true y23 ∧ isBytes y22 ∧ isBytes y23 ∧
(y22 = y23 ↔ true = true)) ∧ (¬(↑(List.length t) : Int) = IntKind.wrap IntKind.i64 ((↑(List.length x) : Int) + (1 : Int)) → false = true))) ∧ (¬List.take (Prod.snd (Prod.fst y20)) (Prod.fst (Prod.fst
y20)) = List.take (Prod.snd (Prod.snd y20)) (Prod.fst (Prod.snd y20)) → false = true)))))))))))) ∧ (¬(↑(List.length n) : Int) < (64 : Int) → (¬(↑(List.length x) : Int) = IntKind.wrap IntKind.i64
((↑(List.length n) : Int) + (0 : Int)) → false = true) ∧ (¬¬(↑(List.length x) : Int) = IntKind.wrap IntKind.i64 ((↑(List.length n) : Int) + (0 : Int)) → (0 : Int) ≤ (↑(List.length n) : Int) ∧
(↑(List.length n) : Int) ≤ (↑(List.length x) : Int) ∧ (↑(List.length x) : Int) ≤ (↑(List.length x) : Int) ∧ ∃ (y10 : (List (List Int) × Nat) × List (List Int) × Nat), ((Int.toNat (↑(List.length n) :
Int) = Prod.snd (Prod.fst y10) ∧ SC.rows eT (1 : Nat) (2 : Nat) false (rdrop (SN.lit (0 : Nat)) x) = SC.rows eT (1 : Nat) (2 : Nat) false (Prod.fst (Prod.fst y10))) ∧ (List.length n = Prod.snd
(Prod.snd y10) ∧ SC.rows eT (1 : Nat) (2 : Nat) false n = SC.rows eT (1 : Nat) (2 : Nat) false (Prod.fst (Prod.snd y10))) ∧ True) ∧ ((∀ (y11 : List Int), y11 ∈ Prod.fst (Prod.fst y10) → (∀ (y12 :
Int), y12 ∈ y11 → (0 : Int) ≤ y12 ∧ y12 < (256 : Int)) ∧ List.length y11 ≤ (200 : Nat)) ∧ (∀ (y11 : List Int), y11 ∈ Prod.fst (Prod.snd y10) → (∀ (y12 : Int), y12 ∈ y11 → (0 : Int) ≤ y12 ∧ y12 < (256
: Int)) ∧ List.length y11 ≤ (200 : Nat)) ∧ Prod.snd (Prod.fst y10) ≤ List.length (Prod.fst (Prod.fst y10)) ∧ Prod.snd (Prod.snd y10) ≤ List.length (Prod.fst (Prod.snd y10)) ∧ Prod.snd (Prod.fst y10) ≤
(1000 : Nat)) ∧ (¬List.take (Prod.snd (Prod.fst y10)) (Prod.fst (Prod.fst y10)) = List.take (Prod.snd (Prod.snd y10)) (Prod.fst (Prod.snd y10)) → false = true) ∧ (¬¬List.take (Prod.snd (Prod.fst y10))
(Prod.fst (Prod.fst y10)) = List.take (Prod.snd (Prod.snd y10)) (Prod.fst (Prod.snd y10)) → ∃ (y11 : List (List Int) × List Int), ((List.length x = List.length (Prod.fst y11) ∧ SC.rows eT (1 : Nat) (2
: Nat) false x = SC.rows eT (1 : Nat) (2 : Nat) false (Prod.fst y11)) ∧ (List.length b = List.length (Prod.snd y11) ∧ SC.rows eB (1 : Nat) (1 : Nat) true b = SC.rows eB (1 : Nat) (1 : Nat) true
(Prod.snd y11)) ∧ True) ∧ ((∀ (y12 : List Int), y12 ∈ Prod.fst y11 → (∀ (y13 : Int), y13 ∈ y12 → (0 : Int) ≤ y13 ∧ y13 < (256 : Int)) ∧ List.length y12 ≤ (200 : Nat)) ∧ (∀ (y12 : Int), y12 ∈ Prod.snd
y11 → (0 : Int) ≤ y12 ∧ y12 < (256 : Int)) ∧ List.length (Prod.fst y11) ≤ (1000 : Nat)) ∧ ∃ (y12 : List (List Int) × List Int), ((List.length n = List.length (Prod.fst y12) ∧ SC.rows eT (1 : Nat) (2 :
Nat) false n = SC.rows eT (1 : Nat) (2 : Nat) false (Prod.fst y12)) ∧ (List.length b = List.length (Prod.snd y12) ∧ SC.rows eB (1 : Nat) (1 : Nat) true b = SC.rows eB (1 : Nat) (1 : Nat) true
(Prod.snd y12)) ∧ True) ∧ ((∀ (y13 : List Int), y13 ∈ Prod.fst y12 → (∀ (y14 : Int), y14 ∈ y13 → (0 : Int) ≤ y14 ∧ y14 < (256 : Int)) ∧ List.length y13 ≤ (200 : Nat)) ∧ (∀ (y13 : Int), y13 ∈ Prod.snd
y12 → (0 : Int) ≤ y13 ∧ y13 < (256 : Int)) ∧ List.length (Prod.fst y12) ≤ (1000 : Nat)) ∧ (¬(↑(List.count (Prod.snd y11) (Prod.fst y11)) : Int) = IntKind.wrap IntKind.i64 ((↑(List.count (Prod.snd y12)
(Prod.fst y12)) : Int) + (0 : Int)) → false = true) ∧ (¬¬(↑(List.count (Prod.snd y11) (Prod.fst y11)) : Int) = IntKind.wrap IntKind.i64 ((↑(List.count (Prod.snd y12) (Prod.fst y12)) : Int) + (0 :
Int)) → ∃ (y13 : Unit), ((List.length x = List.length x ∧ SC.rows eT (1 : Nat) (2 : Nat) false x = SC.rows eT (1 : Nat) (2 : Nat) false x) ∧ i = i ∧ True) ∧ True ∧ ∃ (y14 : Unit), ((List.length x =
List.length x ∧ SC.rows eT (1 : Nat) (2 : Nat) false x = SC.rows eT (1 : Nat) (2 : Nat) false x) ∧ i = i ∧ True) ∧ True ∧ (i < (0 : Int) → false = true) ∧ (¬i < (0 : Int) → ((↑(List.length x) : Int) ≤
i → false = true) ∧ (¬(↑(List.length x) : Int) ≤ i → (¬(↑(List.length p) : Int) = IntKind.wrap IntKind.i64 ((↑(List.length x) : Int) - (1 : Int)) → false = true) ∧ (¬¬(↑(List.length p) : Int) =
IntKind.wrap IntKind.i64 ((↑(List.length x) : Int) - (1 : Int)) → List.length c ≤ List.length c ∧ ∃ (y15 : List Int), SC.rows eB (1 : Nat) (1 : Nat) true (List.take (List.length c) (rdrop (SN.lit (0 :
Nat)) c)) = SC.rows eB (1 : Nat) (1 : Nat) true y15 ∧ (0 : Int) ≤ i ∧ i < (↑(List.length x) : Int) ∧ Int.toNat i < List.length x ∧ ∀ (y16 : List Int), x[Int.toNat i]? = some y16 → List.length y16 ≤
List.length y16 ∧ ∃ (y17 : List Int), SC.rows eB (1 : Nat) (1 : Nat) true (List.take (List.length y16) (rdrop (SN.lit (0 : Nat)) y16)) = SC.rows eB (1 : Nat) (1 : Nat) true y17 ∧ isBytes y15 ∧ isBytes
y17 ∧ (¬y15 = y17 → false = true) ∧ (¬¬y15 = y17 → (0 : Int) ≤ i ∧ i ≤ (↑(List.length p) : Int) ∧ (↑(List.length p) : Int) ≤ (↑(List.length p) : Int) ∧ (0 : Int) ≤ i ∧ i ≤ (↑(List.length x) : Int) ∧
(↑(List.length x) : Int) ≤ (↑(List.length x) : Int) ∧ ∃ (y18 : (List (List Int) × Nat) × List (List Int) × Nat), ((Int.toNat i = Prod.snd (Prod.fst y18) ∧ SC.rows eT (1 : Nat) (2 : Nat) false (rdrop
(SN.lit (0 : Nat)) p) = SC.rows eT (1 : Nat) (2 : Nat) false (Prod.fst (Prod.fst y18))) ∧ (Int.toNat i = Prod.snd (Prod.snd y18) ∧ SC.rows eT (1 : Nat) (2 : Nat) false (rdrop (SN.lit (0 : Nat)) x) =
SC.rows eT (1 : Nat) (2 : Nat) false (Prod.fst (Prod.snd y18))) ∧ True) ∧ ((∀ (y19 : List Int), y19 ∈ Prod.fst (Prod.fst y18) → (∀ (y20 : Int), y20 ∈ y19 → (0 : Int) ≤ y20 ∧ y20 < (256 : Int)) ∧
List.length y19 ≤ (200 : Nat)) ∧ (∀ (y19 : List Int), y19 ∈ Prod.fst (Prod.snd y18) → (∀ (y20 : Int), y20 ∈ y19 → (0 : Int) ≤ y20 ∧ y20 < (256 : Int)) ∧ List.length y19 ≤ (200 : Nat)) ∧ Prod.snd
(Prod.fst y18) ≤ List.length (Prod.fst (Prod.fst y18)) ∧ Prod.snd (Prod.snd y18) ≤ List.length (Prod.fst (Prod.snd y18)) ∧ Prod.snd (Prod.fst y18) ≤ (1000 : Nat)) ∧ (¬List.take (Prod.snd (Prod.fst
y18)) (Prod.fst (Prod.fst y18)) = List.take (Prod.snd (Prod.snd y18)) (Prod.fst (Prod.snd y18)) → false = true) ∧ (¬¬List.take (Prod.snd (Prod.fst y18)) (Prod.fst (Prod.fst y18)) = List.take (Prod.snd
(Prod.snd y18)) (Prod.fst (Prod.snd y18)) → (0 : Int) ≤ i ∧ i ≤ (↑(List.length p) : Int) ∧ (↑(List.length p) : Int) ≤ (↑(List.length p) : Int) ∧ (↑(List.length p) : Int) ≤ (↑(List.length p) : Int) ∧
(0 : Int) ≤ IntKind.wrap IntKind.i64 (i + (1 : Int)) ∧ IntKind.wrap IntKind.i64 (i + (1 : Int)) ≤ (↑(List.length x) : Int) ∧ (↑(List.length x) : Int) ≤ (↑(List.length x) : Int) ∧ (↑(List.length x) :
Int) ≤ (↑(List.length x) : Int) ∧ ∃ (y19 : (List (List Int) × Nat) × List (List Int) × Nat), ((Int.toNat (↑(List.length p) : Int) - Int.toNat i = Prod.snd (Prod.fst y19) ∧ SC.rows eT (1 : Nat) (2 :
Nat) false (rdrop (SN.sym (Int.toNat i)) p) = SC.rows eT (1 : Nat) (2 : Nat) false (Prod.fst (Prod.fst y19))) ∧ (Int.toNat (↑(List.length x) : Int) - Int.toNat (IntKind.wrap IntKind.i64 (i + (1 :
Int))) = Prod.snd (Prod.snd y19) ∧ SC.rows eT (1 : Nat) (2 : Nat) false (rdrop (SN.sym (Int.toNat (IntKind.wrap IntKind.i64 (i + (1 : Int))))) x) = SC.rows eT (1 : Nat) (2 : Nat) false (Prod.fst
(Prod.snd y19))) ∧ True) ∧ ((∀ (y20 : List Int), y20 ∈ Prod.fst (Prod.fst y19) → (∀ (y21 : Int), y21 ∈ y20 → (0 : Int) ≤ y21 ∧ y21 < (256 : Int)) ∧ List.length y20 ≤ (200 : Nat)) ∧ (∀ (y20 : List
Int), y20 ∈ Prod.fst (Prod.snd y19) → (∀ (y21 : Int), y21 ∈ y20 → (0 : Int) ≤ y21 ∧ y21 < (256 : Int)) ∧ List.length y20 ≤ (200 : Nat)) ∧ Prod.snd (Prod.fst y19) ≤ List.length (Prod.fst (Prod.fst
y19)) ∧ Prod.snd (Prod.snd y19) ≤ List.length (Prod.fst (Prod.snd y19)) ∧ Prod.snd (Prod.fst y19) ≤ (1000 : Nat)) ∧ (¬List.take (Prod.snd (Prod.fst y19)) (Prod.fst (Prod.fst y19)) = List.take
(Prod.snd (Prod.snd y19)) (Prod.fst (Prod.snd y19)) → false = true) ∧ (¬¬List.take (Prod.snd (Prod.fst y19)) (Prod.fst (Prod.fst y19)) = List.take (Prod.snd (Prod.snd y19)) (Prod.fst (Prod.snd y19)) →
((↑(List.length t) : Int) < (↑(List.length x) : Int) → false = true) ∧ (¬(↑(List.length t) : Int) < (↑(List.length x) : Int) → (0 : Int) ≤ (↑(List.length x) : Int) ∧ (↑(List.length x) : Int) ≤
(↑(List.length t) : Int) ∧ (↑(List.length t) : Int) ≤ (↑(List.length t) : Int) ∧ ∃ (y20 : (List (List Int) × Nat) × List (List Int) × Nat), ((Int.toNat (↑(List.length x) : Int) = Prod.snd (Prod.fst
y20) ∧ SC.rows eT (1 : Nat) (2 : Nat) false (rdrop (SN.lit (0 : Nat)) t) = SC.rows eT (1 : Nat) (2 : Nat) false (Prod.fst (Prod.fst y20))) ∧ (List.length x = Prod.snd (Prod.snd y20) ∧ SC.rows eT (1 :
Nat) (2 : Nat) false x = SC.rows eT (1 : Nat) (2 : Nat) false (Prod.fst (Prod.snd y20))) ∧ True) ∧ ((∀ (y21 : List Int), y21 ∈ Prod.fst (Prod.fst y20) → (∀ (y22 : Int), y22 ∈ y21 → (0 : Int) ≤ y22 ∧
y22 < (256 : Int)) ∧ List.length y21 ≤ (200 : Nat)) ∧ (∀ (y21 : List Int), y21 ∈ Prod.fst (Prod.snd y20) → (∀ (y22 : Int), y22 ∈ y21 → (0 : Int) ≤ y22 ∧ y22 < (256 : Int)) ∧ List.length y21 ≤ (200 :
Nat)) ∧ Prod.snd (Prod.fst y20) ≤ List.length (Prod.fst (Prod.fst y20)) ∧ Prod.snd (Prod.snd y20) ≤ List.length (Prod.fst (Prod.snd y20)) ∧ Prod.snd (Prod.fst y20) ≤ (1000 : Nat)) ∧ (List.take
(Prod.snd (Prod.fst y20)) (Prod.fst (Prod.fst y20)) = List.take (Prod.snd (Prod.snd y20)) (Prod.fst (Prod.snd y20)) → ((↑(List.length t) : Int) = (↑(List.length x) : Int) → ((↑(List.length x) : Int) =
(64 : Int) → true = true) ∧ (¬(↑(List.length x) : Int) = (64 : Int) → ((↑(List.length t) : Int) = IntKind.wrap IntKind.i64 ((↑(List.length x) : Int) + (1 : Int)) → (0 : Int) ≤ (↑(List.length x) : Int)
∧ (↑(List.length x) : Int) < (↑(List.length t) : Int) ∧ Int.toNat (↑(List.length x) : Int) < List.length t ∧ ∀ (y21 : List Int), t[Int.toNat (↑(List.length x) : Int)]? = some y21 → List.length y21 ≤
List.length y21 ∧ ∃ (y22 : List Int), SC.rows eB (1 : Nat) (1 : Nat) true (List.take (List.length y21) (rdrop (SN.lit (0 : Nat)) y21)) = SC.rows eB (1 : Nat) (1 : Nat) true y22 ∧ List.length c ≤
List.length c ∧ ∃ (y23 : List Int), SC.rows eB (1 : Nat) (1 : Nat) true (List.take (List.length c) (rdrop (SN.lit (0 : Nat)) c)) = SC.rows eB (1 : Nat) (1 : Nat) true y23 ∧ isBytes y22 ∧ isBytes y23 ∧
(y22 = y23 ↔ true = true)) ∧ (¬(↑(List.length t) : Int) = IntKind.wrap IntKind.i64 ((↑(List.length x) : Int) + (1 : Int)) → false = true))) ∧ (¬(↑(List.length t) : Int) = (↑(List.length x) : Int) →
((↑(List.length t) : Int) = IntKind.wrap IntKind.i64 ((↑(List.length x) : Int) + (1 : Int)) → (0 : Int) ≤ (↑(List.length x) : Int) ∧ (↑(List.length x) : Int) < (↑(List.length t) : Int) ∧ Int.toNat
(↑(List.length x) : Int) < List.length t ∧ ∀ (y21 : List Int), t[Int.toNat (↑(List.length x) : Int)]? = some y21 → List.length y21 ≤ List.length y21 ∧ ∃ (y22 : List Int), SC.rows eB (1 : Nat) (1 :
Nat) true (List.take (List.length y21) (rdrop (SN.lit (0 : Nat)) y21)) = SC.rows eB (1 : Nat) (1 : Nat) true y22 ∧ List.length c ≤ List.length c ∧ ∃ (y23 : List Int), SC.rows eB (1 : Nat) (1 : Nat)
true (List.take (List.length c) (rdrop (SN.lit (0 : Nat)) c)) = SC.rows eB (1 : Nat) (1 : Nat) true y23 ∧ isBytes y22 ∧ isBytes y23 ∧ (y22 = y23 ↔ true = true)) ∧ (¬(↑(List.length t) : Int) =
IntKind.wrap IntKind.i64 ((↑(List.length x) : Int) + (1 : Int)) → false = true))) ∧ (¬List.take (Prod.snd (Prod.fst y20)) (Prod.fst (Prod.fst y20)) = List.take (Prod.snd (Prod.snd y20)) (Prod.fst
(Prod.snd y20)) → false = true)))))))))))))) := by kernel_rfl
end
end Go.Proofs.Ytifcjhfejacmcaa.VM
/- Nets: the law holds. No conditions. -/
namespace Go.Proofs.Ytifcjhfejacmcaa.VM
open Go Go.RowKit
set_option linter.unusedVariables false
set_option linter.unusedSimpArgs false
set_option maxRecDepth 100000
noncomputable section
theorem alive_all : scallI sxV Try.prog cf0 (sexec sxV Try.prog cf0 1000) 4 0 [] (post (.bool (.lit true))) := by
  rw [vc_alive]
  exact Or.inl ⟨(), by simp, trivial, Or.inr ⟨(), by simp, trivial, (), by simp, trivial, (), by simp, trivial, Or.inl ⟨(), by simp, trivial, Or.inr ⟨(), by simp, trivial, rfl⟩⟩⟩⟩
theorem All_sub {l m : List (List Int)} (h : All l) (hs : ∀ x ∈ m, x ∈ l) : All m := fun x hx => h x (hs x hx)
theorem All_drop {l : List (List Int)} (h : All l) (k : Nat) : All (l.drop k) := All_sub h fun x hx => List.mem_of_mem_drop hx
theorem All_put {n : List (List Int)} {b : List Int} (h : All n) (hb : By b) (hl : b.length ≤ 200) : All (putL n b) := by
  unfold putL
  split
  · intro x hx
    rcases List.mem_append.1 hx with q | q
    · exact h x q
    · rw [List.mem_singleton.1 q]; exact ⟨hb, hl⟩
  · exact h
theorem put_take (n : List (List Int)) (b : List Int) : (putL n b).take n.length = n.take n.length := by
  unfold putL
  split
  · simp
  · rfl
theorem put_len (n : List (List Int)) (b : List Int) : (putL n b).length = if n.length < 64 then n.length + 1 else n.length := by
  unfold putL
  split <;> simp
theorem put_count (n : List (List Int)) (b : List Int) : (putL n b).count b = if n.length < 64 then n.count b + 1 else n.count b := by
  unfold putL
  split
  · rw [List.count_append, List.count_singleton]; simp
  · rfl
theorem put_last (n : List (List Int)) (b : List Int) (h : n.length < 64) : (putL n b)[n.length]? = some b := by
  unfold putL
  rw [if_pos h]; simp
theorem wsub (m : Nat) (h : 1 ≤ m) (h2 : m < 100000) : IntKind.i64.wrap ((m : Int) - 1) = ((m - 1 : Nat) : Int) := by rw [wr_i64 (by omega) (by omega)]; omega
theorem nx0 {t : Nat} (h : t < 100000) : IntKind.i64.wrap ((t : Int) + 0) = (t : Int) := by rw [wr_i64 (by omega) (by omega)]; omega
theorem erase_take (x : List (List Int)) (k : Nat) : (x.eraseIdx k).take k = x.take k := take_ext fun j hj => by rw [List.getElem?_eraseIdx, if_pos hj]
theorem erase_drop (x : List (List Int)) (k : Nat) : (x.eraseIdx k).drop k = x.drop (k + 1) := by
  apply List.ext_getElem?
  intro j
  rw [List.getElem?_drop, List.getElem?_drop, List.getElem?_eraseIdx, if_neg (by omega)]
  congr 1; omega
set_option maxHeartbeats 2000000 in
theorem In_ok (n : List (List Int)) (b c : List Int) (k : Nat) (hn : All n) (hb : By b) (lb : b.length ≤ 200) (hl : n.length ≤ 64) (hk : k < (putL n b).length) (hc : (putL n b)[k]? = some c) :
    scallI (sxL (great n (.lit false)) (oneC [rows2 n, row b] (.tup [rows2 (putL n b), .int .i64 (.lit 0)])) (oneC [rows2 (putL n b), .int .i64 (.sym (k : Int))] (.tup [rows2 ((putL n b).eraseIdx k), row c, .int .i64 (.lit 0)])) (oneC [rows2 (putL n b), .int .i64 (.sym (k : Int))] (.tup [rows2 (putL (putL n b) c), .int .i64 (.lit 0)]))) Try.prog cf0 (sexec (sxL (great n (.lit false)) (oneC [rows2 n, row b] (.tup [rows2 (putL n b), .int .i64 (.lit 0)])) (oneC [rows2 (putL n b), .int .i64 (.sym (k : Int))] (.tup [rows2 ((putL n b).eraseIdx k), row c, .int .i64 (.lit 0)])) (oneC [rows2 (putL n b), .int .i64 (.sym (k : Int))] (.tup [rows2 (putL (putL n b) c), .int .i64 (.lit 0)]))) Try.prog cf0 1000) 3 0 [rows2 n, row b, .int .i64 (.sym (k : Int))] (post (.bool (.lit true))) := by
  refine Eq.mpr (vc_In n b k (putL n b) ((putL n b).eraseIdx k) (putL (putL n b) c) c) ?_
  have hx := All_put hn hb lb
  have hcb : By c ∧ c.length ≤ 200 := hx c (List.mem_of_getElem? hc)
  have ht := All_put hx hcb.1 hcb.2
  have hp : All ((putL n b).eraseIdx k) := All_sub hx fun x h => List.mem_of_mem_eraseIdx h
  have lx := put_len n b
  have q1 := put_take n b
  have q2 := put_count n b
  have lt := put_len (putL n b) c
  have q5 := put_take (putL n b) c
  have q6 := put_last (putL n b) c
  have q3 := erase_take (putL n b) k
  have q4 := erase_drop (putL n b) k
  have lp : ((putL n b).eraseIdx k).length = (putL n b).length - 1 := List.length_eraseIdx_of_lt hk
  have hcount : n.count b ≤ n.length := List.count_le_length
  generalize putL n b = x at *
  generalize x.eraseIdx k = p at *
  generalize putL x c = t at *
  have w1 : IntKind.i64.wrap ((n.length : Int) + 1) = ((n.length + 1 : Nat) : Int) := nx (by omega)
  have w2 : IntKind.i64.wrap ((x.length : Int) - 1) = ((x.length - 1 : Nat) : Int) := wsub _ (by omega) (by split at lx <;> omega)
  have w3 : IntKind.i64.wrap ((k : Int) + 1) = ((k + 1 : Nat) : Int) := nx (by split at lx <;> omega)
  have w4 : IntKind.i64.wrap ((x.length : Int) + 1) = ((x.length + 1 : Nat) : Int) := nx (by split at lx <;> omega)
  have w5 : IntKind.i64.wrap ((n.length : Int) + 0) = ((n.length : Nat) : Int) := nx0 (by omega)
  have w6 : IntKind.i64.wrap ((n.count b : Int) + 1) = ((n.count b + 1 : Nat) : Int) := nx (by omega)
  have w7 : IntKind.i64.wrap ((n.count b : Int) + 0) = ((n.count b : Nat) : Int) := nx0 (by omega)
  simp only [true_and, and_true, eq_self, exists_const, implies_true, rdrop0, rdropB, Int.toNat_natCast, w1, w2, w3, w4, w5, List.take_length, Nat.le_refl]
  have q4' : List.take (p.length - k) (p.drop k) = List.take (x.length - (k + 1)) (x.drop (k + 1)) := by rw [q4]; congr 1; omega
  by_cases h64 : n.length < 64
  · rw [if_pos h64] at lx q2
    by_cases hx64 : x.length < 64
    · rw [if_pos hx64] at lt
      have q6 := q6 hx64
      repeat' first | trivial | exact rfl | omega | assumption | exact hx | exact hp | exact hn | exact ht | exact hb | exact hcb.1 | exact All_drop hx _ | exact All_drop hp _ | exact (hx _ (List.mem_of_getElem? (by assumption))).1 | exact (ht _ (List.mem_of_getElem? (by assumption))).1 | (intro _) | (refine And.intro ?_ ?_) | (refine Exists.intro ((_, _), (_, _)) ⟨⟨⟨rfl, rfl⟩, ⟨rfl, rfl⟩⟩, ?_⟩) | (refine Exists.intro (_, _) ⟨⟨⟨rfl, rfl⟩, ⟨rfl, rfl⟩⟩, ?_⟩) | (refine Exists.intro _ ⟨rfl, ?_⟩)
      all_goals (try dsimp only at *)
      all_goals first | omega | assumption | exact absurd q1 (by assumption) | exact absurd q3 (by assumption) | exact absurd q4' (by assumption) | exact absurd q5 (by assumption) | (rw [List.length_drop]; omega) | (rename_i hy hne; rw [hc] at hy; cases hy; exact absurd rfl hne) | (rename_i hy; rw [q6] at hy; cases hy; exact ⟨fun _ => trivial, fun _ => rfl⟩)
    · rw [if_neg hx64] at lt
      clear q6
      repeat' first | trivial | exact rfl | omega | assumption | exact hx | exact hp | exact hn | exact ht | exact hb | exact hcb.1 | exact All_drop hx _ | exact All_drop hp _ | exact (hx _ (List.mem_of_getElem? (by assumption))).1 | exact (ht _ (List.mem_of_getElem? (by assumption))).1 | (intro _) | (refine And.intro ?_ ?_) | (refine Exists.intro ((_, _), (_, _)) ⟨⟨⟨rfl, rfl⟩, ⟨rfl, rfl⟩⟩, ?_⟩) | (refine Exists.intro (_, _) ⟨⟨⟨rfl, rfl⟩, ⟨rfl, rfl⟩⟩, ?_⟩) | (refine Exists.intro _ ⟨rfl, ?_⟩)
      all_goals (try dsimp only at *)
      all_goals first | omega | assumption | exact absurd q1 (by assumption) | exact absurd q3 (by assumption) | exact absurd q4' (by assumption) | exact absurd q5 (by assumption) | (rw [List.length_drop]; omega) | (rename_i hy hne; rw [hc] at hy; cases hy; exact absurd rfl hne)
  · rw [if_neg h64] at lx q2
    rw [if_neg (by omega)] at lt
    clear q6
    repeat' first | trivial | exact rfl | omega | assumption | exact hx | exact hp | exact hn | exact ht | exact hb | exact hcb.1 | exact All_drop hx _ | exact All_drop hp _ | exact (hx _ (List.mem_of_getElem? (by assumption))).1 | exact (ht _ (List.mem_of_getElem? (by assumption))).1 | (intro _) | (refine And.intro ?_ ?_) | (refine Exists.intro ((_, _), (_, _)) ⟨⟨⟨rfl, rfl⟩, ⟨rfl, rfl⟩⟩, ?_⟩) | (refine Exists.intro (_, _) ⟨⟨⟨rfl, rfl⟩, ⟨rfl, rfl⟩⟩, ?_⟩) | (refine Exists.intro _ ⟨rfl, ?_⟩)
    all_goals (try dsimp only at *)
    all_goals first | omega | assumption | exact absurd q1 (by assumption) | exact absurd q3 (by assumption) | exact absurd q4' (by assumption) | exact absurd q5 (by assumption) | (rw [List.length_drop]; omega) | (rename_i hy hne; rw [hc] at hy; cases hy; exact absurd rfl hne)

end
end Go.Proofs.Ytifcjhfejacmcaa.VM
/- Nets: the law. No conditions. -/
namespace Go.Proofs.Ytifcjhfejacmcaa.VM
open Go Go.RowKit
set_option linter.unusedVariables false
set_option linter.unusedSimpArgs false
set_option maxRecDepth 100000
noncomputable section
theorem ct_one {P : Program} {cf : Cfg} {f : FuncId} {α : Type} {args : α → List SV} {pre : α → Prop} {res : α → SV} (h : CtOK P cf f (Ct args pre res)) (a : α) (ha : pre a) {r : SV} (hr : sle 12 (res a) r) {as0 : List SV} (h0 : sles as0 (args a)) : CtOK P cf f (oneC as0 r) := by
  intro base bs K hK as' has vbase
  obtain ⟨_, h1, _, hK⟩ := hK
  obtain ⟨rv, bl, sv, sbl, hN, ⟨rfl, rfl⟩, g2, g3⟩ := h base as0 (fun sv bl => sv = res a ∧ bl = []) ⟨a, h0, ha, rfl, rfl⟩ as' (sles_rel h1 has) vbase
  exact ⟨rv, bl, r, [], hN, hK, g2, sle_rel 12 _ _ _ hr g3⟩
theorem or_ok {f : FuncId} {c d : SCall} (h : CtOK Try.prog cf0 f c) (k : CtOK Try.prog cf0 f d) : CtOK Try.prog cf0 f (orC c d) := by
  intro base bs K hK as' has vbase
  rcases hK with hK | hK
  · exact h base bs K hK as' has vbase
  · exact k base bs K hK as' has vbase
theorem send_ok : CtOK Try.prog cf0 6 ctSend := ctK (m := 1000) sx12_ok fun a h => Send_all a.1 a.2 h.1 h.2
theorem twice_ok : CtOK Try.prog cf0 10 ctTwice := ctK (m := 1000) sx12_ok fun a h => Twice_all a.1 a.2 h
theorem take_ok : CtOK Try.prog cf0 9 ctTake := ctK (m := 1000) sx12_ok fun a h => Take_all a.1 a.2 h
theorem same_ok : CtOK Try.prog cf0 7 ctSame := ct_vc (m := 1000) sx7_ok fun a h => Same_all a.1.1 a.2.1 a.1.2 a.2.2 h.1 h.2.1 h.2.2.1 h.2.2.2.1 h.2.2.2.2
theorem count_ok : CtOK Try.prog cf0 8 ctCount := ct_vc (m := 1000) sx8_ok fun a h => count_all a.1 a.2 h.1 h.2.1 h.2.2
theorem great_ok (n : List (List Int)) {b : SB} (h : (SB.sym (greatB n = true)).iff b) : CtOK Try.prog cf0 5 (oneC [rows2 n] (.bool b)) :=
  ct_one (args := fun n : List (List Int) => [rows2 n]) (pre := fun _ => True) (res := fun n => .bool (.sym (greatB n = true))) (ct_vc (m := 1000) sx5_ok fun n _ => Great_all n) n trivial (by exact h) ⟨⟨rfl, rfl⟩, trivial⟩
theorem by1 {x : Int} (h : 0 ≤ x ∧ x < 256) : By [x] := fun y hy => by rw [List.mem_singleton.1 hy]; exact h
theorem all1 (l : List Int) (h : By l) : All (l.map fun x => [x]) := fun y hy => by
  obtain ⟨x, hx, rfl⟩ := List.mem_map.1 hy
  exact ⟨by1 (h x hx), by simp⟩
theorem byAB : By [97, 98, 97] := fun x hx => by simp at hx; omega
theorem byAA : By [97, 97] := fun x hx => by simp at hx; omega
theorem byAb : By [97, 98] := fun x hx => by simp at hx; omega
theorem byA : By [97] := fun x hx => by simp at hx; omega
theorem byB : By [98] := fun x hx => by simp at hx; omega
theorem allNil : All ([] : List (List Int)) := fun x hx => by cases hx
theorem s1_ok : CtOK Try.prog cf0 6 (oneC [.nilSl, litB 97] (.tup [rows2 [[97]], .int .i64 (.lit 0)])) := ct_one send_ok ([], [97]) ⟨allNil, by decide⟩ (by exact ⟨⟨rfl, rfl⟩, rfl, trivial⟩) (by exact ⟨⟨rfl, rokT⟩, ⟨rfl, rokB, rfl, trivial⟩, trivial⟩)
theorem s2_ok : CtOK Try.prog cf0 6 (oneC [rows2 [[97]], litB 98] (.tup [rows2 [[97], [98]], .int .i64 (.lit 0)])) := ct_one send_ok ([[97]], [98]) ⟨all1 [97] byA, by decide⟩ (by exact ⟨⟨rfl, rfl⟩, rfl, trivial⟩) (by exact ⟨⟨rfl, rfl⟩, ⟨rfl, rokB, rfl, trivial⟩, trivial⟩)
theorem w1_ok : CtOK Try.prog cf0 10 (oneC [rows2 [[97], [98]], .int .i64 (.lit 0)] (.tup [rows2 [[97], [98], [97]], .int .i64 (.lit 0)])) := ct_one twice_ok ([[97], [98]], 0) (all1 [97, 98] byAb) (by exact ⟨⟨rfl, rfl⟩, rfl, trivial⟩) (by exact ⟨⟨rfl, rfl⟩, rfl, trivial⟩)
theorem t1_ok : CtOK Try.prog cf0 9 (oneC [rows2 [[97], [98], [97]], .int .i64 (.lit 1)] (.tup [rows2 [[97], [97]], litB 98, .int .i64 (.lit 0)])) := ct_one take_ok ([[97], [98], [97]], 1) (all1 [97, 98, 97] byAB) (by exact ⟨⟨rfl, rfl⟩, ⟨rfl, rfl, trivial⟩, rfl, trivial⟩) (by exact ⟨⟨rfl, rfl⟩, rfl, trivial⟩)
theorem a1_ok : CtOK Try.prog cf0 7 (oneC [rows2 [[97], [98], [97]], litR [litB 97, litB 98, litB 97] 3] (.bool (.lit true))) := ct_one same_ok (([[97], [98], [97]], 3), ([[97], [98], [97]], 3)) ⟨all1 [97, 98, 97] byAB, all1 [97, 98, 97] byAB, by decide, by decide, by decide⟩ (by show ((SB.sym (List.take 3 [[(97 : Int)], [98], [97]] = List.take 3 [[97], [98], [97]])).iff (.lit true)); exact ⟨fun _ => rfl, fun _ => rfl⟩) (by exact ⟨⟨rfl, rfl⟩, ⟨rfl, rokT, ⟨rfl, rokB, rfl, trivial⟩, ⟨rfl, rokB, rfl, trivial⟩, ⟨rfl, rokB, rfl, trivial⟩, trivial⟩, trivial⟩)
theorem a2_ok : CtOK Try.prog cf0 7 (oneC [rows2 [[97], [97]], litR [litB 97, litB 97] 2] (.bool (.lit true))) := ct_one same_ok (([[97], [97]], 2), ([[97], [97]], 2)) ⟨all1 [97, 97] byAA, all1 [97, 97] byAA, by decide, by decide, by decide⟩ (by show ((SB.sym (List.take 2 [[(97 : Int)], [97]] = List.take 2 [[97], [97]])).iff (.lit true)); exact ⟨fun _ => rfl, fun _ => rfl⟩) (by exact ⟨⟨rfl, rfl⟩, ⟨rfl, rokT, ⟨rfl, rokB, rfl, trivial⟩, ⟨rfl, rokB, rfl, trivial⟩, trivial⟩, trivial⟩)
theorem alive_ok : CtOK Try.prog cf0 4 (oneC [] (.bool (.lit true))) := ct_vc (m := 1000) (sxok_of (all_cons (or_ok s1_ok s2_ok) (all_cons t1_ok (all_cons w1_ok (all_cons (or_ok a1_ok a2_ok) all_nil)))) all_nil : SXOK Try.prog cf0 sxV) fun _ _ => alive_all
theorem sxL_ok {g s t w : SCall} (h1 : CtOK Try.prog cf0 5 g) (h2 : CtOK Try.prog cf0 6 s) (h3 : CtOK Try.prog cf0 9 t) (h4 : CtOK Try.prog cf0 10 w) : SXOK Try.prog cf0 (sxL g s t w) :=
  sxok_of (all_cons alive_ok (all_cons h1 (all_cons h2 (all_cons same_ok (all_cons count_ok (all_cons h3 (all_cons h4 all_nil))))))) all_nil
theorem stk_ok (f : Nat) : CtOK Try.prog cf0 f stk := fun base bs K hK => by cases hK
def Walk (n : List (List Int)) (b : List Int) (i : Int) : Prop := ∃ sx, SXOK Try.prog cf0 sx ∧ scallI sx Try.prog cf0 (sexec sx Try.prog cf0 1000) 3 0 [rows2 n, row b, .int .i64 (.sym i)] (post (.bool (.lit true)))
theorem Out_ok (n : List (List Int)) (b : List Int) (i : Int) (hn : All n) (hb : By b) (lb : b.length ≤ 200) (hl : n.length ≤ 64) (hi : ¬ (0 ≤ i ∧ i < (putL n b).length)) :
    scallI (sxL (great n (.lit false)) (oneC [rows2 n, row b] (.tup [rows2 (putL n b), .int .i64 (.lit 0)])) (oneC [rows2 (putL n b), .int .i64 (.sym i)] (.tup [rows2 [], row [], .int .i64 (.lit 2)])) (oneC [rows2 (putL n b), .int .i64 (.sym i)] (.tup [rows2 [], .int .i64 (.lit 2)]))) Try.prog cf0 (sexec (sxL (great n (.lit false)) (oneC [rows2 n, row b] (.tup [rows2 (putL n b), .int .i64 (.lit 0)])) (oneC [rows2 (putL n b), .int .i64 (.sym i)] (.tup [rows2 [], row [], .int .i64 (.lit 2)])) (oneC [rows2 (putL n b), .int .i64 (.sym i)] (.tup [rows2 [], .int .i64 (.lit 2)]))) Try.prog cf0 1000) 3 0 [rows2 n, row b, .int .i64 (.sym i)] (post (.bool (.lit true))) := by
  refine Eq.mpr (vc_Out n b i (putL n b)) ?_
  have hx := All_put hn hb lb
  have lx := put_len n b
  have q1 := put_take n b
  have q2 := put_count n b
  have hcount : n.count b ≤ n.length := List.count_le_length
  generalize putL n b = x at *
  have w1 : IntKind.i64.wrap ((n.length : Int) + 1) = ((n.length + 1 : Nat) : Int) := nx (by omega)
  have w5 : IntKind.i64.wrap ((n.length : Int) + 0) = ((n.length : Nat) : Int) := nx0 (by omega)
  have w6 : IntKind.i64.wrap ((n.count b : Int) + 1) = ((n.count b + 1 : Nat) : Int) := nx (by omega)
  have w7 : IntKind.i64.wrap ((n.count b : Int) + 0) = ((n.count b : Nat) : Int) := nx0 (by omega)
  simp only [true_and, and_true, eq_self, exists_const, implies_true, rdrop0, rdropB, Int.toNat_natCast, w1, w5, List.take_length, Nat.le_refl]
  by_cases h64 : n.length < 64
  · rw [if_pos h64] at lx q2
    repeat' first | trivial | exact rfl | omega | assumption | exact hx | exact hn | exact hb | (intro _) | (refine And.intro ?_ ?_) | (refine Exists.intro ((_, _), (_, _)) ⟨⟨⟨rfl, rfl⟩, ⟨rfl, rfl⟩⟩, ?_⟩) | (refine Exists.intro (_, _) ⟨⟨⟨rfl, rfl⟩, ⟨rfl, rfl⟩⟩, ?_⟩) | (refine Exists.intro _ ⟨rfl, ?_⟩)
    all_goals (try dsimp only at *)
    all_goals first | omega | assumption | exact absurd q1 (by assumption) | (refine ⟨fun _ => trivial, fun _ => ?_⟩; omega)
  · rw [if_neg h64] at lx q2
    repeat' first | trivial | exact rfl | omega | assumption | exact hx | exact hn | exact hb | (intro _) | (refine And.intro ?_ ?_) | (refine Exists.intro ((_, _), (_, _)) ⟨⟨⟨rfl, rfl⟩, ⟨rfl, rfl⟩⟩, ?_⟩) | (refine Exists.intro (_, _) ⟨⟨⟨rfl, rfl⟩, ⟨rfl, rfl⟩⟩, ?_⟩) | (refine Exists.intro _ ⟨rfl, ?_⟩)
    all_goals (try dsimp only at *)
    all_goals first | omega | assumption | exact absurd q1 (by assumption) | (refine ⟨fun _ => trivial, fun _ => ?_⟩; omega)
theorem law_all (n : List (List Int)) (b : List Int) (i : Int) (hA : ∀ x ∈ n, By x) (hb : By b) : Walk n b i := by
  by_cases hg : greatB n = true ∨ 200 < b.length
  · refine ⟨sxL (great n (.sym (greatB n = true))) stk stk stk, sxL_ok (great_ok n Iff.rfl) (stk_ok 6) (stk_ok 9) (stk_ok 10), ?_⟩
    rw [vc_Big]
    simp only [true_and, and_true, eq_self, exists_const, implies_true]
    intro h1 h2
    rcases hg with q | q
    · exact absurd q h1
    · omega
  · have hg0 : greatB n = false := by
      cases q : greatB n with
      | false => rfl
      | true => exact absurd (.inl q) hg
    have lb : b.length ≤ 200 := by omega
    have hg1 := hg0
    unfold greatB at hg1
    rw [Bool.or_eq_false_iff] at hg1
    have hn100 : n.length ≤ 100 := by have := hg1.1; simp at this; exact this
    have hn : All n := fun x hx => by
      refine ⟨hA x hx, ?_⟩
      have := List.any_eq_false.1 hg1.2 x (by rw [List.take_of_length_le hn100]; exact hx)
      simpa using this
    have hG : (SB.sym (greatB n = true)).iff (.lit false) := by
      show (greatB n = true) ↔ (false = true)
      rw [hg0]
    by_cases h64 : n.length ≤ 64
    · have es : sendL n b = putL n b := by unfold sendL; rw [if_pos h64]
      have ee : sendE n = 0 := by unfold sendE; rw [if_pos h64]
      have hS : CtOK Try.prog cf0 6 (oneC [rows2 n, row b] (.tup [rows2 (putL n b), .int .i64 (.lit 0)])) :=
        ct_one send_ok (n, b) ⟨hn, lb⟩ (by show sle 12 (.tup [rows2 (sendL n b), .int .i64 (.sym (sendE n))]) _; rw [es, ee]; exact ⟨⟨rfl, rfl⟩, rfl, trivial⟩) ⟨⟨rfl, rfl⟩, ⟨rfl, rfl⟩, trivial⟩
      have hx := All_put hn hb lb
      have lx : (putL n b).length ≤ 64 := by rw [put_len]; split <;> omega
      by_cases hi : 0 ≤ i ∧ i < (putL n b).length
      · obtain ⟨k, rfl⟩ : ∃ k : Nat, i = k := ⟨i.toNat, by omega⟩
        have hk : k < (putL n b).length := by omega
        have hc : (putL n b)[k]? = some (putL n b)[k] := List.getElem?_eq_getElem hk
        have e0 := takeE_0 lx hi.1 hi.2
        have ea : at_ (putL n b) (k : Int) = (putL n b)[k] := by unfold at_; rw [List.getD_eq_getElem?_getD, Int.toNat_natCast, hc]; rfl
        have e1 : takeL (putL n b) (k : Int) = (putL n b).eraseIdx k := by unfold takeL; rw [if_pos e0]; rfl
        have e2 : takeB (putL n b) (k : Int) = (putL n b)[k] := by unfold takeB; rw [if_pos e0, ea]
        have e3 : twiceL (putL n b) (k : Int) = putL (putL n b) (putL n b)[k] := by unfold twiceL; rw [if_pos e0, ea]
        refine ⟨_, ?_, In_ok n b _ k hn hb lb h64 hk hc⟩
        exact sxL_ok (great_ok n hG) hS (ct_one take_ok (putL n b, (k : Int)) hx (by show sle 12 (.tup [rows2 (takeL (putL n b) k), row (takeB (putL n b) k), .int .i64 (.sym (takeE (putL n b) k))]) _; rw [e0, e1, e2]; exact ⟨⟨rfl, rfl⟩, ⟨rfl, rfl⟩, rfl, trivial⟩) ⟨⟨rfl, rfl⟩, rfl, trivial⟩) (ct_one twice_ok (putL n b, (k : Int)) hx (by show sle 12 (.tup [rows2 (twiceL (putL n b) k), .int .i64 (.sym (takeE (putL n b) k))]) _; rw [e0, e3]; exact ⟨⟨rfl, rfl⟩, rfl, trivial⟩) ⟨⟨rfl, rfl⟩, rfl, trivial⟩)
      · have e0 := takeE_2 lx hi
        have e1 : takeL (putL n b) i = [] := by unfold takeL; rw [if_neg (by rw [e0]; decide)]
        have e2 : takeB (putL n b) i = [] := by unfold takeB; rw [if_neg (by rw [e0]; decide)]
        have e3 : twiceL (putL n b) i = [] := by unfold twiceL; rw [if_neg (by rw [e0]; decide)]
        refine ⟨_, ?_, Out_ok n b i hn hb lb h64 hi⟩
        exact sxL_ok (great_ok n hG) hS (ct_one take_ok (putL n b, i) hx (by show sle 12 (.tup [rows2 (takeL (putL n b) i), row (takeB (putL n b) i), .int .i64 (.sym (takeE (putL n b) i))]) _; rw [e0, e1, e2]; exact ⟨⟨rfl, rfl⟩, ⟨rfl, rfl⟩, rfl, trivial⟩) ⟨⟨rfl, rfl⟩, rfl, trivial⟩) (ct_one twice_ok (putL n b, i) hx (by show sle 12 (.tup [rows2 (twiceL (putL n b) i), .int .i64 (.sym (takeE (putL n b) i))]) _; rw [e0, e3]; exact ⟨⟨rfl, rfl⟩, rfl, trivial⟩) ⟨⟨rfl, rfl⟩, rfl, trivial⟩)
    · have es : sendL n b = [] := by unfold sendL; rw [if_neg h64]
      have ee : sendE n = 8 := by unfold sendE; rw [if_neg h64]
      refine ⟨_, sxL_ok (great_ok n hG) (ct_one send_ok (n, b) ⟨hn, lb⟩ (r := .tup [rows2 [], .int .i64 (.lit 8)]) (by show sle 12 (.tup [rows2 (sendL n b), .int .i64 (.sym (sendE n))]) _; rw [es, ee]; exact ⟨⟨rfl, rfl⟩, rfl, trivial⟩) (as0 := [rows2 n, row b]) ⟨⟨rfl, rfl⟩, ⟨rfl, rfl⟩, trivial⟩) (stk_ok 9) (stk_ok 10), ?_⟩
      refine Eq.mpr (vc_No n b i) ?_
      simp only [true_and, and_true, eq_self, exists_const, implies_true]
      intro h1 h2
      omega
theorem lo_u8 : LO Try.prog 5 1 (eI .u8) (fun n => IntKind.min .u8 ≤ n ∧ n ≤ IntKind.max .u8) := lo_int Try.underlying5 (by kernel_rfl)
theorem lo_row : LO Try.prog 23 1 (eR (eI .u8) 1 1 true) (fun xs => xs.length ≤ 9223372036854775807 ∧ ∀ y ∈ xs, IntKind.min .u8 ≤ y ∧ y ≤ IntKind.max .u8) := lo_slice Try.underlying23 (by kernel_rfl) lo_u8 (Nat.le_refl 1) rokB
theorem lo_rows : LO Try.prog 22 1 (eR eT 1 2 false) (fun l => l.length ≤ 9223372036854775807 ∧ ∀ xs ∈ l, xs.length ≤ 9223372036854775807 ∧ ∀ y ∈ xs, IntKind.min .u8 ≤ y ∧ y ≤ IntKind.max .u8) := lo_slice Try.underlying22 (by kernel_rfl) lo_row (Nat.le_refl 1) rokT
theorem By_of {a : List Int} (h : a.length ≤ 9223372036854775807 ∧ ∀ y ∈ a, IntKind.min .u8 ≤ y ∧ y ≤ IntKind.max .u8) : By a := fun x hx => by
  have := h.2 x hx
  have e1 : IntKind.min .u8 = 0 := by decide
  have e2 : IntKind.max .u8 = 255 := by decide
  omega
theorem walk (n : List (List Int)) (b : List Int) (i : Int) (hn : n.length ≤ 9223372036854775807 ∧ ∀ xs ∈ n, xs.length ≤ 9223372036854775807 ∧ ∀ y ∈ xs, IntKind.min .u8 ≤ y ∧ y ≤ IntKind.max .u8) (hb : b.length ≤ 9223372036854775807 ∧ ∀ y ∈ b, IntKind.min .u8 ≤ y ∧ y ≤ IntKind.max .u8) (_ : IntKind.min .i64 ≤ i ∧ i ≤ IntKind.max .i64) :
    ∃ sx : SX, SXOK Try.prog cf0 sx ∧ scallI sx Try.prog cf0 (sexec sx Try.prog cf0 1000) 3 0 [rows2 n, row b, .int .i64 (.sym i)] (post (.bool (.lit true))) :=
  law_all n b i (fun x hx => By_of (hn.2 x hx)) (By_of hb)

end
end Go.Proofs.Ytifcjhfejacmcaa.VM
