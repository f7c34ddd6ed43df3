/- Queues: the package's functions, told. No conditions. -/
import Derived.Test.YtnnfcebnmogdmaaProg
import Derived.KernelRfl
import Derived.Test.YtnnfcebnmogdmaaS2
import Derived.Test.YtnnfcebnmogdmaaVR
import Derived.Test.YtnnfcebnmogdmaaV2
/- Queues: the package's functions, told. No conditions. -/
namespace Go.Proofs.Ytnnfcebnmogdmaa.VM
open Go Go.RowKit
set_option linter.unusedVariables false
set_option linter.unusedSimpArgs false
set_option maxRecDepth 100000
noncomputable section
def cf0 : Cfg := ⟨fun f => Nat.beq f 10, fun _ => false, fun _ => none⟩
def row (s : List Int) : SV := .slI false (bytesC s) (.sym s.length) false
def eT (x : List Int) : List SV := [row x]
def rows2 (l : List (List Int)) : SV := .slI false (.rows eT 1 2 false l) (.sym l.length) false
def By (l : List Int) : Prop := ∀ x ∈ l, 0 ≤ x ∧ x < 256
def All (l : List (List Int)) : Prop := ∀ x ∈ l, By x ∧ x.length ≤ 200
def rowT : TypeId → Option SRow := fun t => bif Nat.beq t 5 then some ⟨Int, eB, 1, 1, true, 0⟩ else bif Nat.beq t 35 then some ⟨List Int, eT, 1, 2, false, []⟩ else none
def qV (l : List (List Int)) (h m : Int) : SV := .agg [rows2 l, .int .i64 (.sym h), .int .i64 (.sym m)]
/-- A queue. -/
abbrev Qu := List (List Int) × Int × Int
def qS (q : Qu) : SV := qV q.1 q.2.1 q.2.2
/-- Queues that are not great. -/
def QOK (q : Qu) : Prop := All q.1 ∧ q.1.length ≤ 100
def atI (q : Qu) (k : Int) : Int := (q.2.1 + k) % (q.1.length : Int)
def fits (q : Qu) : Bool := decide (1 ≤ q.1.length) && decide (q.1.length ≤ 64) && decide (0 ≤ q.2.1) && decide (0 ≤ q.2.2) && decide (q.2.1 < q.1.length) && decide (q.2.2 ≤ q.1.length)
def clean (q : Qu) : Prop := ∀ k : Nat, q.2.2 ≤ k → k < q.1.length → ∀ x, q.1[(atI q k).toNat]? = some x → x.length = 0
open Classical in
noncomputable def chkQ (q : Qu) : Int := if fits q = true ∧ clean q then 0 else 8
def ctText : SCall := Ct (fun x : List Int => [row x]) (fun x => x.length ≤ 1000) (fun x => row x)
def ctAt : SCall := Ct (fun a : Qu × Int => [qS a.1, .int .i64 (.sym a.2)]) (fun a => 1 ≤ a.1.1.length ∧ a.1.1.length ≤ 100 ∧ 0 ≤ a.1.2.1 ∧ a.1.2.1 ≤ 100 ∧ 0 ≤ a.2 ∧ a.2 ≤ 100) (fun a => .int .i64 (.sym (atI a.1 a.2)))
def ctOfQ : SCall := Ct (fun a : Qu => [qS a]) (fun a => True) (fun a => qS a)
def ctChkQ : SCall := Ct (fun a : Qu => [qS a]) (fun a => QOK a) (fun a => .int .i64 (.sym (chkQ a)))
def twB (base : Nat) (q : Qu) : SV := .agg [.slB (base + 0) (.lit 0) 1 0 (.sym q.1.length), .int .i64 (.sym q.2.1), .int .i64 (.sym q.2.2)]
def twBlk (q : Qu) : List SBlk := [⟨.rows eT 1 2 false q.1, 1, 0, false, false⟩]
def ctTwinB : SCall := fun _ base bs K => ∃ q : Qu, sles bs [qS q] ∧ QOK q ∧ K (twB base q) (twBlk q)
/-- Check: the loop. -/
def L21 : LInv where
  ι := Qu × Nat
  G := fun a => QOK a.1 ∧ fits a.1 = true ∧ a.1.2.2 ≤ a.2 ∧ a.2 ≤ a.1.1.length
  μ := fun a => a.1.1.length - a.2
  I := fun a => ⟨stT 53 [(1, .ptrB 0 (.lit 0) 0 0 0), (3, .int .i64 (.sym (a.1.1.length : Int))), (4, .ptrB 1 (.lit 0) 0 0 0), (5, .int .i64 (.sym (a.2 : Int)))], [(0, ⟨.lit [rows2 a.1.1, .int .i64 (.sym a.1.2.1), .int .i64 (.sym a.1.2.2)], 0, 0, false, false⟩), (1, ⟨.lit [rows2 a.1.1, .int .i64 (.sym a.1.2.1), .int .i64 (.sym a.1.2.2)], 0, 0, false, false⟩)], 2⟩
  Ω := Unit
  e := 0
  PE := fun a _ => ∀ k : Nat, a.2 ≤ k → k < a.1.1.length → ∀ x, a.1.1[(atI a.1 k).toNat]? = some x → x.length = 0
  OE := fun _ => ⟨stT 53 [], [], 2⟩
  ret := true
  Ρ := Unit
  PR := fun a _ => ¬ ∀ k : Nat, a.2 ≤ k → k < a.1.1.length → ∀ x, a.1.1[(atI a.1 k).toNat]? = some x → x.length = 0
  OR := fun _ => ⟨stT 53 [(2, .int .i64 (.lit 8))], [], 2⟩
def twI (q : Qu) (i : Nat) : List (List Int) := q.1.take i ++ List.replicate (q.1.length - i) []
/-- Twin: the loop. -/
def L10 : LInv where
  ι := Qu × Nat
  G := fun a => QOK a.1 ∧ a.2 ≤ a.1.1.length
  μ := fun a => a.1.1.length - a.2
  I := fun a => ⟨stT 31 [(2, .ptrB 1 (.lit 0) 0 0 0), (3, .ptrB 3 (.lit 0) 0 0 0), (16, rows2 a.1.1), (17, .int .i64 (.sym (a.1.1.length : Int))), (18, .int .i64 (.sym (a.2 : Int)))],
    [(1, ⟨.lit [.any, .any, .any], 0, 0, false, false⟩), (3, ⟨.lit [.slB 2 (.lit 0) 1 0 (.sym a.1.1.length), .int .i64 (.sym a.1.2.1), .int .i64 (.sym a.1.2.2)], 0, 0, false, false⟩), (2, ⟨.rows eT 1 2 false (twI a.1 a.2), 1, 0, false, false⟩)], 4⟩
  Ω := Qu
  e := 0
  PE := fun a o => o = a.1
  OE := fun q => ⟨stT 31 [(2, .ptrB 1 (.lit 0) 0 0 0), (3, .ptrB 3 (.lit 0) 0 0 0)],
    [(1, ⟨.lit [.any, .any, .any], 0, 0, false, false⟩), (3, ⟨.lit [.slB 2 (.lit 0) 1 0 (.sym q.1.length), .int .i64 (.sym q.2.1), .int .i64 (.sym q.2.2)], 0, 0, false, false⟩), (2, ⟨.rows eT 1 2 false q.1, 1, 0, false, false⟩)], 4⟩
  ret := false
  Ρ := Unit
  PR := fun _ _ => False
  OR := fun _ => ⟨[], [], 0⟩
def sx0 : SX := ⟨rowT, ctOf [], lpOf []⟩
def sxA : SX := ⟨rowT, ctOf [(25, ctText), (29, ctAt)], lpOf []⟩
def sx21 : SX := ⟨rowT, ctOf [(25, ctText), (29, ctAt), (28, ctOfQ)], lpOf [(6, ⟨21, 0, L21.C 1000⟩)]⟩
def sx10 : SX := ⟨rowT, ctOf [(25, ctText), (29, ctAt)], lpOf [(3, ⟨10, 0, L10.C 1000⟩)]⟩
open Classical in
noncomputable def pushE (q : Qu) : Int := if chkQ q = 0 then (if q.2.2 = q.1.length then 9 else 0) else chkQ q
noncomputable def pushQ (q : Qu) (b : List Int) : Qu := if pushE q = 0 then (q.1.set (atI q q.2.2).toNat b, q.2.1, q.2.2 + 1) else ([], 0, 0)
noncomputable def popE (q : Qu) : Int := if chkQ q = 0 then (if q.2.2 = 0 then 6 else 0) else chkQ q
noncomputable def popQ (q : Qu) : Qu := if popE q = 0 then (q.1.set q.2.1.toNat [], atI q 1, q.2.2 - 1) else ([], 0, 0)
noncomputable def popB (q : Qu) : List Int := if popE q = 0 then q.1.getD q.2.1.toNat [] else []
def ctPush : SCall := Ct (fun a : Qu × List Int => [qS a.1, row a.2]) (fun a => QOK a.1 ∧ a.2.length ≤ 200) (fun a => .tup [qS (pushQ a.1 a.2), .int .i64 (.sym (pushE a.1))])
def ctPop : SCall := Ct (fun a : Qu => [qS a]) (fun a => QOK a) (fun a => .tup [qS (popQ a), row (popB a), .int .i64 (.sym (popE a))])
def sxP : SX := ⟨rowT, ctOf [(25, ctText), (29, ctAt), (28, ctOfQ), (21, ctChkQ), (10, ctTwinB)], lpOf []⟩
theorem vc_text (x : List Int) : (scallI sx0 Try.prog cf0 (sexec sx0 Try.prog cf0 1000) 25 0 [row x] (post (row x))) = ((0 : Int) ≤ (↑(List.length x) : Int) ∧ (↑(List.length x) : Int) ≤ (↑(List.length x) : Int) ∧ (↑(List.length x) : Int) ≤ (1099511627776 : Int) ∧ ROK (SRow.r (SRow.mk Int eB (1 : Nat) (1 : Nat) true (0
: Int))) (1 : Nat) (1 : Nat) (SRow.fl (SRow.mk Int eB (1 : Nat) (1 : Nat) true (0 : Int))) ∧ ((0 : Int) = (0 : Int) ∧ True) ∧ List.length x ≤ List.length x ∧ min (List.length x) (Int.toNat
(↑(List.length x) : Int)) ≤ List.length (List.replicate (Int.toNat (↑(List.length x) : Int)) (SRow.zero (SRow.mk Int eB (1 : Nat) (1 : Nat) true (0 : Int)))) ∧ ∃ (y1 : List (SRow.α (SRow.mk Int eB (1
: Nat) (1 : Nat) true (0 : Int)))), SC.rows eB (1 : Nat) (1 : Nat) true (List.take (List.length x) (rdrop (SN.lit (0 : Nat)) x)) = SC.rows (SRow.r (SRow.mk Int eB (1 : Nat) (1 : Nat) true (0 : Int)))
(1 : Nat) (1 : Nat) true y1 ∧ min (List.length x) (Int.toNat (↑(List.length x) : Int)) ≤ List.length y1 ∧ Int.toNat (↑(List.length x) : Int) ≤ List.length (List.take (0 : Nat) (List.replicate
(Int.toNat (↑(List.length x) : Int)) (SRow.zero (SRow.mk Int eB (1 : Nat) (1 : Nat) true (0 : Int)))) ++ List.take (min (List.length x) (Int.toNat (↑(List.length x) : Int))) y1 ++ List.drop ((0 : Nat)
+ min (List.length x) (Int.toNat (↑(List.length x) : Int))) (List.replicate (Int.toNat (↑(List.length x) : Int)) (SRow.zero (SRow.mk Int eB (1 : Nat) (1 : Nat) true (0 : Int))))) ∧ Int.toNat
(↑(List.length x) : Int) = List.length x ∧ SC.rows (SRow.r (SRow.mk Int eB (1 : Nat) (1 : Nat) true (0 : Int))) (1 : Nat) (1 : Nat) true (List.take (Int.toNat (↑(List.length x) : Int)) (rdrop (SN.lit
(0 : Nat)) (List.take (0 : Nat) (List.replicate (Int.toNat (↑(List.length x) : Int)) (SRow.zero (SRow.mk Int eB (1 : Nat) (1 : Nat) true (0 : Int)))) ++ List.take (min (List.length x) (Int.toNat
(↑(List.length x) : Int))) y1 ++ List.drop ((0 : Nat) + min (List.length x) (Int.toNat (↑(List.length x) : Int))) (List.replicate (Int.toNat (↑(List.length x) : Int)) (SRow.zero (SRow.mk Int eB (1 :
Nat) (1 : Nat) true (0 : Int))))))) = SC.rows eB (1 : Nat) (1 : Nat) true x) := by kernel_rfl
theorem vc_at (q : Qu) (k x : Int) : (scallI sx0 Try.prog cf0 (sexec sx0 Try.prog cf0 1000) 29 0 [qS q, .int .i64 (.sym k)] (post (.int .i64 (.sym x)))) = (¬(↑(List.length (Prod.fst q)) : Int) = (0 : Int) ∧ Int.tmod (IntKind.wrap IntKind.i64 (Prod.fst (Prod.snd q) + k)) (↑(List.length (Prod.fst q)) : Int) = x) := by kernel_rfl
theorem vc_ofq (q : Qu) : (scallI sx0 Try.prog cf0 (sexec sx0 Try.prog cf0 1000) 28 0 [qS q] (post (qS q))) = ((List.length (Prod.fst q) = List.length (Prod.fst q) ∧ SC.rows eT (1 : Nat) (2 : Nat) false (Prod.fst q) = SC.rows eT (1 : Nat) (2 : Nat) false (Prod.fst q)) ∧ Prod.fst (Prod.snd q) = Prod.fst
(Prod.snd q) ∧ Prod.snd (Prod.snd q) = Prod.snd (Prod.snd q) ∧ True) := by kernel_rfl
theorem vc_chk (q : Qu) (x : Int) : (scallI sx21 Try.prog cf0 (sexec sx21 Try.prog cf0 1000) 21 0 [qS q] (post (.int .i64 (.sym x)))) = (((↑(List.length (Prod.fst q)) : Int) < (1 : Int) → (8 : Int) = x) ∧ (¬(↑(List.length (Prod.fst q)) : Int) < (1 : Int) → ((64 : Int) < (↑(List.length (Prod.fst q)) : Int) → (8 : Int) = x) ∧ (¬(64 :
Int) < (↑(List.length (Prod.fst q)) : Int) → ((if Prod.snd (Prod.snd q) < Prod.fst (Prod.snd q) then Prod.snd (Prod.snd q) else Prod.fst (Prod.snd q)) < (0 : Int) → (8 : Int) = x) ∧ (¬(if Prod.snd
(Prod.snd q) < Prod.fst (Prod.snd q) then Prod.snd (Prod.snd q) else Prod.fst (Prod.snd q)) < (0 : Int) → ((↑(List.length (Prod.fst q)) : Int) ≤ Prod.fst (Prod.snd q) → (8 : Int) = x) ∧
(¬(↑(List.length (Prod.fst q)) : Int) ≤ Prod.fst (Prod.snd q) → ((↑(List.length (Prod.fst q)) : Int) < Prod.snd (Prod.snd q) → (8 : Int) = x) ∧ (¬(↑(List.length (Prod.fst q)) : Int) < Prod.snd
(Prod.snd q) → ∃ (y2 : Qu), (((List.length (Prod.fst q) = List.length (Prod.fst y2) ∧ SC.rows eT (1 : Nat) (2 : Nat) false (Prod.fst q) = SC.rows eT (1 : Nat) (2 : Nat) false (Prod.fst y2)) ∧ Prod.fst
(Prod.snd q) = Prod.fst (Prod.snd y2) ∧ Prod.snd (Prod.snd q) = Prod.snd (Prod.snd y2) ∧ True) ∧ True) ∧ True ∧ SameCode (loopBody Try.prog (21 : Nat) (0 : Nat)) (loopBody Try.prog (21 : Nat) (0 :
Nat)) ∧ ∃ (y3 : LInv.ι L21), (((∀ (y4 : List Int), y4 ∈ Prod.fst (Prod.fst y3) → (∀ (y5 : Int), y5 ∈ y4 → (0 : Int) ≤ y5 ∧ y5 < (256 : Int)) ∧ List.length y4 ≤ (200 : Nat)) ∧ List.length (Prod.fst
(Prod.fst y3)) ≤ (100 : Nat)) ∧ fits (Prod.fst y3) = true ∧ Prod.snd (Prod.snd (Prod.fst y3)) ≤ (↑(Prod.snd y3) : Int) ∧ Prod.snd y3 ≤ List.length (Prod.fst (Prod.fst y3))) ∧ ((True ∧ (0 : Nat) = (0 :
Nat) ∧ True ∧ (↑(List.length (Prod.fst q)) : Int) = (↑(List.length (Prod.fst (Prod.fst y3))) : Int) ∧ (0 : Nat) = (0 : Nat) ∧ Prod.snd (Prod.snd q) = (↑(Prod.snd y3) : Int) ∧ True ∧ True ∧ True ∧ True
∧ True ∧ True ∧ True ∧ True ∧ True ∧ True ∧ True ∧ True ∧ True ∧ True ∧ True ∧ True ∧ True ∧ True ∧ True ∧ True ∧ True ∧ True ∧ True ∧ True ∧ True ∧ True ∧ True ∧ True ∧ True ∧ True ∧ True ∧ True ∧
True ∧ True ∧ True ∧ True ∧ True ∧ True ∧ True ∧ True ∧ True ∧ True ∧ True ∧ True ∧ True ∧ True ∧ True ∧ True) ∧ ((List.length (Prod.fst q) = List.length (Prod.fst (Prod.fst y3)) ∧ SC.rows eT (1 :
Nat) (2 : Nat) false (Prod.fst q) = SC.rows eT (1 : Nat) (2 : Nat) false (Prod.fst (Prod.fst y3))) ∧ Prod.fst (Prod.snd q) = Prod.fst (Prod.snd (Prod.fst y3)) ∧ Prod.snd (Prod.snd q) = Prod.snd
(Prod.snd (Prod.fst y3)) ∧ True) ∧ ((List.length (Prod.fst y2) = List.length (Prod.fst (Prod.fst y3)) ∧ SC.rows eT (1 : Nat) (2 : Nat) false (Prod.fst y2) = SC.rows eT (1 : Nat) (2 : Nat) false
(Prod.fst (Prod.fst y3))) ∧ Prod.fst (Prod.snd y2) = Prod.fst (Prod.snd (Prod.fst y3)) ∧ Prod.snd (Prod.snd y2) = Prod.snd (Prod.snd (Prod.fst y3)) ∧ True) ∧ True) ∧ (∀ (y4 : LInv.ι L21), True) ∧ (∀
(y4 : LInv.Ω L21), LInv.PE L21 y3 y4 → (0 : Int) = x) ∧ ∀ (y4 : LInv.Ρ L21), LInv.PR L21 y3 y4 → (8 : Int) = x)))))) := by kernel_rfl
theorem vc_twin (q : Qu) (base : Nat) : (scallI sx10 Try.prog cf0 (sexec sx10 Try.prog cf0 1000) 10 base [qS q] (fun x bs => x = twB base q ∧ bs = twBlk q)) = ((0 : Int) ≤ (↑(List.length (Prod.fst q)) : Int) ∧ (↑(List.length (Prod.fst q)) : Int) ≤ (↑(List.length (Prod.fst q)) : Int) ∧ (↑(List.length (Prod.fst q)) : Int) ≤ (1099511627776 : Int) ∧ ROK (SRow.r
(SRow.mk (List Int) eT (1 : Nat) (2 : Nat) false [])) (1 : Nat) (2 : Nat) (SRow.fl (SRow.mk (List Int) eT (1 : Nat) (2 : Nat) false [])) ∧ (((0 : Nat) = (0 : Nat) ∧ ∀ (y2 : Int), List.length (eB y2) =
(1 : Nat) ∧ (∀ (y3 : SV), y3 ∈ eB y2 → imm (1 : Nat) y3 ∧ SV.one y3 = true) ∧ (true = true → ∀ (y3 : SV), y3 ∈ eB y2 → scalar y3)) ∧ True) ∧ SameCode (loopBody Try.prog (10 : Nat) (0 : Nat)) (loopBody
Try.prog (10 : Nat) (0 : Nat)) ∧ ∃ (y2 : LInv.ι L10), (((∀ (y3 : List Int), y3 ∈ Prod.fst (Prod.fst y2) → (∀ (y4 : Int), y4 ∈ y3 → (0 : Int) ≤ y4 ∧ y4 < (256 : Int)) ∧ List.length y3 ≤ (200 : Nat)) ∧
List.length (Prod.fst (Prod.fst y2)) ≤ (100 : Nat)) ∧ Prod.snd y2 ≤ List.length (Prod.fst (Prod.fst y2))) ∧ ((True ∧ True ∧ (0 : Nat) = (0 : Nat) ∧ (0 : Nat) = (0 : Nat) ∧ True ∧ True ∧ True ∧ True ∧
True ∧ True ∧ True ∧ True ∧ True ∧ True ∧ True ∧ True ∧ (List.length (Prod.fst q) = List.length (Prod.fst (Prod.fst y2)) ∧ SC.rows eT (1 : Nat) (2 : Nat) false (Prod.fst q) = SC.rows eT (1 : Nat) (2 :
Nat) false (Prod.fst (Prod.fst y2))) ∧ (↑(List.length (Prod.fst q)) : Int) = (↑(List.length (Prod.fst (Prod.fst y2))) : Int) ∧ (0 : Int) = (↑(Prod.snd y2) : Int) ∧ True ∧ True ∧ True ∧ True ∧ True ∧
True ∧ True ∧ True ∧ True ∧ True ∧ True ∧ True ∧ True) ∧ (True ∧ True ∧ True ∧ True) ∧ (((0 : Nat) = (0 : Nat) ∧ Int.toNat (↑(List.length (Prod.fst q)) : Int) = List.length (Prod.fst (Prod.fst y2))) ∧
Prod.fst (Prod.snd q) = Prod.fst (Prod.snd (Prod.fst y2)) ∧ Prod.snd (Prod.snd q) = Prod.snd (Prod.snd (Prod.fst y2)) ∧ True) ∧ SC.rows (SRow.r (SRow.mk (List Int) eT (1 : Nat) (2 : Nat) false [])) (1
: Nat) (2 : Nat) false (List.replicate (Int.toNat (↑(List.length (Prod.fst q)) : Int)) (SRow.zero (SRow.mk (List Int) eT (1 : Nat) (2 : Nat) false []))) = SC.rows eT (1 : Nat) (2 : Nat) false (twI
(Prod.fst y2) (Prod.snd y2)) ∧ True) ∧ (∀ (y3 : LInv.ι L10), True) ∧ (∀ (y3 : LInv.Ω L10), LInv.PE L10 y2 y3 → List.length (Prod.fst y3) ≤ List.length (Prod.fst y3) ∧ SV.agg [SV.slB (base + (0 : Nat))
(SN.lit (0 : Nat)) (1 : Nat) (0 : Nat) (SN.sym (List.length (Prod.fst y3))), SV.int IntKind.i64 (SI.sym (Prod.fst (Prod.snd y3))), SV.int IntKind.i64 (SI.sym (Prod.snd (Prod.snd y3)))] = SV.agg
[SV.slB (base + (0 : Nat)) (SN.lit (0 : Nat)) (1 : Nat) (0 : Nat) (SN.sym (List.length (Prod.fst q))), SV.int IntKind.i64 (SI.sym (Prod.fst (Prod.snd q))), SV.int IntKind.i64 (SI.sym (Prod.snd
(Prod.snd q)))] ∧ [SBlk.mk (SC.rows eT (1 : Nat) (2 : Nat) false (List.take (List.length (Prod.fst y3)) (rdrop (SN.lit (0 : Nat)) (Prod.fst y3)))) (1 : Nat) (0 : Nat) false false] = twBlk q) ∧ True) := by kernel_rfl
theorem vc_L21 (a : L21.ι) : (sexec sxA Try.prog cf0 1000 (loopBody Try.prog 21 0) (L21.I a) (L21.round 1000 a)) = (((↑(Prod.snd a) : Int) < (↑(List.length (Prod.fst (Prod.fst a))) : Int) → ∃ (y1 : Qu × Int), (((List.length (Prod.fst (Prod.fst a)) = List.length (Prod.fst (Prod.fst y1)) ∧ SC.rows eT (1 : Nat) (2 :
Nat) false (Prod.fst (Prod.fst a)) = SC.rows eT (1 : Nat) (2 : Nat) false (Prod.fst (Prod.fst y1))) ∧ Prod.fst (Prod.snd (Prod.fst a)) = Prod.fst (Prod.snd (Prod.fst y1)) ∧ Prod.snd (Prod.snd
(Prod.fst a)) = Prod.snd (Prod.snd (Prod.fst y1)) ∧ True) ∧ (↑(Prod.snd a) : Int) = Prod.snd y1 ∧ True) ∧ ((1 : Nat) ≤ List.length (Prod.fst (Prod.fst y1)) ∧ List.length (Prod.fst (Prod.fst y1)) ≤
(100 : Nat) ∧ (0 : Int) ≤ Prod.fst (Prod.snd (Prod.fst y1)) ∧ Prod.fst (Prod.snd (Prod.fst y1)) ≤ (100 : Int) ∧ (0 : Int) ≤ Prod.snd y1 ∧ Prod.snd y1 ≤ (100 : Int)) ∧ (0 : Int) ≤ atI (Prod.fst y1)
(Prod.snd y1) ∧ atI (Prod.fst y1) (Prod.snd y1) < (↑(List.length (Prod.fst (Prod.fst a))) : Int) ∧ Int.toNat (atI (Prod.fst y1) (Prod.snd y1)) < List.length (Prod.fst (Prod.fst a)) ∧ ∀ (y2 : List
Int), (Prod.fst (Prod.fst a))[Int.toNat (atI (Prod.fst y1) (Prod.snd y1))]? = some y2 → ((0 : Int) < (↑(List.length y2) : Int) → ∃ (y3 : LInv.Ρ L21), ((∀ (k : Nat), Prod.snd a ≤ k → k < List.length
(Prod.fst (Prod.fst a)) → ∀ (x : List Int), (Prod.fst (Prod.fst a))[Int.toNat (atI (Prod.fst a) (↑k : Int))]? = some x → List.length x = (0 : Nat)) → False) ∧ (True ∧ True ∧ (8 : Int) = (8 : Int) ∧
True ∧ True ∧ True ∧ True ∧ True ∧ True ∧ True ∧ True ∧ True ∧ True ∧ True ∧ True ∧ True ∧ True ∧ True ∧ True ∧ True ∧ True ∧ True ∧ True ∧ True ∧ True ∧ True ∧ True ∧ True ∧ True ∧ True ∧ True ∧ True
∧ True ∧ True ∧ True ∧ True ∧ True ∧ True ∧ True ∧ True ∧ True ∧ True ∧ True ∧ True ∧ True ∧ True ∧ True ∧ True ∧ True ∧ True ∧ True ∧ True ∧ True ∧ True) ∧ True) ∧ (¬(0 : Int) < (↑(List.length y2) :
Int) → ∃ (y3 : LInv.ι L21), (((∀ (y4 : List Int), y4 ∈ Prod.fst (Prod.fst y3) → (∀ (y5 : Int), y5 ∈ y4 → (0 : Int) ≤ y5 ∧ y5 < (256 : Int)) ∧ List.length y4 ≤ (200 : Nat)) ∧ List.length (Prod.fst
(Prod.fst y3)) ≤ (100 : Nat)) ∧ fits (Prod.fst y3) = true ∧ Prod.snd (Prod.snd (Prod.fst y3)) ≤ (↑(Prod.snd y3) : Int) ∧ Prod.snd y3 ≤ List.length (Prod.fst (Prod.fst y3))) ∧ LInv.μ L21 y3 < LInv.μ
L21 a ∧ (∀ (y4 : LInv.Ω L21), LInv.PE L21 y3 y4 → ∀ (y5 : Nat), Prod.snd a ≤ y5 → y5 < List.length (Prod.fst (Prod.fst a)) → ∀ (y6 : List Int), (Prod.fst (Prod.fst a))[Int.toNat (atI (Prod.fst a) (↑y5
: Int))]? = some y6 → List.length y6 = (0 : Nat)) ∧ (∀ (y4 : LInv.Ρ L21), LInv.PR L21 y3 y4 → (∀ (k : Nat), Prod.snd a ≤ k → k < List.length (Prod.fst (Prod.fst a)) → ∀ (x : List Int), (Prod.fst
(Prod.fst a))[Int.toNat (atI (Prod.fst a) (↑k : Int))]? = some x → List.length x = (0 : Nat)) → False) ∧ (True ∧ (0 : Nat) = (0 : Nat) ∧ True ∧ (↑(List.length (Prod.fst (Prod.fst a))) : Int) =
(↑(List.length (Prod.fst (Prod.fst y3))) : Int) ∧ (0 : Nat) = (0 : Nat) ∧ IntKind.wrap IntKind.i64 ((↑(Prod.snd a) : Int) + (1 : Int)) = (↑(Prod.snd y3) : Int) ∧ True ∧ True ∧ True ∧ True ∧ True ∧
True ∧ True ∧ True ∧ True ∧ True ∧ True ∧ True ∧ True ∧ True ∧ True ∧ True ∧ True ∧ True ∧ True ∧ True ∧ True ∧ True ∧ True ∧ True ∧ True ∧ True ∧ True ∧ True ∧ True ∧ True ∧ True ∧ True ∧ True ∧ True
∧ True ∧ True ∧ True ∧ True ∧ True ∧ True ∧ True ∧ True ∧ True ∧ True ∧ True ∧ True ∧ True ∧ True) ∧ ((List.length (Prod.fst (Prod.fst a)) = List.length (Prod.fst (Prod.fst y3)) ∧ SC.rows eT (1 : Nat)
(2 : Nat) false (Prod.fst (Prod.fst a)) = SC.rows eT (1 : Nat) (2 : Nat) false (Prod.fst (Prod.fst y3))) ∧ Prod.fst (Prod.snd (Prod.fst a)) = Prod.fst (Prod.snd (Prod.fst y3)) ∧ Prod.snd (Prod.snd
(Prod.fst a)) = Prod.snd (Prod.snd (Prod.fst y3)) ∧ True) ∧ ((List.length (Prod.fst (Prod.fst a)) = List.length (Prod.fst (Prod.fst y3)) ∧ SC.rows eT (1 : Nat) (2 : Nat) false (Prod.fst (Prod.fst a))
= SC.rows eT (1 : Nat) (2 : Nat) false (Prod.fst (Prod.fst y3))) ∧ Prod.fst (Prod.snd (Prod.fst a)) = Prod.fst (Prod.snd (Prod.fst y3)) ∧ Prod.snd (Prod.snd (Prod.fst a)) = Prod.snd (Prod.snd
(Prod.fst y3)) ∧ True) ∧ True)) ∧ (¬(↑(Prod.snd a) : Int) < (↑(List.length (Prod.fst (Prod.fst a))) : Int) → ∃ (y1 : LInv.Ω L21), (∀ (y2 : Nat), Prod.snd a ≤ y2 → y2 < List.length (Prod.fst (Prod.fst
a)) → ∀ (y3 : List Int), (Prod.fst (Prod.fst a))[Int.toNat (atI (Prod.fst a) (↑y2 : Int))]? = some y3 → List.length y3 = (0 : Nat)) ∧ (True ∧ True ∧ True ∧ True ∧ True ∧ True ∧ True ∧ True ∧ True ∧
True ∧ True ∧ True ∧ True ∧ True ∧ True ∧ True ∧ True ∧ True ∧ True ∧ True ∧ True ∧ True ∧ True ∧ True ∧ True ∧ True ∧ True ∧ True ∧ True ∧ True ∧ True ∧ True ∧ True ∧ True ∧ True ∧ True ∧ True ∧ True
∧ True ∧ True ∧ True ∧ True ∧ True ∧ True ∧ True ∧ True ∧ True ∧ True ∧ True ∧ True ∧ True ∧ True ∧ True ∧ True) ∧ True)) := by kernel_rfl
theorem vc_L10 (a : L10.ι) : (sexec sxA Try.prog cf0 1000 (loopBody Try.prog 10 0) (L10.I a) (L10.round 1000 a)) = (((↑(Prod.snd a) : Int) < (↑(List.length (Prod.fst (Prod.fst a))) : Int) → (0 : Int) ≤ (↑(Prod.snd a) : Int) ∧ (↑(Prod.snd a) : Int) < (↑(List.length (Prod.fst (Prod.fst a))) : Int) ∧ Int.toNat
(↑(Prod.snd a) : Int) < List.length (Prod.fst (Prod.fst a)) ∧ ∀ (y1 : List Int), (Prod.fst (Prod.fst a))[Int.toNat (↑(Prod.snd a) : Int)]? = some y1 → ∃ (y2 : List Int), ((List.length y1 = List.length
y2 ∧ SC.rows eB (1 : Nat) (1 : Nat) true y1 = SC.rows eB (1 : Nat) (1 : Nat) true y2) ∧ True) ∧ List.length y2 ≤ (1000 : Nat) ∧ (0 : Int) ≤ (↑(Prod.snd a) : Int) ∧ (↑(Prod.snd a) : Int) <
(↑(List.length (Prod.fst (Prod.fst a))) : Int) ∧ Int.toNat (↑(Prod.snd a) : Int) < List.length (twI (Prod.fst a) (Prod.snd a)) ∧ ∃ (y3 : List Int), ((List.length y2 = List.length y3 ∧ SC.rows eB (1 :
Nat) (1 : Nat) true y2 = SC.rows eB (1 : Nat) (1 : Nat) true y3) ∧ True) ∧ ∃ (y4 : LInv.ι L10), (((∀ (y5 : List Int), y5 ∈ Prod.fst (Prod.fst y4) → (∀ (y6 : Int), y6 ∈ y5 → (0 : Int) ≤ y6 ∧ y6 < (256
: Int)) ∧ List.length y5 ≤ (200 : Nat)) ∧ List.length (Prod.fst (Prod.fst y4)) ≤ (100 : Nat)) ∧ Prod.snd y4 ≤ List.length (Prod.fst (Prod.fst y4))) ∧ LInv.μ L10 y4 < LInv.μ L10 a ∧ (∀ (y5 : LInv.Ω
L10), LInv.PE L10 y4 y5 → y5 = Prod.fst a) ∧ True ∧ (True ∧ True ∧ (0 : Nat) = (0 : Nat) ∧ (0 : Nat) = (0 : Nat) ∧ True ∧ True ∧ True ∧ True ∧ True ∧ True ∧ True ∧ True ∧ True ∧ True ∧ True ∧ True ∧
(List.length (Prod.fst (Prod.fst a)) = List.length (Prod.fst (Prod.fst y4)) ∧ SC.rows eT (1 : Nat) (2 : Nat) false (Prod.fst (Prod.fst a)) = SC.rows eT (1 : Nat) (2 : Nat) false (Prod.fst (Prod.fst
y4))) ∧ (↑(List.length (Prod.fst (Prod.fst a))) : Int) = (↑(List.length (Prod.fst (Prod.fst y4))) : Int) ∧ IntKind.wrap IntKind.i64 ((↑(Prod.snd a) : Int) + (1 : Int)) = (↑(Prod.snd y4) : Int) ∧ True
∧ True ∧ True ∧ True ∧ True ∧ True ∧ True ∧ True ∧ True ∧ True ∧ True ∧ True ∧ True) ∧ (True ∧ True ∧ True ∧ True) ∧ (((0 : Nat) = (0 : Nat) ∧ List.length (Prod.fst (Prod.fst a)) = List.length
(Prod.fst (Prod.fst y4))) ∧ Prod.fst (Prod.snd (Prod.fst a)) = Prod.fst (Prod.snd (Prod.fst y4)) ∧ Prod.snd (Prod.snd (Prod.fst a)) = Prod.snd (Prod.snd (Prod.fst y4)) ∧ True) ∧ SC.rows eT (1 : Nat)
(2 : Nat) false (List.set (twI (Prod.fst a) (Prod.snd a)) (Int.toNat (↑(Prod.snd a) : Int)) y3) = SC.rows eT (1 : Nat) (2 : Nat) false (twI (Prod.fst y4) (Prod.snd y4)) ∧ True) ∧ (¬(↑(Prod.snd a) :
Int) < (↑(List.length (Prod.fst (Prod.fst a))) : Int) → ∃ (y1 : LInv.Ω L10), y1 = Prod.fst a ∧ (True ∧ True ∧ (0 : Nat) = (0 : Nat) ∧ (0 : Nat) = (0 : Nat) ∧ True ∧ True ∧ True ∧ True ∧ True ∧ True ∧
True ∧ True ∧ True ∧ True ∧ True ∧ True ∧ True ∧ True ∧ True ∧ True ∧ True ∧ True ∧ True ∧ True ∧ True ∧ True ∧ True ∧ True ∧ True ∧ True ∧ True ∧ True) ∧ (True ∧ True ∧ True ∧ True) ∧ (((0 : Nat) =
(0 : Nat) ∧ List.length (Prod.fst (Prod.fst a)) = List.length (Prod.fst y1)) ∧ Prod.fst (Prod.snd (Prod.fst a)) = Prod.fst (Prod.snd y1) ∧ Prod.snd (Prod.snd (Prod.fst a)) = Prod.snd (Prod.snd y1) ∧
True) ∧ SC.rows eT (1 : Nat) (2 : Nat) false (twI (Prod.fst a) (Prod.snd a)) = SC.rows eT (1 : Nat) (2 : Nat) false (Prod.fst y1) ∧ True)) := by kernel_rfl
theorem vc_push (q : Qu) (b : List Int) (r : Qu) (x : Int) : (scallI sxP Try.prog cf0 (sexec sxP Try.prog cf0 1000) 14 0 [qS q, row b] (post (.tup [qS r, .int .i64 (.sym x)]))) = (∃ (y4 : Qu), (((List.length (Prod.fst q) = List.length (Prod.fst y4) ∧ SC.rows eT (1 : Nat) (2 : Nat) false (Prod.fst q) = SC.rows eT (1 : Nat) (2 : Nat) false (Prod.fst y4)) ∧ Prod.fst (Prod.snd q) =
Prod.fst (Prod.snd y4) ∧ Prod.snd (Prod.snd q) = Prod.snd (Prod.snd y4) ∧ True) ∧ True) ∧ ((∀ (y5 : List Int), y5 ∈ Prod.fst y4 → (∀ (y6 : Int), y6 ∈ y5 → (0 : Int) ≤ y6 ∧ y6 < (256 : Int)) ∧
List.length y5 ≤ (200 : Nat)) ∧ List.length (Prod.fst y4) ≤ (100 : Nat)) ∧ (¬chkQ y4 = (0 : Int) → ((List.length (Prod.fst r) = (0 : Nat) ∧ ∀ (y5 : List Int), List.length (eT y5) = (1 : Nat) ∧ (∀ (y6
: SV), y6 ∈ eT y5 → imm (2 : Nat) y6 ∧ SV.one y6 = true) ∧ (false = true → ∀ (y6 : SV), y6 ∈ eT y5 → scalar y6)) ∧ (0 : Int) = Prod.fst (Prod.snd r) ∧ (0 : Int) = Prod.snd (Prod.snd r) ∧ True) ∧ chkQ
y4 = x ∧ True) ∧ (¬¬chkQ y4 = (0 : Int) → (Prod.snd (Prod.snd q) = (↑(List.length (Prod.fst q)) : Int) → ((List.length (Prod.fst r) = (0 : Nat) ∧ ∀ (y5 : List Int), List.length (eT y5) = (1 : Nat) ∧
(∀ (y6 : SV), y6 ∈ eT y5 → imm (2 : Nat) y6 ∧ SV.one y6 = true) ∧ (false = true → ∀ (y6 : SV), y6 ∈ eT y5 → scalar y6)) ∧ (0 : Int) = Prod.fst (Prod.snd r) ∧ (0 : Int) = Prod.snd (Prod.snd r) ∧ True)
∧ (9 : Int) = x ∧ True) ∧ (¬Prod.snd (Prod.snd q) = (↑(List.length (Prod.fst q)) : Int) → ∃ (y5 : Qu), (((List.length (Prod.fst q) = List.length (Prod.fst y5) ∧ SC.rows eT (1 : Nat) (2 : Nat) false
(Prod.fst q) = SC.rows eT (1 : Nat) (2 : Nat) false (Prod.fst y5)) ∧ Prod.fst (Prod.snd q) = Prod.fst (Prod.snd y5) ∧ Prod.snd (Prod.snd q) = Prod.snd (Prod.snd y5) ∧ True) ∧ True) ∧ ((∀ (y6 : List
Int), y6 ∈ Prod.fst y5 → (∀ (y7 : Int), y7 ∈ y6 → (0 : Int) ≤ y7 ∧ y7 < (256 : Int)) ∧ List.length y6 ≤ (200 : Nat)) ∧ List.length (Prod.fst y5) ≤ (100 : Nat)) ∧ ∃ (y6 : Qu), (((List.length (Prod.fst
q) = List.length (Prod.fst y6) ∧ SC.rows eT (1 : Nat) (2 : Nat) false (Prod.fst q) = SC.rows eT (1 : Nat) (2 : Nat) false (Prod.fst y6)) ∧ Prod.fst (Prod.snd q) = Prod.fst (Prod.snd y6) ∧ Prod.snd
(Prod.snd q) = Prod.snd (Prod.snd y6) ∧ True) ∧ True) ∧ True ∧ ∃ (y7 : Qu × Int), (((List.length (Prod.fst y6) = List.length (Prod.fst (Prod.fst y7)) ∧ SC.rows eT (1 : Nat) (2 : Nat) false (Prod.fst
y6) = SC.rows eT (1 : Nat) (2 : Nat) false (Prod.fst (Prod.fst y7))) ∧ Prod.fst (Prod.snd y6) = Prod.fst (Prod.snd (Prod.fst y7)) ∧ Prod.snd (Prod.snd y6) = Prod.snd (Prod.snd (Prod.fst y7)) ∧ True) ∧
Prod.snd (Prod.snd q) = Prod.snd y7 ∧ True) ∧ ((1 : Nat) ≤ List.length (Prod.fst (Prod.fst y7)) ∧ List.length (Prod.fst (Prod.fst y7)) ≤ (100 : Nat) ∧ (0 : Int) ≤ Prod.fst (Prod.snd (Prod.fst y7)) ∧
Prod.fst (Prod.snd (Prod.fst y7)) ≤ (100 : Int) ∧ (0 : Int) ≤ Prod.snd y7 ∧ Prod.snd y7 ≤ (100 : Int)) ∧ ∃ (y8 : List Int), ((List.length b = List.length y8 ∧ SC.rows eB (1 : Nat) (1 : Nat) true b =
SC.rows eB (1 : Nat) (1 : Nat) true y8) ∧ True) ∧ List.length y8 ≤ (1000 : Nat) ∧ (0 : Int) ≤ atI (Prod.fst y7) (Prod.snd y7) ∧ atI (Prod.fst y7) (Prod.snd y7) < (↑(List.length (Prod.fst y5)) : Int) ∧
Int.toNat (atI (Prod.fst y7) (Prod.snd y7)) < List.length (Prod.fst y5) ∧ ∃ (y9 : List Int), ((List.length y8 = List.length y9 ∧ SC.rows eB (1 : Nat) (1 : Nat) true y8 = SC.rows eB (1 : Nat) (1 : Nat)
true y9) ∧ True) ∧ List.length (Prod.fst y5) ≤ List.length (List.set (Prod.fst y5) (Int.toNat (atI (Prod.fst y7) (Prod.snd y7))) y9) ∧ ((List.length (Prod.fst y5) = List.length (Prod.fst r) ∧ SC.rows
eT (1 : Nat) (2 : Nat) false (List.take (List.length (Prod.fst y5)) (rdrop (SN.lit (0 : Nat)) (List.set (Prod.fst y5) (Int.toNat (atI (Prod.fst y7) (Prod.snd y7))) y9))) = SC.rows eT (1 : Nat) (2 :
Nat) false (Prod.fst r)) ∧ Prod.fst (Prod.snd y5) = Prod.fst (Prod.snd r) ∧ IntKind.wrap IntKind.i64 (Prod.snd (Prod.snd y5) + (1 : Int)) = Prod.snd (Prod.snd r) ∧ True) ∧ (0 : Int) = x ∧ True))) := by kernel_rfl
theorem vc_pop (q : Qu) (b : List Int) (r : Qu) (x : Int) : (scallI sxP Try.prog cf0 (sexec sxP Try.prog cf0 1000) 16 0 [qS q] (post (.tup [qS r, row b, .int .i64 (.sym x)]))) = (∃ (y4 : Qu), (((List.length (Prod.fst q) = List.length (Prod.fst y4) ∧ SC.rows eT (1 : Nat) (2 : Nat) false (Prod.fst q) = SC.rows eT (1 : Nat) (2 : Nat) false (Prod.fst y4)) ∧ Prod.fst (Prod.snd q) =
Prod.fst (Prod.snd y4) ∧ Prod.snd (Prod.snd q) = Prod.snd (Prod.snd y4) ∧ True) ∧ True) ∧ ((∀ (y5 : List Int), y5 ∈ Prod.fst y4 → (∀ (y6 : Int), y6 ∈ y5 → (0 : Int) ≤ y6 ∧ y6 < (256 : Int)) ∧
List.length y5 ≤ (200 : Nat)) ∧ List.length (Prod.fst y4) ≤ (100 : Nat)) ∧ (¬chkQ y4 = (0 : Int) → ((List.length (Prod.fst r) = (0 : Nat) ∧ ∀ (y5 : List Int), List.length (eT y5) = (1 : Nat) ∧ (∀ (y6
: SV), y6 ∈ eT y5 → imm (2 : Nat) y6 ∧ SV.one y6 = true) ∧ (false = true → ∀ (y6 : SV), y6 ∈ eT y5 → scalar y6)) ∧ (0 : Int) = Prod.fst (Prod.snd r) ∧ (0 : Int) = Prod.snd (Prod.snd r) ∧ True) ∧
(List.length b = (0 : Nat) ∧ ∀ (y5 : Int), List.length (eB y5) = (1 : Nat) ∧ (∀ (y6 : SV), y6 ∈ eB y5 → imm (1 : Nat) y6 ∧ SV.one y6 = true) ∧ (true = true → ∀ (y6 : SV), y6 ∈ eB y5 → scalar y6)) ∧
chkQ y4 = x ∧ True) ∧ (¬¬chkQ y4 = (0 : Int) → (Prod.snd (Prod.snd q) = (0 : Int) → ((List.length (Prod.fst r) = (0 : Nat) ∧ ∀ (y5 : List Int), List.length (eT y5) = (1 : Nat) ∧ (∀ (y6 : SV), y6 ∈ eT
y5 → imm (2 : Nat) y6 ∧ SV.one y6 = true) ∧ (false = true → ∀ (y6 : SV), y6 ∈ eT y5 → scalar y6)) ∧ (0 : Int) = Prod.fst (Prod.snd r) ∧ (0 : Int) = Prod.snd (Prod.snd r) ∧ True) ∧ (List.length b = (0
: Nat) ∧ ∀ (y5 : Int), List.length (eB y5) = (1 : Nat) ∧ (∀ (y6 : SV), y6 ∈ eB y5 → imm (1 : Nat) y6 ∧ SV.one y6 = true) ∧ (true = true → ∀ (y6 : SV), y6 ∈ eB y5 → scalar y6)) ∧ (6 : Int) = x ∧ True)
∧ (¬Prod.snd (Prod.snd q) = (0 : Int) → ∃ (y5 : Qu), (((List.length (Prod.fst q) = List.length (Prod.fst y5) ∧ SC.rows eT (1 : Nat) (2 : Nat) false (Prod.fst q) = SC.rows eT (1 : Nat) (2 : Nat) false
(Prod.fst y5)) ∧ Prod.fst (Prod.snd q) = Prod.fst (Prod.snd y5) ∧ Prod.snd (Prod.snd q) = Prod.snd (Prod.snd y5) ∧ True) ∧ True) ∧ ((∀ (y6 : List Int), y6 ∈ Prod.fst y5 → (∀ (y7 : Int), y7 ∈ y6 → (0 :
Int) ≤ y7 ∧ y7 < (256 : Int)) ∧ List.length y6 ≤ (200 : Nat)) ∧ List.length (Prod.fst y5) ≤ (100 : Nat)) ∧ (0 : Int) ≤ Prod.fst (Prod.snd q) ∧ Prod.fst (Prod.snd q) < (↑(List.length (Prod.fst y5)) :
Int) ∧ Int.toNat (Prod.fst (Prod.snd q)) < List.length (Prod.fst y5) ∧ ∀ (y6 : List Int), (Prod.fst y5)[Int.toNat (Prod.fst (Prod.snd q))]? = some y6 → (0 : Int) ≤ Prod.fst (Prod.snd q) ∧ Prod.fst
(Prod.snd q) < (↑(List.length (Prod.fst y5)) : Int) ∧ Int.toNat (Prod.fst (Prod.snd q)) < List.length (Prod.fst y5) ∧ ∃ (y7 : List Int), ((List.length y7 = (0 : Nat) ∧ ∀ (y8 : Int), List.length (eB
y8) = (1 : Nat) ∧ (∀ (y9 : SV), y9 ∈ eB y8 → imm (1 : Nat) y9 ∧ SV.one y9 = true) ∧ (true = true → ∀ (y9 : SV), y9 ∈ eB y8 → scalar y9)) ∧ True) ∧ ∃ (y8 : Qu), (((List.length (Prod.fst q) =
List.length (Prod.fst y8) ∧ SC.rows eT (1 : Nat) (2 : Nat) false (Prod.fst q) = SC.rows eT (1 : Nat) (2 : Nat) false (Prod.fst y8)) ∧ Prod.fst (Prod.snd q) = Prod.fst (Prod.snd y8) ∧ Prod.snd
(Prod.snd q) = Prod.snd (Prod.snd y8) ∧ True) ∧ True) ∧ True ∧ ∃ (y9 : Qu × Int), (((List.length (Prod.fst y8) = List.length (Prod.fst (Prod.fst y9)) ∧ SC.rows eT (1 : Nat) (2 : Nat) false (Prod.fst
y8) = SC.rows eT (1 : Nat) (2 : Nat) false (Prod.fst (Prod.fst y9))) ∧ Prod.fst (Prod.snd y8) = Prod.fst (Prod.snd (Prod.fst y9)) ∧ Prod.snd (Prod.snd y8) = Prod.snd (Prod.snd (Prod.fst y9)) ∧ True) ∧
(1 : Int) = Prod.snd y9 ∧ True) ∧ ((1 : Nat) ≤ List.length (Prod.fst (Prod.fst y9)) ∧ List.length (Prod.fst (Prod.fst y9)) ≤ (100 : Nat) ∧ (0 : Int) ≤ Prod.fst (Prod.snd (Prod.fst y9)) ∧ Prod.fst
(Prod.snd (Prod.fst y9)) ≤ (100 : Int) ∧ (0 : Int) ≤ Prod.snd y9 ∧ Prod.snd y9 ≤ (100 : Int)) ∧ List.length (Prod.fst y5) ≤ List.length (List.set (Prod.fst y5) (Int.toNat (Prod.fst (Prod.snd q))) y7)
∧ ((List.length (Prod.fst y5) = List.length (Prod.fst r) ∧ SC.rows eT (1 : Nat) (2 : Nat) false (List.take (List.length (Prod.fst y5)) (rdrop (SN.lit (0 : Nat)) (List.set (Prod.fst y5) (Int.toNat
(Prod.fst (Prod.snd q))) y7))) = SC.rows eT (1 : Nat) (2 : Nat) false (Prod.fst r)) ∧ atI (Prod.fst y9) (Prod.snd y9) = Prod.fst (Prod.snd r) ∧ IntKind.wrap IntKind.i64 (Prod.snd (Prod.snd q) - (1 :
Int)) = Prod.snd (Prod.snd r) ∧ True) ∧ (List.length y6 = List.length b ∧ SC.rows eB (1 : Nat) (1 : Nat) true y6 = SC.rows eB (1 : Nat) (1 : Nat) true b) ∧ (0 : Int) = x ∧ True))) := by kernel_rfl
end
end Go.Proofs.Ytnnfcebnmogdmaa.VM
/- Queues: the package's functions answer so. No conditions. -/
namespace Go.Proofs.Ytnnfcebnmogdmaa.VM
open Go Go.RowKit
set_option linter.unusedVariables false
set_option linter.unusedSimpArgs false
set_option maxRecDepth 100000
noncomputable section
theorem rokB : ROK eB 1 1 true := fun x => ⟨rfl, fun v hv => by simp [eB] at hv; subst hv; exact ⟨trivial, rfl⟩, fun _ v hv => by simp [eB] at hv; subst hv; trivial⟩
theorem rokT : ROK eT 1 2 false := fun x => ⟨rfl, fun v hv => by simp [eT] at hv; subst hv; exact ⟨⟨rfl, Nat.le_refl 1⟩, rfl⟩, fun q => by cases q⟩
theorem rokB' (y : Int) : (eB y).length = 1 ∧ (∀ v, v ∈ eB y → imm 1 v ∧ SV.one v = true) ∧ (True → ∀ v, v ∈ eB y → scalar v) := ⟨(rokB y).1, (rokB y).2.1, fun _ => (rokB y).2.2 rfl⟩
theorem rokT' (y : List Int) : (eT y).length = 1 ∧ (∀ v, v ∈ eT y → imm 2 v ∧ SV.one v = true) ∧ (false = true → ∀ v, v ∈ eT y → scalar v) := rokT y
theorem nx {t : Nat} (h : t < 100000) : IntKind.i64.wrap ((t : Int) + 1) = ((t + 1 : Nat) : Int) := by rw [wr_i64 (by omega) (by omega)]; omega
theorem rdrop0 {α : Type} (xs : List α) : rdrop (SN.lit 0) xs = xs := rfl
theorem sx0_ok : SXOK Try.prog cf0 sx0 := sxok_of all_nil all_nil
theorem text_ok : CtOK Try.prog cf0 25 ctText := ct_vc (m := 1000) sx0_ok fun x h => by
  rw [vc_text]
  have h : x.length ≤ 1000 := h
  simp only [Int.toNat_natCast, Nat.min_self, List.length_replicate, rdrop0, List.take_zero, List.nil_append, Nat.zero_add, List.take_length]
  refine ⟨by omega, by omega, by omega, rokB, ⟨trivial, trivial⟩, Nat.le_refl _, Nat.le_refl _, Exists.intro x ⟨rfl, Nat.le_refl _, ?_, trivial, ?_⟩⟩
  · rw [List.take_length, List.drop_eq_nil_of_le (by simp), List.append_nil]; exact Nat.le_refl _
  · rw [List.take_length, List.drop_eq_nil_of_le (by simp), List.append_nil, List.take_length]
theorem at_ok : CtOK Try.prog cf0 29 ctAt := ct_vc (m := 1000) sx0_ok fun a h => by
  obtain ⟨⟨l, hd, m⟩, k⟩ := a
  obtain ⟨h1, h2, h3, h4, h5, h6⟩ := h
  have h1 : 1 ≤ l.length := h1
  have h3 : 0 ≤ hd := h3
  have h4 : hd ≤ 100 := h4
  have h5 : 0 ≤ k := h5
  have h6 : k ≤ 100 := h6
  rw [vc_at]
  refine ⟨by show ¬ (l.length : Int) = 0; omega, ?_⟩
  show Int.tmod (IntKind.i64.wrap (hd + k)) (l.length : Int) = (hd + k) % (l.length : Int)
  rw [wr_i64 (by omega) (by omega), Int.tmod_eq_emod_of_nonneg (by omega)]
theorem ofq_ok : CtOK Try.prog cf0 28 ctOfQ := ct_vc (m := 1000) sx0_ok fun a _ => by
  rw [vc_ofq]
  exact ⟨⟨rfl, rfl⟩, rfl, rfl, trivial⟩
theorem sxA_ok : SXOK Try.prog cf0 sxA := sxok_of (all_cons text_ok (all_cons at_ok all_nil)) all_nil
theorem fits_iff {q : Qu} : fits q = true ↔ 1 ≤ q.1.length ∧ q.1.length ≤ 64 ∧ 0 ≤ q.2.1 ∧ 0 ≤ q.2.2 ∧ q.2.1 < q.1.length ∧ q.2.2 ≤ q.1.length := by
  unfold fits; simp only [Bool.and_eq_true, decide_eq_true_eq, and_assoc]
theorem at_in {q : Qu} (h : 1 ≤ q.1.length) (k : Int) : 0 ≤ atI q k ∧ atI q k < q.1.length ∧ (atI q k).toNat < q.1.length := by
  have h1 := Int.emod_nonneg (q.2.1 + k) (show (q.1.length : Int) ≠ 0 by omega)
  have h2 := Int.emod_lt_of_pos (q.2.1 + k) (show 0 < (q.1.length : Int) by omega)
  unfold atI
  omega
theorem L21_ok (a : L21.ι) (ha : L21.G a) : sexec sxA Try.prog cf0 1000 (loopBody Try.prog 21 0) (L21.I a) (L21.round 1000 a) := by
  rw [vc_L21]
  obtain ⟨⟨l, hd, m⟩, t⟩ := a
  obtain ⟨g1, g2, g3, g4⟩ := ha
  have g1 : QOK (l, hd, m) := g1
  have g2 : fits (l, hd, m) = true := g2
  have g3 : m ≤ (t : Int) := g3
  have g4 : t ≤ l.length := g4
  obtain ⟨f1, f2, f3, f4, f5, f6⟩ := fits_iff.1 g2
  have f1 : 1 ≤ l.length := f1
  have f2 : l.length ≤ 64 := f2
  have f3 : 0 ≤ hd := f3
  have f5 : hd < (l.length : Int) := f5
  obtain ⟨q1, q2, q3⟩ := at_in (q := (l, hd, m)) f1 (t : Int)
  simp only [true_and, and_true, eq_self, Int.toNat_natCast]
  refine ⟨fun h1 => Exists.intro ((l, hd, m), (t : Int)) ⟨⟨⟨⟨rfl, rfl⟩, rfl, rfl⟩, rfl⟩, ⟨f1, by show l.length ≤ 100; omega, f3, by show hd ≤ 100; omega, by show (0 : Int) ≤ t; omega, by show (t : Int) ≤ 100; omega⟩, q1, q2, q3, fun x hx => ⟨fun h2 => Exists.intro () fun hall => ?_, fun h2 => Exists.intro ((l, hd, m), t + 1) ⟨⟨g1, g2, by show m ≤ ((t + 1 : Nat) : Int); omega, by show t + 1 ≤ l.length; omega⟩, by show l.length - (t + 1) < l.length - t; omega, ?_, ?_, ?_⟩⟩⟩, fun h1 => Exists.intro () fun k hk hk2 => by omega⟩
  · have := hall t (Nat.le_refl _) (by omega) x hx
    omega
  · intro _ hp k hk hk2 y hy
    by_cases q : k = t
    · subst q
      have hy : l[(atI (l, hd, m) (k : Int)).toNat]? = some y := hy
      rw [hx] at hy; cases hy; omega
    · exact hp k (by show t + 1 ≤ k; omega) hk2 y hy
  · intro _ hp hall
    exact hp fun k hk => hall k (by have hk : t + 1 ≤ k := hk; omega)
  · exact ⟨⟨rfl, nx (by omega)⟩, ⟨⟨rfl, rfl⟩, rfl, rfl⟩, ⟨rfl, rfl⟩, rfl, rfl⟩
theorem twI_set {q : Qu} {i : Nat} {x : List Int} (h : q.1[i]? = some x) : (twI q i).set i x = twI q (i + 1) := by
  obtain ⟨hi, rfl⟩ := List.getElem?_eq_some_iff.1 h
  unfold twI
  have hl : (q.1.take i).length = i := by rw [List.length_take]; omega
  rw [List.set_append, if_neg (by omega), hl, Nat.sub_self, show q.1.length - i = (q.1.length - (i + 1)) + 1 by omega, List.replicate_succ, List.set_cons_zero]
  have e : q.1.take (i + 1) = q.1.take i ++ [q.1[i]] := by rw [List.take_add_one, h]; rfl
  rw [e, List.append_assoc]; rfl
theorem twI_length (q : Qu) {i : Nat} (h : i ≤ q.1.length) : (twI q i).length = q.1.length := by
  unfold twI; rw [List.length_append, List.length_take, List.length_replicate]; omega
theorem L10_ok (a : L10.ι) (ha : L10.G a) : sexec sxA Try.prog cf0 1000 (loopBody Try.prog 10 0) (L10.I a) (L10.round 1000 a) := by
  rw [vc_L10]
  obtain ⟨⟨l, hd, m⟩, t⟩ := a
  obtain ⟨g1, g2⟩ := ha
  have g1 : QOK (l, hd, m) := g1
  have g2 : t ≤ l.length := g2
  have g3 : l.length ≤ 100 := g1.2
  simp only [true_and, and_true, eq_self, Int.toNat_natCast]
  refine ⟨fun h1 => ⟨by omega, by omega, by omega, fun x hx => Exists.intro x ⟨⟨rfl, rfl⟩, by have : By x ∧ x.length ≤ 200 := g1.1 x (List.mem_of_getElem? hx); omega, by omega, by omega, by rw [twI_length (l, hd, m) g2]; show t < l.length; omega, Exists.intro x ⟨⟨rfl, rfl⟩, Exists.intro ((l, hd, m), t + 1) ⟨⟨g1, by show t + 1 ≤ l.length; omega⟩, by show l.length - (t + 1) < l.length - t; omega, fun o ho => ho, ⟨⟨rfl, rfl⟩, rfl, nx (by omega)⟩, ⟨rfl, rfl, rfl⟩, ?_⟩⟩⟩⟩, fun h1 => Exists.intro (l, hd, m) ⟨rfl, ⟨rfl, rfl, rfl⟩, ?_⟩⟩
  · rw [twI_set (q := (l, hd, m)) hx]
  · show SC.rows eT 1 2 false (twI (l, hd, m) t) = SC.rows eT 1 2 false l
    have : t = l.length := by omega
    subst this
    unfold twI
    simp
theorem sx21_ok : SXOK Try.prog cf0 sx21 := sxok_lp (all_cons text_ok (all_cons at_ok (all_cons ofq_ok all_nil))) (all_cons (inv_vc (m := 1000) sxA_ok L21_ok) all_nil)
theorem sx10_ok : SXOK Try.prog cf0 sx10 := sxok_lp (all_cons text_ok (all_cons at_ok all_nil)) (all_cons (inv_vc (m := 1000) sxA_ok L10_ok) all_nil)
theorem chkQ_in {q : Qu} (h : fits q = true) (g : clean q) : chkQ q = 0 := by unfold chkQ; rw [if_pos ⟨h, g⟩]
theorem chkQ_out {q : Qu} (h : ¬ (fits q = true ∧ clean q)) : chkQ q = 8 := by unfold chkQ; rw [if_neg h]
theorem chkQ_good {q : Qu} (h : chkQ q = 0) : fits q = true ∧ clean q := by
  unfold chkQ at h
  split at h
  · assumption
  · cases h
theorem chk_ok : CtOK Try.prog cf0 21 ctChkQ := ct_vc (m := 1000) sx21_ok fun q h => by
  obtain ⟨l, hd, m⟩ := q
  have h : QOK (l, hd, m) := h
  rw [vc_chk]
  simp only [true_and, and_true, eq_self, implies_true]
  have no : ∀ {p : Prop}, (fits (l, hd, m) = true → ¬ p) → p → (8 : Int) = chkQ (l, hd, m) := fun h1 h2 => (chkQ_out fun q => h1 q.1 h2).symm
  refine ⟨fun h1 => no (fun q => by have := (fits_iff.1 q).1; have : 1 ≤ l.length := this; omega) h1, fun h1 => ⟨fun h2 => no (fun q => by have := (fits_iff.1 q).2.1; have : l.length ≤ 64 := this; omega) h2, fun h2 => ⟨fun h3 => no (fun q => by obtain ⟨_, _, a, b, _⟩ := fits_iff.1 q; have a : 0 ≤ hd := a; have b : 0 ≤ m := b; split <;> omega) h3, fun h3 => ⟨fun h4 => no (fun q => by obtain ⟨_, _, _, _, a, _⟩ := fits_iff.1 q; have a : hd < (l.length : Int) := a; omega) h4, fun h4 => ⟨fun h5 => no (fun q => by obtain ⟨_, _, _, _, _, a⟩ := fits_iff.1 q; have a : m ≤ (l.length : Int) := a; omega) h5, fun h5 => ?_⟩⟩⟩⟩⟩
  have hf : fits (l, hd, m) = true := fits_iff.2 ⟨by show 1 ≤ l.length; omega, by show l.length ≤ 64; omega, by show 0 ≤ hd; split at h3 <;> omega, by show 0 ≤ m; split at h3 <;> omega, by show hd < (l.length : Int); omega, by show m ≤ (l.length : Int); omega⟩
  have hm : 0 ≤ m := by split at h3 <;> omega
  refine Exists.intro (l, hd, m) ⟨⟨⟨rfl, rfl⟩, rfl, rfl⟩, SameCode.refl _, Exists.intro ((l, hd, m), m.toNat) ⟨⟨h, hf, by show m ≤ ((m.toNat : Nat) : Int); omega, by show m.toNat ≤ l.length; omega⟩, ⟨⟨rfl, by show m = ((m.toNat : Nat) : Int); omega⟩, ⟨⟨rfl, rfl⟩, rfl, rfl⟩, ⟨rfl, rfl⟩, rfl, rfl⟩, fun _ hp => ?_, fun _ hp => ?_⟩⟩
  · refine (chkQ_in hf fun k hk hk2 x hx => hp k ?_ hk2 x hx).symm
    show m.toNat ≤ k
    have hk : m ≤ (k : Int) := hk
    omega
  · refine (chkQ_out fun q => hp fun k hk hk2 x hx => q.2 k ?_ hk2 x hx).symm
    have hk : m.toNat ≤ k := hk
    show m ≤ (k : Int)
    omega
theorem twinB_ok : CtOK Try.prog cf0 10 ctTwinB := by
  intro base bs K hK as' has vbase
  obtain ⟨q, h1, h2, h3⟩ := hK
  obtain ⟨l, hd, m⟩ := q
  have hc : scallI sx10 Try.prog cf0 (sexec sx10 Try.prog cf0 1000) 10 base [qS (l, hd, m)] (fun x bs => x = twB base (l, hd, m) ∧ bs = twBlk (l, hd, m)) := by
    have h3 : l.length ≤ 100 := h2.2
    rw [vc_twin]
    simp only [true_and, and_true, eq_self, implies_true, Int.toNat_natCast]
    refine ⟨by omega, by omega, by omega, rokT, rokB', SameCode.refl _, Exists.intro ((l, hd, m), 0) ⟨⟨h2, Nat.zero_le _⟩, ⟨⟨⟨rfl, rfl⟩, rfl, rfl⟩, ⟨rfl, rfl, rfl⟩, ?_⟩, fun o ho => ?_⟩⟩
    · show SC.rows eT 1 2 false (List.replicate l.length []) = SC.rows eT 1 2 false (twI (l, hd, m) 0)
      unfold twI; simp
    · have ho : o = (l, hd, m) := ho
      subst ho
      refine ⟨Nat.le_refl _, rfl, ?_⟩
      show [SBlk.mk (SC.rows eT 1 2 false (l.take l.length)) 1 0 false false] = twBlk (l, hd, m)
      rw [List.take_length]; rfl
  obtain ⟨rv, blks, srv, sblks, hN, g1, g2, g3⟩ := scallI_of sx10_ok (sexec_of sx10_ok 1000) 10 base _ _ hc as' (sles_rel h1 has) vbase
  obtain ⟨rfl, rfl⟩ := g1
  exact ⟨rv, blks, _, _, hN, h3, g2, g3⟩
theorem sxP_ok : SXOK Try.prog cf0 sxP := sxok_of (all_cons text_ok (all_cons at_ok (all_cons ofq_ok (all_cons chk_ok (all_cons twinB_ok all_nil))))) all_nil
theorem push_ok : CtOK Try.prog cf0 14 ctPush := ct_vc (m := 1000) sxP_ok fun a h => by
  obtain ⟨⟨l, hd, m⟩, b⟩ := a
  obtain ⟨h, hb⟩ := h
  have h : QOK (l, hd, m) := h
  have hb : b.length ≤ 200 := hb
  rw [vc_push]
  simp only [true_and, and_true, eq_self, implies_true]
  refine Exists.intro (l, hd, m) ⟨⟨⟨rfl, rfl⟩, rfl, rfl⟩, h, fun h0 => ?_, fun h0 => ⟨fun h1 => ?_, fun h1 => ?_⟩⟩
  · have h0 : ¬ chkQ (l, hd, m) = 0 := h0
    have e : pushE (l, hd, m) = chkQ (l, hd, m) := by unfold pushE; rw [if_neg h0]
    have e2 : pushQ (l, hd, m) b = ([], 0, 0) := by unfold pushQ; rw [if_neg (by rw [e]; exact h0)]
    rw [e, e2]
    exact ⟨⟨⟨rfl, rokT'⟩, rfl, rfl⟩, rfl⟩
  · have h0 : chkQ (l, hd, m) = 0 := Classical.not_not.1 h0
    have e : pushE (l, hd, m) = 9 := by unfold pushE; rw [if_pos h0, if_pos h1]
    have e2 : pushQ (l, hd, m) b = ([], 0, 0) := by unfold pushQ; rw [if_neg (by rw [e]; decide)]
    rw [e, e2]
    exact ⟨⟨⟨rfl, rokT'⟩, rfl, rfl⟩, rfl⟩
  · have h0 : chkQ (l, hd, m) = 0 := Classical.not_not.1 h0
    have e : pushE (l, hd, m) = 0 := by unfold pushE; rw [if_pos h0, if_neg h1]
    have e2 : pushQ (l, hd, m) b = (l.set (atI (l, hd, m) m).toNat b, hd, m + 1) := by unfold pushQ; rw [if_pos e]
    obtain ⟨hf, _⟩ := chkQ_good h0
    obtain ⟨f1, f2, f3, f4, f5, f6⟩ := fits_iff.1 hf
    have f1 : 1 ≤ l.length := f1
    have f2 : l.length ≤ 64 := f2
    have f3 : 0 ≤ hd := f3
    have f4 : 0 ≤ m := f4
    have f5 : hd < (l.length : Int) := f5
    have f6 : m ≤ (l.length : Int) := f6
    obtain ⟨q1, q2, q3⟩ := at_in (q := (l, hd, m)) f1 m
    rw [e, e2]
    refine Exists.intro (l, hd, m) ⟨⟨⟨rfl, rfl⟩, rfl, rfl⟩, h, Exists.intro (l, hd, m) ⟨⟨⟨rfl, rfl⟩, rfl, rfl⟩, Exists.intro ((l, hd, m), m) ⟨⟨⟨⟨rfl, rfl⟩, rfl, rfl⟩, rfl⟩, ⟨f1, by show l.length ≤ 100; omega, f3, by show hd ≤ 100; omega, f4, by show m ≤ 100; omega⟩, Exists.intro b ⟨⟨rfl, rfl⟩, by omega, q1, q2, q3, Exists.intro b ⟨⟨rfl, rfl⟩, by rw [List.length_set]; exact Nat.le_refl _, ⟨⟨by show l.length = (l.set (atI (l, hd, m) m).toNat b).length; rw [List.length_set], ?_⟩, rfl, wr_i64 (by show _ ≤ m + 1; omega) (by show m + 1 ≤ _; omega)⟩, rfl⟩⟩⟩⟩⟩
    show SC.rows eT 1 2 false ((l.set (atI (l, hd, m) m).toNat b).take l.length) = SC.rows eT 1 2 false (l.set (atI (l, hd, m) m).toNat b)
    rw [List.take_of_length_le (by rw [List.length_set]; exact Nat.le_refl _)]
theorem pop_ok : CtOK Try.prog cf0 16 ctPop := ct_vc (m := 1000) sxP_ok fun a h => by
  obtain ⟨l, hd, m⟩ := a
  have h : QOK (l, hd, m) := h
  rw [vc_pop]
  simp only [true_and, and_true, eq_self, implies_true]
  refine Exists.intro (l, hd, m) ⟨⟨⟨rfl, rfl⟩, rfl, rfl⟩, h, fun h0 => ?_, fun h0 => ⟨fun h1 => ?_, fun h1 => ?_⟩⟩
  · have h0 : ¬ chkQ (l, hd, m) = 0 := h0
    have e : popE (l, hd, m) = chkQ (l, hd, m) := by unfold popE; rw [if_neg h0]
    have hne : ¬ popE (l, hd, m) = 0 := by rw [e]; exact h0
    have e2 : popQ (l, hd, m) = ([], 0, 0) := by unfold popQ; rw [if_neg hne]
    have e3 : popB (l, hd, m) = [] := by unfold popB; rw [if_neg hne]
    rw [e, e2, e3]
    exact ⟨⟨⟨rfl, rokT'⟩, rfl, rfl⟩, ⟨rfl, rokB'⟩, rfl⟩
  · have h0 : chkQ (l, hd, m) = 0 := Classical.not_not.1 h0
    have h1 : m = 0 := h1
    have e : popE (l, hd, m) = 6 := by unfold popE; rw [if_pos h0, if_pos h1]
    have hne : ¬ popE (l, hd, m) = 0 := by rw [e]; decide
    have e2 : popQ (l, hd, m) = ([], 0, 0) := by unfold popQ; rw [if_neg hne]
    have e3 : popB (l, hd, m) = [] := by unfold popB; rw [if_neg hne]
    rw [e, e2, e3]
    exact ⟨⟨⟨rfl, rokT'⟩, rfl, rfl⟩, ⟨rfl, rokB'⟩, rfl⟩
  · have h0 : chkQ (l, hd, m) = 0 := Classical.not_not.1 h0
    have h1 : ¬ m = 0 := h1
    have e : popE (l, hd, m) = 0 := by unfold popE; rw [if_pos h0, if_neg h1]
    have e2 : popQ (l, hd, m) = (l.set hd.toNat [], atI (l, hd, m) 1, m - 1) := by unfold popQ; rw [if_pos e]
    have e3 : popB (l, hd, m) = l.getD hd.toNat [] := by unfold popB; rw [if_pos e]
    obtain ⟨hf, _⟩ := chkQ_good h0
    obtain ⟨f1, f2, f3, f4, f5, f6⟩ := fits_iff.1 hf
    have f1 : 1 ≤ l.length := f1
    have f2 : l.length ≤ 64 := f2
    have f3 : 0 ≤ hd := f3
    have f4 : 0 ≤ m := f4
    have f5 : hd < (l.length : Int) := f5
    have f6 : m ≤ (l.length : Int) := f6
    rw [e, e2, e3]
    refine Exists.intro (l, hd, m) ⟨⟨⟨rfl, rfl⟩, rfl, rfl⟩, h, f3, f5, by show hd.toNat < l.length; omega, fun y hy => ⟨f3, f5, by show hd.toNat < l.length; omega, Exists.intro [] ⟨⟨rfl, rokB'⟩, Exists.intro (l, hd, m) ⟨⟨⟨rfl, rfl⟩, rfl, rfl⟩, Exists.intro ((l, hd, m), 1) ⟨⟨⟨⟨rfl, rfl⟩, rfl, rfl⟩, rfl⟩, ⟨f1, by show l.length ≤ 100; omega, f3, by show hd ≤ 100; omega, by show (0 : Int) ≤ 1; decide, by show (1 : Int) ≤ 100; decide⟩, by rw [List.length_set]; exact Nat.le_refl _, ⟨⟨by show l.length = (l.set hd.toNat []).length; rw [List.length_set], ?_⟩, rfl, wr_i64 (by show _ ≤ m - 1; omega) (by show m - 1 ≤ _; omega)⟩, ?_, rfl⟩⟩⟩⟩⟩
    · show SC.rows eT 1 2 false ((l.set hd.toNat []).take l.length) = SC.rows eT 1 2 false (l.set hd.toNat [])
      rw [List.take_of_length_le (by rw [List.length_set]; exact Nat.le_refl _)]
    · have hy : l[hd.toNat]? = some y := hy
      rw [List.getD_eq_getElem?_getD, hy]
      exact ⟨rfl, rfl⟩

end
end Go.Proofs.Ytnnfcebnmogdmaa.VM
/- The machine of values: ring.List, whose rows may be written on, a contract; functions that are carried out by another machine. No conditions. -/
namespace Go.Proofs.Ytnnfcebnmogdmaa.VM
open Go Go.RowKit
set_option linter.unusedVariables false
set_option linter.unusedSimpArgs false
set_option maxRecDepth 100000
noncomputable section
/-- An environment with one row that may be written on. -/
abbrev Eo (w : World) (B base : Nat) (O : Nat → Prop) (blk : Blk) (e : RE) : Env := ⟨w, newsF [blk] base (fun _ => none), fun b => if b = base then some e else none, B, O⟩
theorem own_relE {E : Env} {base e n : Nat} {v : Value} {inner : List Value} (hB : E.B ≤ base) (hS : ∀ g cur, base ≤ g → E.w.heap[g]? = some (.cells cur e (0, 0)) → E.S g) (ho : E.w.ownsRow base e 1 v n inner) {cs : List V} (hr : RelL E cs inner) : Rel E (.slI true cs n false) v := by
  obtain ⟨h1, h2⟩ := ho
  have hl := hr.length
  rcases h2 with ⟨rfl, rfl⟩ | ⟨g, cap, cur, rfl, hg, hh, hn, _, hsz, htk⟩
  · cases hr with
    | nil => exact .slI0 fun q => by cases q
    | cons _ _ => simp at h1
  · refine .slI (hS g cur hg hh) (fun _ => Nat.le_trans hB hg) hn (fun q => by cases q) hr fun i u hu => ?_
    show E.w.cell? ⟨g, 0 + i, none⟩ = some u
    rw [Nat.zero_add, cell_at hh, ← Array.getElem?_toList]
    rw [← htk, List.getElem?_take] at hu
    split at hu
    · exact hu
    · cases hu
theorem S_open {w : World} {B base : Nat} {O : Nat → Prop} {ok : Nat → Prop} {v : Value} {l : List (List Int)} (hBw : B ≤ w.heap.size) (h : RingWalk.dB.S 35 w B ok v l) :
    ∃ e : RE, HRel (Eo w B base O ⟨l.map rowI, 1, 0, false⟩ e) ∧ Rel (Eo w B base O ⟨l.map rowI, 1, 0, false⟩ e) (.slB base 0 0 l.length) v := by
  obtain ⟨h0, inner, ho, hr⟩ := Go.Proofs.YtnnfcebnmogdmaaW.PrintWords.Kd.S_R h
  have hlen : inner.length = l.length := by have := hr.1; show inner.length = l.length; rw [this]; show l.length * 1 = _; omega
  have inn : ∀ (E : Env), E.w = w → E.B = B → (∀ g cur, B ≤ g → w.heap[g]? = some (.cells cur 5 (0, 0)) → E.S g) → RelL E (l.map rowI) inner := by
    rintro ⟨w', H, ρ, B', O'⟩ rfl rfl hS
    refine RelL.of_get (by simp [hlen]) fun i a b ha hb => ?_
    rw [List.getElem?_map] at ha
    cases hx : l[i]? with
    | none => simp [hx] at ha
    | some y =>
      simp [hx] at ha
      subst ha
      obtain ⟨v1, h1, h2⟩ := hr.2 i y hx
      have h3 : ((inner.drop (i * RingWalk.dB.sz)).take RingWalk.dB.sz)[0]? = some v1 := by rw [h1]; rfl
      have e1 : i * RingWalk.dB.sz = i := by show i * 1 = i; omega
      rw [e1, List.getElem?_take, if_pos (show 0 < RingWalk.dB.sz from Nat.one_pos), List.getElem?_drop, Nat.add_zero, hb] at h3
      cases h3
      refine own_relE (Nat.le_refl _) hS (Go.Proofs.YtnnfcebnmogdmaaW.PrintWords.Kd.own_of_R h2) (RelL.of_get (by simp [Go.Proofs.YtnnfcebnmogdmaaW.PrintWords.encs]) fun j a b ha hb => ?_)
      simp only [Go.Proofs.YtnnfcebnmogdmaaW.PrintWords.encs, List.getElem?_map] at ha hb
      cases hy : y[j]? with
      | none => simp [hy] at ha
      | some z =>
        simp [hy] at ha hb
        subst ha hb
        exact .int _ _
  obtain ⟨h1, h2⟩ := ho
  have hH : ∀ b blk, newsF [(⟨l.map rowI, 1, 0, false⟩ : Blk)] base (fun _ => none) b = some blk → b = base ∧ blk = ⟨l.map rowI, 1, 0, false⟩ := by
    intro b blk hb
    unfold newsF newsF updF at hb
    split at hb
    · exact ⟨by assumption, by cases hb; rfl⟩
    · cases hb
  rcases h2 with ⟨rfl, hz⟩ | ⟨g, cap, cur, rfl, hg, hh, hn, hcp, hsz, htk⟩
  · have hl0 : l = [] := List.length_eq_zero_iff.1 hz
    subst hl0
    refine ⟨⟨none, 1, 0, 0⟩, ⟨fun b blk hb => ?_, fun b b' blk blk' e e' c o o' hb hb' => fun _ _ _ _ => by rw [(hH b blk hb).1, (hH b' blk' hb').1], hBw⟩, ?_⟩
    · obtain ⟨rfl, rfl⟩ := hH b blk hb
      exact ⟨_, if_pos rfl, rfl, rfl, rfl, rfl⟩
    · exact .slB (e := ⟨none, 1, 0, 0⟩) (if_pos rfl) (Nat.le_refl _) fun _ => ⟨rfl, .inr ⟨rfl, rfl, rfl, rfl⟩⟩
  · have hS : ∀ g' cur', B ≤ g' → w.heap[g']? = some (.cells cur' 5 (0, 0)) → (Eo w B base O ⟨l.map rowI, 1, 0, false⟩ ⟨some (g, 0), 1, 0, cur.size⟩).S g' := by
      intro g' cur' hg' hh'
      refine ⟨lt_of_heap hh', fun q => ?_, fun b blk e o hb hf he hp => ?_⟩
      · have q : g' < B := q
        omega
      · have he : (if b = base then some (⟨some (g, 0), 1, 0, cur.size⟩ : RE) else none) = some e := he
        split at he
        · cases he
          simp only [Option.some.injEq, Prod.mk.injEq] at hp
          obtain ⟨rfl, _⟩ := hp
          rw [hh] at hh'
          cases hh'
        · cases he
    have hin := inn (Eo w B base O ⟨l.map rowI, 1, 0, false⟩ ⟨some (g, 0), 1, 0, cur.size⟩) rfl rfl hS
    refine ⟨⟨some (g, 0), 1, 0, cur.size⟩, ⟨fun b blk hb => ?_, fun b b' blk blk' e e' c o o' hb hb' => fun _ _ _ _ => by rw [(hH b blk hb).1, (hH b' blk' hb').1], hBw⟩, ?_⟩
    · obtain ⟨rfl, rfl⟩ := hH b blk hb
      refine ⟨_, if_pos rfl, rfl, rfl, hg, cur, _, 0, 0, hh, rfl, ?_, .inl rfl, ?_⟩
      · show 0 + (l.map rowI).length ≤ cur.size
        rw [List.length_map, hsz]
        show 0 + l.length ≤ cap * 1
        omega
      · have e1 : (l.map rowI).length = l.length := List.length_map ..
        have e3 : RingWalk.dB.sz = 1 := rfl
        rw [e3, Nat.mul_one] at htk
        show RelL _ _ ((cur.toList.drop 0).take (l.map rowI).length)
        rw [e1, List.drop_zero, htk]
        exact hin
    · refine .slB (e := ⟨some (g, 0), 1, 0, cur.size⟩) (if_pos rfl) (Nat.le_refl _) fun _ => ⟨rfl, .inl ⟨g, 0, rfl, rfl, hn, ?_⟩⟩
      have e4 : cur.size = cap * 1 := hsz
      show 0 + 0 + cap * 1 ≤ cur.size
      omega

end
end Go.Proofs.Ytnnfcebnmogdmaa.VM
/- Queues: ring.List told, with rows that may be written on. No conditions. -/
namespace Go.Proofs.Ytnnfcebnmogdmaa.VM
open Go Go.RowKit
set_option linter.unusedVariables false
set_option linter.unusedSimpArgs false
set_option maxRecDepth 100000
noncomputable section
/-- What List answers. -/
def listQ (q : Qu) : List (List Int) := (List.range q.2.2.toNat).map fun j => q.1.getD ((q.2.1.toNat + j) % q.1.length) []
def lsV (base : Nat) (q : Qu) : SV := .tup [.slB (base + 0) (.lit 0) 1 0 (.sym (listQ q).length), .int .i64 (.lit 0)]
def lsBlk (q : Qu) : List SBlk := [⟨.rows eT 1 2 false (listQ q), 1, 0, false, false⟩]
def lsBad (q : Qu) : SV := .tup [.nilSl, .int .i64 (.sym (chkQ q))]
def ctList : SCall := fun _ base bs K => ∃ q : Qu, sles bs [qS q] ∧ QOK q ∧ (chkQ q = 0 → K (lsV base q) (lsBlk q)) ∧ (chkQ q ≠ 0 → K (lsBad q) [])
def ctListB : SCall := Ct (fun q : Qu => [qS q]) (fun q => QOK q ∧ chkQ q ≠ 0) (fun q => lsBad q)
def sx18 : SX := ⟨rowT, ctOf [(25, ctText), (29, ctAt), (28, ctOfQ), (21, ctChkQ), (31, fun _ _ _ _ => Stuck 998)], lpOf []⟩
theorem vc_list (q : Qu) : (scallI sx18 Try.prog cf0 (sexec sx18 Try.prog cf0 1000) 18 0 [qS q] (post (lsBad q))) = (∃ (y1 : Qu), (((List.length (Prod.fst q) = List.length (Prod.fst y1) ∧ SC.rows eT (1 : Nat) (2 : Nat) false (Prod.fst q) = SC.rows eT (1 : Nat) (2 : Nat) false (Prod.fst y1)) ∧ Prod.fst (Prod.snd q) =
Prod.fst (Prod.snd y1) ∧ Prod.snd (Prod.snd q) = Prod.snd (Prod.snd y1) ∧ True) ∧ True) ∧ ((∀ (y2 : List Int), y2 ∈ Prod.fst y1 → (∀ (y3 : Int), y3 ∈ y2 → (0 : Int) ≤ y3 ∧ y3 < (256 : Int)) ∧
List.length y2 ≤ (200 : Nat)) ∧ List.length (Prod.fst y1) ≤ (100 : Nat)) ∧ (¬chkQ y1 = (0 : Int) → True ∧ chkQ y1 = chkQ q ∧ True) ∧ (¬¬chkQ y1 = (0 : Int) → ∃ (y2 : Qu), (((List.length (Prod.fst q) =
List.length (Prod.fst y2) ∧ SC.rows eT (1 : Nat) (2 : Nat) false (Prod.fst q) = SC.rows eT (1 : Nat) (2 : Nat) false (Prod.fst y2)) ∧ Prod.fst (Prod.snd q) = Prod.fst (Prod.snd y2) ∧ Prod.snd
(Prod.snd q) = Prod.snd (Prod.snd y2) ∧ True) ∧ True) ∧ True ∧ Stuck (998 : Nat))) := by kernel_rfl
theorem stk_ct {cf : Cfg} {f : FuncId} : CtOK Try.prog cf f (fun _ _ _ _ => Stuck 998) := fun _ _ _ h => by cases h
theorem sx18_ok : SXOK Try.prog cf0 sx18 := sxok_of (all_cons text_ok (all_cons at_ok (all_cons ofq_ok (all_cons chk_ok (all_cons stk_ct all_nil))))) all_nil
theorem listB_ok : CtOK Try.prog cf0 18 ctListB := ct_vc (m := 1000) sx18_ok fun q h => by
  obtain ⟨h1, h2⟩ := h
  rw [vc_list]
  refine Exists.intro q ⟨⟨⟨⟨rfl, rfl⟩, rfl, rfl, trivial⟩, trivial⟩, h1, fun _ => ⟨trivial, rfl, trivial⟩, fun h3 => absurd h2 h3⟩
/-- An answer of all depths that are deep enough. -/
def EndsB (F : Nat → Nat → List V → Option (V × List Blk)) (base : Nat) (vs : List V) (r : V × List Blk) : Prop := ∃ N, ∀ k, N ≤ k → F k base vs = some r
theorem EndsB.uniq {F : Nat → Nat → List V → Option (V × List Blk)} {base : Nat} {vs : List V} {a b : V × List Blk} (h : EndsB F base vs a) (g : EndsB F base vs b) : a = b := by
  obtain ⟨n, hn⟩ := h
  obtain ⟨m, hm⟩ := g
  have h1 := hn (max n m) (Nat.le_max_left _ _)
  have h2 := hm (max n m) (Nat.le_max_right _ _)
  rw [h1] at h2
  exact Option.some.inj h2
open Classical in
noncomputable def liftB (F : Nat → Nat → List V → Option (V × List Blk)) : Nat → List V → Option (V × List Blk) := fun base vs => if h : ∃ r, EndsB F base vs r then some h.choose else none
theorem liftB_of {F : Nat → Nat → List V → Option (V × List Blk)} {base : Nat} {vs : List V} {r : V × List Blk} (h : EndsB F base vs r) : liftB F base vs = some r := by
  unfold liftB
  have hx : ∃ r, EndsB F base vs r := ⟨r, h⟩
  rw [dif_pos hx, EndsB.uniq hx.choose_spec h]
theorem liftB_some {F : Nat → Nat → List V → Option (V × List Blk)} {base : Nat} {vs : List V} {r : V × List Blk} (h : liftB F base vs = some r) : ∃ k, F k base vs = some r := by
  unfold liftB at h
  split at h
  · rename_i hx
    cases h
    obtain ⟨N, hN⟩ := hx.choose_spec
    exact ⟨N, hN N (Nat.le_refl _)⟩
  · cases h
def rowsL (l : List (List Int)) (a b : Int) : List (List Int) := (List.range b.toNat).map fun j => l.getD ((a.toNat + j) % l.length) []
def listA (k base : Nat) (vs : List V) : Option (V × List Blk) :=
  match vs with
  | [.agg [its, .int .i64 a, .int .i64 b]] => match itemsI its with
    | some l => if 0 ≤ a ∧ a < l.length ∧ 0 ≤ b ∧ b ≤ l.length then
        match vcall Try.prog cf0 k 21 0 vs with
        | some (.int .i64 e, []) => if e = 0 then some (.tup [.slB base 0 0 (rowsL l a b).length, .int .i64 0], [⟨(rowsL l a b).map rowI, 1, 0, false⟩]) else none
        | _ => none
      else none
    | none => none
  | _ => none
def listF (k base : Nat) (vs : List V) : Option (V × List Blk) := match listA k base vs with
  | some r => some r
  | none => vcall Try.prog cf0 k 18 base vs
theorem listF_of {k base : Nat} {its : V} {a b : Int} {l : List (List Int)} (hit : itemsI its = some l) (h : 0 ≤ a ∧ a < l.length ∧ 0 ≤ b ∧ b ≤ l.length) (hv : vcall Try.prog cf0 k 21 0 [.agg [its, .int .i64 a, .int .i64 b]] = some (.int .i64 0, [])) :
    listF k base [.agg [its, .int .i64 a, .int .i64 b]] = some (.tup [.slB base 0 0 (rowsL l a b).length, .int .i64 0], [⟨(rowsL l a b).map rowI, 1, 0, false⟩]) := by
  have e : listA k base [.agg [its, .int .i64 a, .int .i64 b]] = some (.tup [.slB base 0 0 (rowsL l a b).length, .int .i64 0], [⟨(rowsL l a b).map rowI, 1, 0, false⟩]) := by
    unfold listA
    simp only [hit, hv]
    rw [if_pos h, if_pos trivial]
  unfold listF
  rw [e]
theorem listA_iso {k base : Nat} {vs : List V} {rv : V} {blks : List Blk} (h : listA k base vs = some (rv, blks)) : IsoSound Try.prog 18 base vs rv blks := by
  intro w O cargs hargs
  unfold listA at h
  split at h
  · rename_i its a b
    split at h
    · rename_i l hl
      split at h
      · rename_i hab
        obtain ⟨ha0, ha1, hb0, hb1⟩ := hab
        split at h
        · rename_i e hv
          split at h
          · rename_i he
            subst he
            cases h
            have hargs0 := hargs
            cases hargs with
            | cons r s =>
              cases s
              cases r with
              | agg t =>
                cases t with
                | cons t1 t2 =>
                  cases t2 with
                  | cons t2 t3 =>
                    cases t3 with
                    | cons t3 t4 =>
                      cases t4
                      cases t2
                      cases t3
                      obtain ⟨g1, g2, g3, ad, C, rfl, g4, g5⟩ := items_C hl t1
                      obtain ⟨a', rfl⟩ := Int.eq_ofNat_of_zero_le ha0
                      obtain ⟨b', rfl⟩ := Int.eq_ofNat_of_zero_le hb0
                      refine (RingWalk.list_ok RingText.text_ok ad C l a' b' w g5 g3 g1 g2 (by omega) (by omega) fun W hW => ?_).mono ?_
                      · have := vcall_ok (P := Try.prog) (by kernel_rfl) extOK_none k 21 0 _ _ _ hv W (fun _ => True) _ (RelL.widen hW hargs0)
                        refine this.mono fun e w' hp => ?_
                        obtain ⟨cv, ρ, he, hb, _, hr, _⟩ := hp
                        cases hr
                        exact ⟨he, hb⟩
                      · rintro e w' ⟨v0, rfl, hS, hb⟩
                        obtain ⟨e, o1, o2⟩ := S_open (base := base) (O := O) hb.size hS
                        refine ⟨_, fun b => if b = base then some e else none, rfl, hb, o1, .tup (.cons o2 (.cons (.int _ _) .nil)), fun b hb => ?_⟩
                        have hq : b = base := by
                          by_cases q : b = base
                          · exact q
                          · exact absurd (if_neg q) hb
                        subst hq
                        exact ⟨Nat.le_refl _, Nat.lt_succ_self _⟩
          · cases h
        · cases h
      · cases h
    · cases h
  · cases h
theorem listF_iso {base : Nat} {vs : List V} {rv : V} {blks : List Blk} (h : liftB listF base vs = some (rv, blks)) : IsoSound Try.prog 18 base vs rv blks := by
  obtain ⟨k, hk⟩ := liftB_some h
  unfold listF at hk
  cases hA : listA k base vs with
  | some r =>
    rw [hA] at hk
    cases hk
    exact listA_iso hA
  | none =>
    rw [hA] at hk
    exact vcall_ok (P := Try.prog) (by kernel_rfl) extOK_none k 18 base vs rv blks hk
theorem u8s_of : ∀ {x : List Int} {cs : List V}, RL noE (x.flatMap eB) cs → u8s cs = some x
  | [], _, h => by cases h; rfl
  | y :: x, _, h => by
    cases h with
    | cons h1 h2 =>
      cases h1 with
      | int _ _ m hm =>
        have hm : m = y := hm
        subst hm
        unfold u8s
        rw [u8s_of h2]
        rfl
theorem flatB (x : List Int) : (x.flatMap eB).length = x.length := by
  induction x with
  | nil => rfl
  | cons a x ih => rw [List.flatMap_cons, List.length_append, ih]; simp [eB]; omega
theorem flatT (x : List (List Int)) : (x.flatMap eT).length = x.length := by
  induction x with
  | nil => rfl
  | cons a x ih => rw [List.flatMap_cons, List.length_append, ih]; simp [eT]; omega
theorem itemI_of {x : List Int} {v : V} (h : RV noE (row x) v) (hx : x.length ≤ 200) : itemI v = some x := by
  cases h with
  | slI h1 h2 h3 h4 h5 =>
    have h4 : RL noE (x.flatMap eB) _ := h4
    have hl := h4.length
    rw [flatB] at hl
    rename_i m
    have h3 : _ = x.length := h3
    subst h3
    show (if _ then _ else _) = _
    rw [if_pos ⟨by omega, by omega⟩, List.take_of_length_le (by omega)]
    exact u8s_of h4
  | slIn h1 h2 =>
    have h1 : x.length = 0 := h1
    rw [List.length_eq_zero_iff.1 h1]; rfl
  | slI0 h1 h2 h3 h4 =>
    have h3 : x.length = 0 := h3
    rw [List.length_eq_zero_iff.1 h3]; rfl
theorem items_of' : ∀ {l : List (List Int)} {cs : List V}, RL noE (l.flatMap eT) cs → (∀ x ∈ l, x.length ≤ 200) → mapO itemI cs = some l
  | [], _, h, _ => by cases h; rfl
  | y :: l, _, h, hx => by
    cases h with
    | cons h1 h2 =>
      simp only [mapO, itemI_of h1 (hx y (List.mem_cons_self ..)), items_of' h2 fun x hm => hx x (List.mem_cons_of_mem _ hm)]
theorem itemsI_of {l : List (List Int)} {v : V} (h : RV noE (rows2 l) v) (h1 : 1 ≤ l.length) (h2 : l.length ≤ 64) (hx : ∀ x ∈ l, x.length ≤ 200) : itemsI v = some l := by
  cases h with
  | slI g1 g2 h3 h4 h5 =>
    have h4 : RL noE (l.flatMap eT) _ := h4
    have hl := h4.length
    rw [flatT] at hl
    have h3 : _ = l.length := h3
    subst h3
    show (if _ then _ else _) = _
    rw [if_pos ⟨by omega, by omega, by omega⟩, List.take_of_length_le (by omega)]
    exact items_of' h4 hx
  | slIn g1 g2 =>
    have g1 : l.length = 0 := g1
    omega
  | slI0 _ _ h3 h4 =>
    have h3 : l.length = 0 := h3
    omega
theorem rowI_rel {ε : Nat → Option BE} (x : List Int) : RV ε (row x) (rowI x) := by
  refine .slI (fun q => by cases q) (fun q => by cases q) rfl ?_ rokB
  show RL ε (x.flatMap eB) (x.map (V.int .u8))
  induction x with
  | nil => exact .nil
  | cons a x ih => exact .cons (.int _ _ _ rfl) ih
theorem slesQ (q : Qu) : sles [qS q] [qS q] := ⟨⟨⟨rfl, rfl⟩, rfl, rfl, trivial⟩, trivial⟩
theorem list_ok {cf1 : Cfg} (hx : cf1.ext 18 = some (liftB listF)) : CtOK Try.prog cf1 18 ctList := by
  intro base bs K hK as' has vbase
  obtain ⟨q, h1, h2, h3, h4⟩ := hK
  have has := sles_rel h1 has
  have hB : ∀ {r : V × List Blk}, EndsB listF vbase as' r → ∃ N, ∀ n, N ≤ n → callI Try.prog cf1 (exec Try.prog cf1 n) 18 vbase as' = some r := fun h => ⟨0, fun n _ => by unfold callI; rw [hx]; exact liftB_of h⟩
  by_cases hc : chkQ q = 0
  · obtain ⟨l, hd, m⟩ := q
    obtain ⟨c1, c2⟩ := chkQ_good hc
    obtain ⟨f1, f2, f3, f4, f5, f6⟩ := fits_iff.1 c1
    obtain ⟨rv, blks, srv, sblks, ⟨N, hN⟩, ⟨g1, g1'⟩, g2, g3⟩ := chk_ok 0 [qS (l, hd, m)] (fun s b => s = .int .i64 (.sym (chkQ (l, hd, m))) ∧ b = []) ⟨(l, hd, m), slesQ _, h2, rfl, rfl⟩ as' has 0
    subst g1 g1'
    cases g2
    cases g3 with
    | int _ _ e he =>
      have he : e = chkQ (l, hd, m) := he
      rw [hc] at he
      subst he
      cases has with
      | cons r s =>
        cases s
        cases r with
        | agg t =>
          cases t with
          | cons t1 t2 =>
            cases t2 with
            | cons t2 t3 =>
              cases t3 with
              | cons t3 t4 =>
                cases t4
                cases t2 with
                | int _ _ a ha =>
                  cases t3 with
                  | int _ _ b hb =>
                    have ha : a = hd := ha
                    have hb : b = m := hb
                    subst ha hb
                    have hit := itemsI_of t1 f1 f2 fun x hx => (h2.1 x hx).2
                    have hA : EndsB listF vbase _ _ := ⟨N, fun k hk => listF_of hit ⟨f3, f5, f4, f6⟩ (hN k hk)⟩
                    refine ⟨_, _, lsV base (l, a, b), lsBlk (l, a, b), hB hA, h3 hc, ?_, ?_⟩
                    · refine .cons rokT rfl rfl rfl (fun q => q) rfl ?_ .nil
                      show RL _ ((rowsL l a b).flatMap eT) ((rowsL l a b).map rowI)
                      generalize rowsL l a b = L
                      induction L with
                      | nil => exact .nil
                      | cons x L ih => exact .cons (rowI_rel x) ih
                    · refine .tup (.cons (.slB (e := ⟨0, some (vbase + (base - base), 0)⟩) ?_ (Nat.le_refl _) (fun _ => .inl ⟨_, _, rfl, ?_⟩) ?_) (.cons (.int _ _ _ rfl) .nil))
                      · unfold newsE
                        exact if_pos ⟨Nat.le_refl _, Nat.lt_succ_self _⟩
                      · rw [Nat.sub_self]; rfl
                      · rfl
  · obtain ⟨rv, blks, srv, sblks, ⟨N, hN⟩, g1, g2, g3⟩ := listB_ok base [qS q] K ⟨q, slesQ q, ⟨h2, hc⟩, h4 hc⟩ as' has vbase
    obtain ⟨rv2, blks2, srv2, sblks2, ⟨N2, hN2⟩, ⟨k1, k1'⟩, k2, k3⟩ := chk_ok 0 [qS q] (fun s b => s = .int .i64 (.sym (chkQ q)) ∧ b = []) ⟨q, slesQ q, h2, rfl, rfl⟩ as' has 0
    subst k1 k1'
    cases k2
    refine ⟨rv, blks, srv, sblks, hB ⟨max N N2, fun k hk => ?_⟩, g1, g2, g3⟩
    have e1 : callI Try.prog cf0 (exec Try.prog cf0 k) 18 vbase as' = _ := hN k (by omega)
    have e2 : vcall Try.prog cf0 k 21 0 as' = _ := hN2 k (by omega)
    cases hA : listA k vbase as' with
    | none => unfold listF; rw [hA]; exact e1
    | some r =>
      exfalso
      unfold listA at hA
      split at hA
      · split at hA
        · split at hA
          · split at hA
            · rename_i hv
              split at hA
              · rename_i he
                rw [e2] at hv
                cases hv
                cases k3 with
                | int _ _ _ hm =>
                  have hm : _ = chkQ q := hm
                  exact hc (by rw [← hm]; exact he)
              · cases hA
            · cases hA
          · cases hA
        · cases hA
      · cases hA

end
end Go.Proofs.Ytnnfcebnmogdmaa.VM
/- Queues: Great told; the law's own machine. No conditions. -/
namespace Go.Proofs.Ytnnfcebnmogdmaa.VM
open Go Go.RowKit
set_option linter.unusedVariables false
set_option linter.unusedSimpArgs false
set_option maxRecDepth 100000
noncomputable section
def greatP (q : Qu) : Prop := 100 < q.1.length ∨ ∃ x ∈ q.1, 200 < x.length
def ctGreat : SCall := Ct (fun q : Qu => [qS q]) (fun _ => True) (fun q => .bool (.sym (greatP q)))
def L6 : LInv where
  ι := Qu × Nat
  G := fun a => a.2 ≤ a.1.1.length ∧ a.2 ≤ 100 ∧ ∀ x ∈ a.1.1.take a.2, x.length ≤ 200
  μ := fun a => 100 - a.2
  I := fun a => ⟨stT 26 [(1, .ptrB 0 (.lit 0) 0 0 0), (2, .bool (.lit false)), (3, .int .i64 (.sym (a.2 : Int)))], [(0, ⟨.lit [rows2 a.1.1, .int .i64 (.sym a.1.2.1), .int .i64 (.sym a.1.2.2)], 0, 0, false, false⟩)], 1⟩
  Ω := Qu
  e := 0
  PE := fun a o => o = a.1 ∧ (∀ x ∈ a.1.1.take 100, x.length ≤ 200)
  OE := fun q => ⟨stT 26 [(1, .ptrB 0 (.lit 0) 0 0 0)], [(0, ⟨.lit [rows2 q.1, .int .i64 (.sym q.2.1), .int .i64 (.sym q.2.2)], 0, 0, false, false⟩)], 1⟩
  ret := true
  Ρ := Unit
  PR := fun a _ => ∃ x ∈ a.1.1, 200 < x.length
  OR := fun _ => ⟨stT 26 [(2, .bool (.lit true))], [], 1⟩
def sx6 : SX := ⟨rowT, ctOf [], lpOf [(2, ⟨6, 0, L6.C 1000⟩)]⟩
theorem vc_L6 (a : L6.ι) : (sexec sx0 Try.prog cf0 1000 (loopBody Try.prog 6 0) (L6.I a) (L6.round 1000 a)) = (((↑(Prod.snd a) : Int) < (↑(List.length (Prod.fst (Prod.fst a))) : Int) → ((↑(Prod.snd a) : Int) < (100 : Int) → (0 : Int) ≤ (↑(Prod.snd a) : Int) ∧ (↑(Prod.snd a) : Int) < (↑(List.length (Prod.fst
(Prod.fst a))) : Int) ∧ Int.toNat (↑(Prod.snd a) : Int) < List.length (Prod.fst (Prod.fst a)) ∧ ∀ (y1 : List Int), (Prod.fst (Prod.fst a))[Int.toNat (↑(Prod.snd a) : Int)]? = some y1 → ((200 : Int) <
(↑(List.length y1) : Int) → ∃ (y2 : LInv.Ρ L6), (∃ (y3 : List Int), y3 ∈ Prod.fst (Prod.fst a) ∧ (200 : Nat) < List.length y3) ∧ (True ∧ True ∧ true = true ∧ True ∧ True ∧ True ∧ True ∧ True ∧ True ∧
True ∧ True ∧ True ∧ True ∧ True ∧ True ∧ True ∧ True ∧ True ∧ True ∧ True ∧ True ∧ True ∧ True ∧ True ∧ True ∧ True ∧ True) ∧ True) ∧ (¬(200 : Int) < (↑(List.length y1) : Int) → ∃ (y2 : LInv.ι L6),
(Prod.snd y2 ≤ List.length (Prod.fst (Prod.fst y2)) ∧ Prod.snd y2 ≤ (100 : Nat) ∧ ∀ (y3 : List Int), y3 ∈ List.take (Prod.snd y2) (Prod.fst (Prod.fst y2)) → List.length y3 ≤ (200 : Nat)) ∧ LInv.μ L6
y2 < LInv.μ L6 a ∧ (∀ (y3 : LInv.Ω L6), LInv.PE L6 y2 y3 → y3 = Prod.fst a ∧ ∀ (y4 : List Int), y4 ∈ List.take (100 : Nat) (Prod.fst (Prod.fst a)) → List.length y4 ≤ (200 : Nat)) ∧ (∀ (y3 : LInv.Ρ
L6), LInv.PR L6 y2 y3 → ∃ (y4 : List Int), y4 ∈ Prod.fst (Prod.fst a) ∧ (200 : Nat) < List.length y4) ∧ (True ∧ (0 : Nat) = (0 : Nat) ∧ false = false ∧ IntKind.wrap IntKind.i64 ((↑(Prod.snd a) : Int)
+ (1 : Int)) = (↑(Prod.snd y2) : Int) ∧ True ∧ True ∧ True ∧ True ∧ True ∧ True ∧ True ∧ True ∧ True ∧ True ∧ True ∧ True ∧ True ∧ True ∧ True ∧ True ∧ True ∧ True ∧ True ∧ True ∧ True ∧ True ∧ True)
∧ ((List.length (Prod.fst (Prod.fst a)) = List.length (Prod.fst (Prod.fst y2)) ∧ SC.rows eT (1 : Nat) (2 : Nat) false (Prod.fst (Prod.fst a)) = SC.rows eT (1 : Nat) (2 : Nat) false (Prod.fst (Prod.fst
y2))) ∧ Prod.fst (Prod.snd (Prod.fst a)) = Prod.fst (Prod.snd (Prod.fst y2)) ∧ Prod.snd (Prod.snd (Prod.fst a)) = Prod.snd (Prod.snd (Prod.fst y2)) ∧ True) ∧ True)) ∧ (¬(↑(Prod.snd a) : Int) < (100 :
Int) → ∃ (y1 : LInv.Ω L6), (y1 = Prod.fst a ∧ ∀ (y2 : List Int), y2 ∈ List.take (100 : Nat) (Prod.fst (Prod.fst a)) → List.length y2 ≤ (200 : Nat)) ∧ (True ∧ (0 : Nat) = (0 : Nat) ∧ True ∧ True ∧ True
∧ True ∧ True ∧ True ∧ True ∧ True ∧ True ∧ True ∧ True ∧ True ∧ True ∧ True ∧ True ∧ True ∧ True ∧ True ∧ True ∧ True ∧ True ∧ True ∧ True ∧ True ∧ True) ∧ ((List.length (Prod.fst (Prod.fst a)) =
List.length (Prod.fst y1) ∧ SC.rows eT (1 : Nat) (2 : Nat) false (Prod.fst (Prod.fst a)) = SC.rows eT (1 : Nat) (2 : Nat) false (Prod.fst y1)) ∧ Prod.fst (Prod.snd (Prod.fst a)) = Prod.fst (Prod.snd
y1) ∧ Prod.snd (Prod.snd (Prod.fst a)) = Prod.snd (Prod.snd y1) ∧ True) ∧ True)) ∧ (¬(↑(Prod.snd a) : Int) < (↑(List.length (Prod.fst (Prod.fst a))) : Int) → ∃ (y1 : LInv.Ω L6), (y1 = Prod.fst a ∧ ∀
(y2 : List Int), y2 ∈ List.take (100 : Nat) (Prod.fst (Prod.fst a)) → List.length y2 ≤ (200 : Nat)) ∧ (True ∧ (0 : Nat) = (0 : Nat) ∧ True ∧ True ∧ True ∧ True ∧ True ∧ True ∧ True ∧ True ∧ True ∧
True ∧ True ∧ True ∧ True ∧ True ∧ True ∧ True ∧ True ∧ True ∧ True ∧ True ∧ True ∧ True ∧ True ∧ True ∧ True) ∧ ((List.length (Prod.fst (Prod.fst a)) = List.length (Prod.fst y1) ∧ SC.rows eT (1 :
Nat) (2 : Nat) false (Prod.fst (Prod.fst a)) = SC.rows eT (1 : Nat) (2 : Nat) false (Prod.fst y1)) ∧ Prod.fst (Prod.snd (Prod.fst a)) = Prod.fst (Prod.snd y1) ∧ Prod.snd (Prod.snd (Prod.fst a)) =
Prod.snd (Prod.snd y1) ∧ True) ∧ True)) := by kernel_rfl
theorem vc_great (q : Qu) (p : Prop) : (scallI sx6 Try.prog cf0 (sexec sx6 Try.prog cf0 1000) 6 0 [qS q] (post (.bool (.sym p)))) = (SameCode (loopBody Try.prog (6 : Nat) (0 : Nat)) (loopBody Try.prog (6 : Nat) (0 : Nat)) ∧ ∃ (y2 : LInv.ι L6), (Prod.snd y2 ≤ List.length (Prod.fst (Prod.fst y2)) ∧ Prod.snd y2 ≤ (100 : Nat) ∧ ∀ (y3 :
List Int), y3 ∈ List.take (Prod.snd y2) (Prod.fst (Prod.fst y2)) → List.length y3 ≤ (200 : Nat)) ∧ ((True ∧ (0 : Nat) = (0 : Nat) ∧ false = false ∧ (0 : Int) = (↑(Prod.snd y2) : Int) ∧ True ∧ True ∧
True ∧ True ∧ True ∧ True ∧ True ∧ True ∧ True ∧ True ∧ True ∧ True ∧ True ∧ True ∧ True ∧ True ∧ True ∧ True ∧ True ∧ True ∧ True ∧ True ∧ True) ∧ ((List.length (Prod.fst q) = List.length (Prod.fst
(Prod.fst y2)) ∧ SC.rows eT (1 : Nat) (2 : Nat) false (Prod.fst q) = SC.rows eT (1 : Nat) (2 : Nat) false (Prod.fst (Prod.fst y2))) ∧ Prod.fst (Prod.snd q) = Prod.fst (Prod.snd (Prod.fst y2)) ∧
Prod.snd (Prod.snd q) = Prod.snd (Prod.snd (Prod.fst y2)) ∧ True) ∧ True) ∧ (∀ (y3 : LInv.ι L6), True) ∧ (∀ (y3 : LInv.Ω L6), LInv.PE L6 y2 y3 → ((100 : Int) < (↑(List.length (Prod.fst y3)) : Int) ↔
p)) ∧ ∀ (y3 : LInv.Ρ L6), LInv.PR L6 y2 y3 → (true = true ↔ p)) := by kernel_rfl
theorem L6_ok (a : L6.ι) (ha : L6.G a) : sexec sx0 Try.prog cf0 1000 (loopBody Try.prog 6 0) (L6.I a) (L6.round 1000 a) := by
  rw [vc_L6]
  obtain ⟨⟨l, hd, m⟩, i⟩ := a
  obtain ⟨g1, g2, g3⟩ := ha
  have g1 : i ≤ l.length := g1
  have g2 : i ≤ 100 := g2
  have g3 : ∀ x ∈ l.take i, x.length ≤ 200 := g3
  simp only [true_and, and_true, eq_self, implies_true, Int.toNat_natCast]
  have full : ∀ j : Nat, (l.length ≤ j ∨ 100 ≤ j) → j = i → ∀ x ∈ l.take 100, x.length ≤ 200 := fun j hj e x hx => by
    subst e
    refine g3 x ?_
    rcases hj with hj | hj
    · rw [List.take_of_length_le hj]; exact List.mem_of_mem_take hx
    · rw [show j = 100 by omega]; exact hx
  refine ⟨fun h1 => ⟨fun h2 => ⟨by omega, by omega, by omega, fun x hx => ⟨fun h3 => ⟨(), x, List.mem_of_getElem? hx, by omega⟩, fun h3 => Exists.intro ((l, hd, m), i + 1) ⟨⟨by show i + 1 ≤ l.length; omega, by show i + 1 ≤ 100; omega, fun y hy => ?_⟩, by show 100 - (i + 1) < 100 - i; omega, fun o ho => ho, fun o ho => ho, nx (by omega), ⟨rfl, rfl⟩, rfl, rfl⟩⟩⟩, fun h2 => Exists.intro (l, hd, m) ⟨⟨rfl, full i (.inr (by omega)) rfl⟩, ⟨rfl, rfl⟩, rfl, rfl⟩⟩, fun h1 => Exists.intro (l, hd, m) ⟨⟨rfl, full i (.inl (by omega)) rfl⟩, ⟨rfl, rfl⟩, rfl, rfl⟩⟩
  have hy : y ∈ l.take (i + 1) := hy
  rw [List.take_add_one, hx] at hy
  rcases List.mem_append.1 hy with hy | hy
  · exact g3 y hy
  · have e : y = x := by simpa using hy
    subst e
    omega
theorem sx6_ok : SXOK Try.prog cf0 sx6 := sxok_lp all_nil (all_cons (inv_vc (m := 1000) sx0_ok L6_ok) all_nil)
theorem great_ok : CtOK Try.prog cf0 6 ctGreat := ct_vc (m := 1000) sx6_ok fun q _ => by
  rw [vc_great]
  obtain ⟨l, hd, m⟩ := q
  simp only [true_and, and_true, eq_self, implies_true, true_iff]
  refine ⟨SameCode.refl _, Exists.intro ((l, hd, m), 0) ⟨⟨Nat.zero_le _, by show 0 ≤ 100; omega, fun x hx => by cases hx⟩, ⟨rfl, ⟨rfl, rfl⟩, rfl, rfl⟩, fun o ho => ?_, fun _ ho => .inr ho⟩⟩
  obtain ⟨ho, h2⟩ := ho
  have ho : o = (l, hd, m) := ho
  subst ho
  refine ⟨fun h => .inl (by show 100 < l.length; have h : (100 : Int) < (l.length : Int) := h; omega), fun h => ?_⟩
  show (100 : Int) < (l.length : Int)
  rcases h with h | ⟨x, hx, h3⟩
  · have h : 100 < l.length := h; omega
  · by_cases q : 100 < l.length
    · omega
    · have h2 : ∀ x ∈ l.take 100, x.length ≤ 200 := h2
      rw [List.take_of_length_le (by omega)] at h2
      have := h2 x hx
      omega
theorem alive_val : vcall Try.prog cf0 200 23 0 [] = some (.bool true, []) := by kernel_rfl
def cfR : Cfg := ⟨fun f => Nat.beq f 10, fun _ => false, fun f => bif Nat.beq f 18 then some (liftB listF) else bif Nat.beq f 23 then some (memoG (.bool true)) else bif Nat.beq f 6 then some (liftB fun k base vs => vcall Try.prog cf0 k 6 base vs) else bif Nat.beq f 14 then some (liftB fun k base vs => vcall Try.prog cf0 k 14 base vs)
  else bif Nat.beq f 16 then some (liftB fun k base vs => vcall Try.prog cf0 k 16 base vs) else bif Nat.beq f 21 then some (liftB fun k base vs => vcall Try.prog cf0 k 21 base vs) else none⟩

end
end Go.Proofs.Ytnnfcebnmogdmaa.VM
/- Queues: RingOrder, the conditions. No conditions. -/
namespace Go.Proofs.Ytnnfcebnmogdmaa.VM
open Go Go.RowKit
set_option linter.unusedVariables false
set_option linter.unusedSimpArgs false
set_option maxRecDepth 100000
noncomputable section
def ctAlive : SCall := Ct (fun _ : Unit => []) (fun _ => True) (fun _ => .bool (.lit true))
def gq (q : Qu) : Prop := chkQ q = 0 ∧ QOK q
/-- The law: items are pushed. -/
def L9 : LInv where
  ι := Qu × List (List Int) × Nat
  G := fun a => gq a.1 ∧ (∀ x ∈ a.2.1, By x ∧ x.length ≤ 200) ∧ a.2.2 ≤ a.2.1.length ∧ a.2.1.length ≤ 100
  μ := fun a => a.2.1.length - a.2.2
  I := fun a => ⟨stT 135 [(1, rows2 a.2.1), (2, .ptrB 0 (.lit 0) 0 0 0), (4, .bool (.lit false)), (5, .bool (.lit true)), (6, .slB 1 (.lit 0) 1 1000 (.sym (listQ a.1).length)), (8, .int .i64 (.sym (a.1.1.length : Int))), (9, .int .i64 (.sym (a.2.2 : Int)))],
    [(0, ⟨.lit [rows2 a.1.1, .int .i64 (.sym a.1.2.1), .int .i64 (.sym a.1.2.2)], 0, 0, false, false⟩), (1, ⟨.rows eT 1 2 false (listQ a.1), 1, 1000, false, false⟩)], 2⟩
  Ω := Qu
  e := 0
  PE := fun _ o => gq o
  OE := fun q => ⟨stT 135 [(2, .ptrB 0 (.lit 0) 0 0 0), (4, .bool (.lit false)), (5, .bool (.lit true)), (6, .slB 1 (.lit 0) 1 1000 (.sym (listQ q).length))],
    [(0, ⟨.lit [rows2 q.1, .int .i64 (.sym q.2.1), .int .i64 (.sym q.2.2)], 0, 0, false, false⟩), (1, ⟨.rows eT 1 2 false (listQ q), 1, 1000, false, false⟩)], 2⟩
  ret := true
  Ρ := Unit
  PR := fun _ _ => False
  OR := fun _ => ⟨stT 135 [], [], 2⟩
/-- The law: items are popped. -/
def L18 : LInv where
  ι := Qu × List (List Int) × Nat
  G := fun a => gq a.1 ∧ listQ a.1 = a.2.1.drop a.2.2 ∧ a.2.2 ≤ a.2.1.length ∧ a.2.1.length ≤ 100
  μ := fun a => a.2.1.length - a.2.2
  I := fun a => ⟨stT 135 [(2, .ptrB 0 (.lit 0) 0 0 0), (4, .bool (.lit false)), (5, .bool (.lit true)), (6, .slB 1 (.lit 0) 1 2000 (.sym a.2.1.length)), (12, .int .i64 (.sym (a.2.2 : Int)))],
    [(0, ⟨.lit [rows2 a.1.1, .int .i64 (.sym a.1.2.1), .int .i64 (.sym a.1.2.2)], 0, 0, false, false⟩), (1, ⟨.rows eT 1 2 false a.2.1, 1, 2000, false, false⟩)], 2⟩
  Ω := Qu
  e := 2
  PE := fun _ o => gq o ∧ listQ o = []
  OE := fun q => ⟨stT 135 [(2, .ptrB 0 (.lit 0) 0 0 0), (5, .bool (.lit true))],
    [(0, ⟨.lit [rows2 q.1, .int .i64 (.sym q.2.1), .int .i64 (.sym q.2.2)], 0, 0, false, false⟩)], 2⟩
  ret := true
  Ρ := Unit
  PR := fun _ _ => False
  OR := fun _ => ⟨stT 135 [], [], 2⟩
def sxL : SX := ⟨rowT, ctOf [(14, ctPush), (16, ctPop), (21, ctChkQ), (6, ctGreat), (23, ctAlive), (18, ctList)], lpOf []⟩
def sxM : SX := ⟨rowT, ctOf [(14, ctPush), (16, ctPop), (21, ctChkQ), (6, ctGreat), (23, ctAlive), (18, ctList)], lpOf [(9, ⟨5, 0, L9.C 1000⟩), (18, ⟨5, 1, L18.C 2000⟩)]⟩
theorem vc_L9 (a : L9.ι) : (sexec sxL Try.prog cfR 1000 (loopBody Try.prog 5 0) (L9.I a) (L9.round 1000 a)) = (((↑(Prod.snd (Prod.snd a)) : Int) < (↑(List.length (Prod.fst (Prod.snd a))) : Int) → (0 : Int) ≤ (↑(Prod.snd (Prod.snd a)) : Int) ∧ (↑(Prod.snd (Prod.snd a)) : Int) < (↑(List.length (Prod.fst
(Prod.snd a))) : Int) ∧ Int.toNat (↑(Prod.snd (Prod.snd a)) : Int) < List.length (Prod.fst (Prod.snd a)) ∧ ∀ (y1 : List Int), (Prod.fst (Prod.snd a))[Int.toNat (↑(Prod.snd (Prod.snd a)) : Int)]? =
some y1 → ∃ (y2 : Qu × List Int), (((List.length (Prod.fst (Prod.fst a)) = List.length (Prod.fst (Prod.fst y2)) ∧ SC.rows eT (1 : Nat) (2 : Nat) false (Prod.fst (Prod.fst a)) = SC.rows eT (1 : Nat) (2
: Nat) false (Prod.fst (Prod.fst y2))) ∧ Prod.fst (Prod.snd (Prod.fst a)) = Prod.fst (Prod.snd (Prod.fst y2)) ∧ Prod.snd (Prod.snd (Prod.fst a)) = Prod.snd (Prod.snd (Prod.fst y2)) ∧ True) ∧
(List.length y1 = List.length (Prod.snd y2) ∧ SC.rows eB (1 : Nat) (1 : Nat) true y1 = SC.rows eB (1 : Nat) (1 : Nat) true (Prod.snd y2)) ∧ True) ∧ (((∀ (y3 : List Int), y3 ∈ Prod.fst (Prod.fst y2) →
(∀ (y4 : Int), y4 ∈ y3 → (0 : Int) ≤ y4 ∧ y4 < (256 : Int)) ∧ List.length y3 ≤ (200 : Nat)) ∧ List.length (Prod.fst (Prod.fst y2)) ≤ (100 : Nat)) ∧ List.length (Prod.snd y2) ≤ (200 : Nat)) ∧ (¬(pushE
(Prod.fst y2) = (9 : Int) ↔ (↑(List.length (Prod.fst (Prod.fst a))) : Int) ≤ (↑(List.length (listQ (Prod.fst a))) : Int)) → ∃ (y3 : LInv.Ρ L9), False ∧ (True ∧ True ∧ True ∧ True ∧ True ∧ True ∧ True
∧ True ∧ True ∧ True ∧ True ∧ True ∧ True ∧ True ∧ True ∧ True ∧ True ∧ True ∧ True ∧ True ∧ True ∧ True ∧ True ∧ True ∧ True ∧ True ∧ True ∧ True ∧ True ∧ True ∧ True ∧ True ∧ True ∧ True ∧ True ∧
True ∧ True ∧ True ∧ True ∧ True ∧ True ∧ True ∧ True ∧ True ∧ True ∧ True ∧ True ∧ True ∧ True ∧ True ∧ True ∧ True ∧ True ∧ True ∧ True ∧ True ∧ True ∧ True ∧ True ∧ True ∧ True ∧ True ∧ True ∧ True
∧ True ∧ True ∧ True ∧ True ∧ True ∧ True ∧ True ∧ True ∧ True ∧ True ∧ True ∧ True ∧ True ∧ True ∧ True ∧ True ∧ True ∧ True ∧ True ∧ True ∧ True ∧ True ∧ True ∧ True ∧ True ∧ True ∧ True ∧ True ∧
True ∧ True ∧ True ∧ True ∧ True ∧ True ∧ True ∧ True ∧ True ∧ True ∧ True ∧ True ∧ True ∧ True ∧ True ∧ True ∧ True ∧ True ∧ True ∧ True ∧ True ∧ True ∧ True ∧ True ∧ True ∧ True ∧ True ∧ True ∧ True
∧ True ∧ True ∧ True ∧ True ∧ True ∧ True ∧ True ∧ True ∧ True ∧ True ∧ True ∧ True ∧ True ∧ True ∧ True) ∧ True) ∧ (¬¬(pushE (Prod.fst y2) = (9 : Int) ↔ (↑(List.length (Prod.fst (Prod.fst a))) : Int)
≤ (↑(List.length (listQ (Prod.fst a))) : Int)) → (¬pushE (Prod.fst y2) = (0 : Int) → (¬pushE (Prod.fst y2) = (9 : Int) → ∃ (y3 : LInv.Ρ L9), False ∧ (True ∧ True ∧ True ∧ True ∧ True ∧ True ∧ True ∧
True ∧ True ∧ True ∧ True ∧ True ∧ True ∧ True ∧ True ∧ True ∧ True ∧ True ∧ True ∧ True ∧ True ∧ True ∧ True ∧ True ∧ True ∧ True ∧ True ∧ True ∧ True ∧ True ∧ True ∧ True ∧ True ∧ True ∧ True ∧ True
∧ True ∧ True ∧ True ∧ True ∧ True ∧ True ∧ True ∧ True ∧ True ∧ True ∧ True ∧ True ∧ True ∧ True ∧ True ∧ True ∧ True ∧ True ∧ True ∧ True ∧ True ∧ True ∧ True ∧ True ∧ True ∧ True ∧ True ∧ True ∧
True ∧ True ∧ True ∧ True ∧ True ∧ True ∧ True ∧ True ∧ True ∧ True ∧ True ∧ True ∧ True ∧ True ∧ True ∧ True ∧ True ∧ True ∧ True ∧ True ∧ True ∧ True ∧ True ∧ True ∧ True ∧ True ∧ True ∧ True ∧ True
∧ True ∧ True ∧ True ∧ True ∧ True ∧ True ∧ True ∧ True ∧ True ∧ True ∧ True ∧ True ∧ True ∧ True ∧ True ∧ True ∧ True ∧ True ∧ True ∧ True ∧ True ∧ True ∧ True ∧ True ∧ True ∧ True ∧ True ∧ True ∧
True ∧ True ∧ True ∧ True ∧ True ∧ True ∧ True ∧ True ∧ True ∧ True ∧ True ∧ True ∧ True ∧ True ∧ True) ∧ True) ∧ (¬¬pushE (Prod.fst y2) = (9 : Int) → (pushE (Prod.fst y2) = (0 : Int) → (0 : Int) ≤
(↑(Prod.snd (Prod.snd a)) : Int) ∧ (↑(Prod.snd (Prod.snd a)) : Int) < (↑(List.length (Prod.fst (Prod.snd a))) : Int) ∧ Int.toNat (↑(Prod.snd (Prod.snd a)) : Int) < List.length (Prod.fst (Prod.snd a))
∧ ∀ (y3 : List Int), (Prod.fst (Prod.snd a))[Int.toNat (↑(Prod.snd (Prod.snd a)) : Int)]? = some y3 → List.length (listQ (Prod.fst a)) + (1 : Nat) ≤ (45812984490 : Nat) ∧ List.length (listQ (Prod.fst
a)) = List.length (listQ (Prod.fst a)) ∧ ∃ (y4 : List Int), ((List.length y3 = List.length y4 ∧ SC.rows eB (1 : Nat) (1 : Nat) true y3 = SC.rows eB (1 : Nat) (1 : Nat) true y4) ∧ True) ∧ ∃ (y5 :
LInv.ι L9), ((chkQ (Prod.fst y5) = (0 : Int) ∧ (∀ (y6 : List Int), y6 ∈ Prod.fst (Prod.fst y5) → (∀ (y7 : Int), y7 ∈ y6 → (0 : Int) ≤ y7 ∧ y7 < (256 : Int)) ∧ List.length y6 ≤ (200 : Nat)) ∧
List.length (Prod.fst (Prod.fst y5)) ≤ (100 : Nat)) ∧ (∀ (y6 : List Int), y6 ∈ Prod.fst (Prod.snd y5) → (∀ (y7 : Int), y7 ∈ y6 → (0 : Int) ≤ y7 ∧ y7 < (256 : Int)) ∧ List.length y6 ≤ (200 : Nat)) ∧
Prod.snd (Prod.snd y5) ≤ List.length (Prod.fst (Prod.snd y5)) ∧ List.length (Prod.fst (Prod.snd y5)) ≤ (100 : Nat)) ∧ LInv.μ L9 y5 < LInv.μ L9 a ∧ (∀ (y6 : LInv.Ω L9), LInv.PE L9 y5 y6 → chkQ y6 = (0
: Int) ∧ (∀ (y7 : List Int), y7 ∈ Prod.fst y6 → (∀ (y8 : Int), y8 ∈ y7 → (0 : Int) ≤ y8 ∧ y8 < (256 : Int)) ∧ List.length y7 ≤ (200 : Nat)) ∧ List.length (Prod.fst y6) ≤ (100 : Nat)) ∧ (∀ (y6 : LInv.Ρ
L9), LInv.PR L9 y5 y6 → False) ∧ (True ∧ (List.length (Prod.fst (Prod.snd a)) = List.length (Prod.fst (Prod.snd y5)) ∧ SC.rows eT (1 : Nat) (2 : Nat) false (Prod.fst (Prod.snd a)) = SC.rows eT (1 :
Nat) (2 : Nat) false (Prod.fst (Prod.snd y5))) ∧ (0 : Nat) = (0 : Nat) ∧ True ∧ false = false ∧ true = true ∧ ((0 : Nat) = (0 : Nat) ∧ List.length (listQ (Prod.fst a)) + (1 : Nat) = List.length (listQ
(Prod.fst y5))) ∧ True ∧ (↑(List.length (Prod.fst (Prod.fst a))) : Int) = (↑(List.length (Prod.fst (Prod.fst y5))) : Int) ∧ IntKind.wrap IntKind.i64 ((↑(Prod.snd (Prod.snd a)) : Int) + (1 : Int)) =
(↑(Prod.snd (Prod.snd y5)) : Int) ∧ True ∧ True ∧ True ∧ True ∧ True ∧ True ∧ True ∧ True ∧ True ∧ True ∧ True ∧ True ∧ True ∧ True ∧ True ∧ True ∧ True ∧ True ∧ True ∧ True ∧ True ∧ True ∧ True ∧
True ∧ True ∧ True ∧ True ∧ True ∧ True ∧ True ∧ True ∧ True ∧ True ∧ True ∧ True ∧ True ∧ True ∧ True ∧ True ∧ True ∧ True ∧ True ∧ True ∧ True ∧ True ∧ True ∧ True ∧ True ∧ True ∧ True ∧ True ∧ True
∧ True ∧ True ∧ True ∧ True ∧ True ∧ True ∧ True ∧ True ∧ True ∧ True ∧ True ∧ True ∧ True ∧ True ∧ True ∧ True ∧ True ∧ True ∧ True ∧ True ∧ True ∧ True ∧ True ∧ True ∧ True ∧ True ∧ True ∧ True ∧
True ∧ True ∧ True ∧ True ∧ True ∧ True ∧ True ∧ True ∧ True ∧ True ∧ True ∧ True ∧ True ∧ True ∧ True ∧ True ∧ True ∧ True ∧ True ∧ True ∧ True ∧ True ∧ True ∧ True ∧ True ∧ True ∧ True ∧ True ∧ True
∧ True ∧ True ∧ True ∧ True ∧ True ∧ True ∧ True ∧ True ∧ True ∧ True ∧ True ∧ True ∧ True ∧ True ∧ True ∧ True ∧ True) ∧ ((List.length (Prod.fst (pushQ (Prod.fst y2) (Prod.snd y2))) = List.length
(Prod.fst (Prod.fst y5)) ∧ SC.rows eT (1 : Nat) (2 : Nat) false (Prod.fst (pushQ (Prod.fst y2) (Prod.snd y2))) = SC.rows eT (1 : Nat) (2 : Nat) false (Prod.fst (Prod.fst y5))) ∧ Prod.fst (Prod.snd
(pushQ (Prod.fst y2) (Prod.snd y2))) = Prod.fst (Prod.snd (Prod.fst y5)) ∧ Prod.snd (Prod.snd (pushQ (Prod.fst y2) (Prod.snd y2))) = Prod.snd (Prod.snd (Prod.fst y5)) ∧ True) ∧ SC.rows eT (1 : Nat) (2
: Nat) false (rdrop (SN.lit (0 : Nat)) (listQ (Prod.fst a)) ++ [y4]) = SC.rows eT (1 : Nat) (2 : Nat) false (listQ (Prod.fst y5)) ∧ True) ∧ (¬pushE (Prod.fst y2) = (0 : Int) → ∃ (y3 : LInv.ι L9),
((chkQ (Prod.fst y3) = (0 : Int) ∧ (∀ (y4 : List Int), y4 ∈ Prod.fst (Prod.fst y3) → (∀ (y5 : Int), y5 ∈ y4 → (0 : Int) ≤ y5 ∧ y5 < (256 : Int)) ∧ List.length y4 ≤ (200 : Nat)) ∧ List.length (Prod.fst
(Prod.fst y3)) ≤ (100 : Nat)) ∧ (∀ (y4 : List Int), y4 ∈ Prod.fst (Prod.snd y3) → (∀ (y5 : Int), y5 ∈ y4 → (0 : Int) ≤ y5 ∧ y5 < (256 : Int)) ∧ List.length y4 ≤ (200 : Nat)) ∧ Prod.snd (Prod.snd y3) ≤
List.length (Prod.fst (Prod.snd y3)) ∧ List.length (Prod.fst (Prod.snd y3)) ≤ (100 : Nat)) ∧ LInv.μ L9 y3 < LInv.μ L9 a ∧ (∀ (y4 : LInv.Ω L9), LInv.PE L9 y3 y4 → chkQ y4 = (0 : Int) ∧ (∀ (y5 : List
Int), y5 ∈ Prod.fst y4 → (∀ (y6 : Int), y6 ∈ y5 → (0 : Int) ≤ y6 ∧ y6 < (256 : Int)) ∧ List.length y5 ≤ (200 : Nat)) ∧ List.length (Prod.fst y4) ≤ (100 : Nat)) ∧ (∀ (y4 : LInv.Ρ L9), LInv.PR L9 y3 y4
→ False) ∧ (True ∧ (List.length (Prod.fst (Prod.snd a)) = List.length (Prod.fst (Prod.snd y3)) ∧ SC.rows eT (1 : Nat) (2 : Nat) false (Prod.fst (Prod.snd a)) = SC.rows eT (1 : Nat) (2 : Nat) false
(Prod.fst (Prod.snd y3))) ∧ (0 : Nat) = (0 : Nat) ∧ True ∧ false = false ∧ true = true ∧ ((0 : Nat) = (0 : Nat) ∧ List.length (listQ (Prod.fst a)) = List.length (listQ (Prod.fst y3))) ∧ True ∧
(↑(List.length (Prod.fst (Prod.fst a))) : Int) = (↑(List.length (Prod.fst (Prod.fst y3))) : Int) ∧ IntKind.wrap IntKind.i64 ((↑(Prod.snd (Prod.snd a)) : Int) + (1 : Int)) = (↑(Prod.snd (Prod.snd y3))
: Int) ∧ True ∧ True ∧ True ∧ True ∧ True ∧ True ∧ True ∧ True ∧ True ∧ True ∧ True ∧ True ∧ True ∧ True ∧ True ∧ True ∧ True ∧ True ∧ True ∧ True ∧ True ∧ True ∧ True ∧ True ∧ True ∧ True ∧ True ∧
True ∧ True ∧ True ∧ True ∧ True ∧ True ∧ True ∧ True ∧ True ∧ True ∧ True ∧ True ∧ True ∧ True ∧ True ∧ True ∧ True ∧ True ∧ True ∧ True ∧ True ∧ True ∧ True ∧ True ∧ True ∧ True ∧ True ∧ True ∧ True
∧ True ∧ True ∧ True ∧ True ∧ True ∧ True ∧ True ∧ True ∧ True ∧ True ∧ True ∧ True ∧ True ∧ True ∧ True ∧ True ∧ True ∧ True ∧ True ∧ True ∧ True ∧ True ∧ True ∧ True ∧ True ∧ True ∧ True ∧ True ∧
True ∧ True ∧ True ∧ True ∧ True ∧ True ∧ True ∧ True ∧ True ∧ True ∧ True ∧ True ∧ True ∧ True ∧ True ∧ True ∧ True ∧ True ∧ True ∧ True ∧ True ∧ True ∧ True ∧ True ∧ True ∧ True ∧ True ∧ True ∧ True
∧ True ∧ True ∧ True ∧ True ∧ True ∧ True ∧ True ∧ True ∧ True ∧ True ∧ True ∧ True ∧ True) ∧ ((List.length (Prod.fst (Prod.fst a)) = List.length (Prod.fst (Prod.fst y3)) ∧ SC.rows eT (1 : Nat) (2 :
Nat) false (Prod.fst (Prod.fst a)) = SC.rows eT (1 : Nat) (2 : Nat) false (Prod.fst (Prod.fst y3))) ∧ Prod.fst (Prod.snd (Prod.fst a)) = Prod.fst (Prod.snd (Prod.fst y3)) ∧ Prod.snd (Prod.snd
(Prod.fst a)) = Prod.snd (Prod.snd (Prod.fst y3)) ∧ True) ∧ SC.rows eT (1 : Nat) (2 : Nat) false (listQ (Prod.fst a)) = SC.rows eT (1 : Nat) (2 : Nat) false (listQ (Prod.fst y3)) ∧ True))) ∧ (¬¬pushE
(Prod.fst y2) = (0 : Int) → (pushE (Prod.fst y2) = (0 : Int) → (0 : Int) ≤ (↑(Prod.snd (Prod.snd a)) : Int) ∧ (↑(Prod.snd (Prod.snd a)) : Int) < (↑(List.length (Prod.fst (Prod.snd a))) : Int) ∧
Int.toNat (↑(Prod.snd (Prod.snd a)) : Int) < List.length (Prod.fst (Prod.snd a)) ∧ ∀ (y3 : List Int), (Prod.fst (Prod.snd a))[Int.toNat (↑(Prod.snd (Prod.snd a)) : Int)]? = some y3 → List.length
(listQ (Prod.fst a)) + (1 : Nat) ≤ (45812984490 : Nat) ∧ List.length (listQ (Prod.fst a)) = List.length (listQ (Prod.fst a)) ∧ ∃ (y4 : List Int), ((List.length y3 = List.length y4 ∧ SC.rows eB (1 :
Nat) (1 : Nat) true y3 = SC.rows eB (1 : Nat) (1 : Nat) true y4) ∧ True) ∧ ∃ (y5 : LInv.ι L9), ((chkQ (Prod.fst y5) = (0 : Int) ∧ (∀ (y6 : List Int), y6 ∈ Prod.fst (Prod.fst y5) → (∀ (y7 : Int), y7 ∈
y6 → (0 : Int) ≤ y7 ∧ y7 < (256 : Int)) ∧ List.length y6 ≤ (200 : Nat)) ∧ List.length (Prod.fst (Prod.fst y5)) ≤ (100 : Nat)) ∧ (∀ (y6 : List Int), y6 ∈ Prod.fst (Prod.snd y5) → (∀ (y7 : Int), y7 ∈ y6
→ (0 : Int) ≤ y7 ∧ y7 < (256 : Int)) ∧ List.length y6 ≤ (200 : Nat)) ∧ Prod.snd (Prod.snd y5) ≤ List.length (Prod.fst (Prod.snd y5)) ∧ List.length (Prod.fst (Prod.snd y5)) ≤ (100 : Nat)) ∧ LInv.μ L9
y5 < LInv.μ L9 a ∧ (∀ (y6 : LInv.Ω L9), LInv.PE L9 y5 y6 → chkQ y6 = (0 : Int) ∧ (∀ (y7 : List Int), y7 ∈ Prod.fst y6 → (∀ (y8 : Int), y8 ∈ y7 → (0 : Int) ≤ y8 ∧ y8 < (256 : Int)) ∧ List.length y7 ≤
(200 : Nat)) ∧ List.length (Prod.fst y6) ≤ (100 : Nat)) ∧ (∀ (y6 : LInv.Ρ L9), LInv.PR L9 y5 y6 → False) ∧ (True ∧ (List.length (Prod.fst (Prod.snd a)) = List.length (Prod.fst (Prod.snd y5)) ∧ SC.rows
eT (1 : Nat) (2 : Nat) false (Prod.fst (Prod.snd a)) = SC.rows eT (1 : Nat) (2 : Nat) false (Prod.fst (Prod.snd y5))) ∧ (0 : Nat) = (0 : Nat) ∧ True ∧ false = false ∧ true = true ∧ ((0 : Nat) = (0 :
Nat) ∧ List.length (listQ (Prod.fst a)) + (1 : Nat) = List.length (listQ (Prod.fst y5))) ∧ True ∧ (↑(List.length (Prod.fst (Prod.fst a))) : Int) = (↑(List.length (Prod.fst (Prod.fst y5))) : Int) ∧
IntKind.wrap IntKind.i64 ((↑(Prod.snd (Prod.snd a)) : Int) + (1 : Int)) = (↑(Prod.snd (Prod.snd y5)) : Int) ∧ True ∧ True ∧ True ∧ True ∧ True ∧ True ∧ True ∧ True ∧ True ∧ True ∧ True ∧ True ∧ True ∧
True ∧ True ∧ True ∧ True ∧ True ∧ True ∧ True ∧ True ∧ True ∧ True ∧ True ∧ True ∧ True ∧ True ∧ True ∧ True ∧ True ∧ True ∧ True ∧ True ∧ True ∧ True ∧ True ∧ True ∧ True ∧ True ∧ True ∧ True ∧ True
∧ True ∧ True ∧ True ∧ True ∧ True ∧ True ∧ True ∧ True ∧ True ∧ True ∧ True ∧ True ∧ True ∧ True ∧ True ∧ True ∧ True ∧ True ∧ True ∧ True ∧ True ∧ True ∧ True ∧ True ∧ True ∧ True ∧ True ∧ True ∧
True ∧ True ∧ True ∧ True ∧ True ∧ True ∧ True ∧ True ∧ True ∧ True ∧ True ∧ True ∧ True ∧ True ∧ True ∧ True ∧ True ∧ True ∧ True ∧ True ∧ True ∧ True ∧ True ∧ True ∧ True ∧ True ∧ True ∧ True ∧ True
∧ True ∧ True ∧ True ∧ True ∧ True ∧ True ∧ True ∧ True ∧ True ∧ True ∧ True ∧ True ∧ True ∧ True ∧ True ∧ True ∧ True ∧ True ∧ True ∧ True ∧ True ∧ True ∧ True ∧ True ∧ True ∧ True ∧ True) ∧
((List.length (Prod.fst (pushQ (Prod.fst y2) (Prod.snd y2))) = List.length (Prod.fst (Prod.fst y5)) ∧ SC.rows eT (1 : Nat) (2 : Nat) false (Prod.fst (pushQ (Prod.fst y2) (Prod.snd y2))) = SC.rows eT
(1 : Nat) (2 : Nat) false (Prod.fst (Prod.fst y5))) ∧ Prod.fst (Prod.snd (pushQ (Prod.fst y2) (Prod.snd y2))) = Prod.fst (Prod.snd (Prod.fst y5)) ∧ Prod.snd (Prod.snd (pushQ (Prod.fst y2) (Prod.snd
y2))) = Prod.snd (Prod.snd (Prod.fst y5)) ∧ True) ∧ SC.rows eT (1 : Nat) (2 : Nat) false (rdrop (SN.lit (0 : Nat)) (listQ (Prod.fst a)) ++ [y4]) = SC.rows eT (1 : Nat) (2 : Nat) false (listQ (Prod.fst
y5)) ∧ True) ∧ (¬pushE (Prod.fst y2) = (0 : Int) → ∃ (y3 : LInv.ι L9), ((chkQ (Prod.fst y3) = (0 : Int) ∧ (∀ (y4 : List Int), y4 ∈ Prod.fst (Prod.fst y3) → (∀ (y5 : Int), y5 ∈ y4 → (0 : Int) ≤ y5 ∧ y5
< (256 : Int)) ∧ List.length y4 ≤ (200 : Nat)) ∧ List.length (Prod.fst (Prod.fst y3)) ≤ (100 : Nat)) ∧ (∀ (y4 : List Int), y4 ∈ Prod.fst (Prod.snd y3) → (∀ (y5 : Int), y5 ∈ y4 → (0 : Int) ≤ y5 ∧ y5 <
(256 : Int)) ∧ List.length y4 ≤ (200 : Nat)) ∧ Prod.snd (Prod.snd y3) ≤ List.length (Prod.fst (Prod.snd y3)) ∧ List.length (Prod.fst (Prod.snd y3)) ≤ (100 : Nat)) ∧ LInv.μ L9 y3 < LInv.μ L9 a ∧ (∀ (y4
: LInv.Ω L9), LInv.PE L9 y3 y4 → chkQ y4 = (0 : Int) ∧ (∀ (y5 : List Int), y5 ∈ Prod.fst y4 → (∀ (y6 : Int), y6 ∈ y5 → (0 : Int) ≤ y6 ∧ y6 < (256 : Int)) ∧ List.length y5 ≤ (200 : Nat)) ∧ List.length
(Prod.fst y4) ≤ (100 : Nat)) ∧ (∀ (y4 : LInv.Ρ L9), LInv.PR L9 y3 y4 → False) ∧ (True ∧ (List.length (Prod.fst (Prod.snd a)) = List.length (Prod.fst (Prod.snd y3)) ∧ SC.rows eT (1 : Nat) (2 : Nat)
false (Prod.fst (Prod.snd a)) = SC.rows eT (1 : Nat) (2 : Nat) false (Prod.fst (Prod.snd y3))) ∧ (0 : Nat) = (0 : Nat) ∧ True ∧ false = false ∧ true = true ∧ ((0 : Nat) = (0 : Nat) ∧ List.length
(listQ (Prod.fst a)) = List.length (listQ (Prod.fst y3))) ∧ True ∧ (↑(List.length (Prod.fst (Prod.fst a))) : Int) = (↑(List.length (Prod.fst (Prod.fst y3))) : Int) ∧ IntKind.wrap IntKind.i64
((↑(Prod.snd (Prod.snd a)) : Int) + (1 : Int)) = (↑(Prod.snd (Prod.snd y3)) : Int) ∧ True ∧ True ∧ True ∧ True ∧ True ∧ True ∧ True ∧ True ∧ True ∧ True ∧ True ∧ True ∧ True ∧ True ∧ True ∧ True ∧
True ∧ True ∧ True ∧ True ∧ True ∧ True ∧ True ∧ True ∧ True ∧ True ∧ True ∧ True ∧ True ∧ True ∧ True ∧ True ∧ True ∧ True ∧ True ∧ True ∧ True ∧ True ∧ True ∧ True ∧ True ∧ True ∧ True ∧ True ∧ True
∧ True ∧ True ∧ True ∧ True ∧ True ∧ True ∧ True ∧ True ∧ True ∧ True ∧ True ∧ True ∧ True ∧ True ∧ True ∧ True ∧ True ∧ True ∧ True ∧ True ∧ True ∧ True ∧ True ∧ True ∧ True ∧ True ∧ True ∧ True ∧
True ∧ True ∧ True ∧ True ∧ True ∧ True ∧ True ∧ True ∧ True ∧ True ∧ True ∧ True ∧ True ∧ True ∧ True ∧ True ∧ True ∧ True ∧ True ∧ True ∧ True ∧ True ∧ True ∧ True ∧ True ∧ True ∧ True ∧ True ∧ True
∧ True ∧ True ∧ True ∧ True ∧ True ∧ True ∧ True ∧ True ∧ True ∧ True ∧ True ∧ True ∧ True ∧ True ∧ True ∧ True ∧ True ∧ True ∧ True ∧ True ∧ True ∧ True ∧ True ∧ True) ∧ ((List.length (Prod.fst
(Prod.fst a)) = List.length (Prod.fst (Prod.fst y3)) ∧ SC.rows eT (1 : Nat) (2 : Nat) false (Prod.fst (Prod.fst a)) = SC.rows eT (1 : Nat) (2 : Nat) false (Prod.fst (Prod.fst y3))) ∧ Prod.fst
(Prod.snd (Prod.fst a)) = Prod.fst (Prod.snd (Prod.fst y3)) ∧ Prod.snd (Prod.snd (Prod.fst a)) = Prod.snd (Prod.snd (Prod.fst y3)) ∧ True) ∧ SC.rows eT (1 : Nat) (2 : Nat) false (listQ (Prod.fst a)) =
SC.rows eT (1 : Nat) (2 : Nat) false (listQ (Prod.fst y3)) ∧ True)))) ∧ (¬(↑(Prod.snd (Prod.snd a)) : Int) < (↑(List.length (Prod.fst (Prod.snd a))) : Int) → ∃ (y1 : LInv.Ω L9), (chkQ y1 = (0 : Int) ∧
(∀ (y2 : List Int), y2 ∈ Prod.fst y1 → (∀ (y3 : Int), y3 ∈ y2 → (0 : Int) ≤ y3 ∧ y3 < (256 : Int)) ∧ List.length y2 ≤ (200 : Nat)) ∧ List.length (Prod.fst y1) ≤ (100 : Nat)) ∧ (True ∧ True ∧ (0 : Nat)
= (0 : Nat) ∧ True ∧ false = false ∧ true = true ∧ ((0 : Nat) = (0 : Nat) ∧ List.length (listQ (Prod.fst a)) = List.length (listQ y1)) ∧ True ∧ True ∧ True ∧ True ∧ True ∧ True ∧ True ∧ True ∧ True ∧
True ∧ True ∧ True ∧ True ∧ True ∧ True ∧ True ∧ True ∧ True ∧ True ∧ True ∧ True ∧ True ∧ True ∧ True ∧ True ∧ True ∧ True ∧ True ∧ True ∧ True ∧ True ∧ True ∧ True ∧ True ∧ True ∧ True ∧ True ∧ True
∧ True ∧ True ∧ True ∧ True ∧ True ∧ True ∧ True ∧ True ∧ True ∧ True ∧ True ∧ True ∧ True ∧ True ∧ True ∧ True ∧ True ∧ True ∧ True ∧ True ∧ True ∧ True ∧ True ∧ True ∧ True ∧ True ∧ True ∧ True ∧
True ∧ True ∧ True ∧ True ∧ True ∧ True ∧ True ∧ True ∧ True ∧ True ∧ True ∧ True ∧ True ∧ True ∧ True ∧ True ∧ True ∧ True ∧ True ∧ True ∧ True ∧ True ∧ True ∧ True ∧ True ∧ True ∧ True ∧ True ∧ True
∧ True ∧ True ∧ True ∧ True ∧ True ∧ True ∧ True ∧ True ∧ True ∧ True ∧ True ∧ True ∧ True ∧ True ∧ True ∧ True ∧ True ∧ True ∧ True ∧ True ∧ True ∧ True ∧ True ∧ True ∧ True ∧ True ∧ True ∧ True ∧
True ∧ True ∧ True ∧ True ∧ True ∧ True) ∧ ((List.length (Prod.fst (Prod.fst a)) = List.length (Prod.fst y1) ∧ SC.rows eT (1 : Nat) (2 : Nat) false (Prod.fst (Prod.fst a)) = SC.rows eT (1 : Nat) (2 :
Nat) false (Prod.fst y1)) ∧ Prod.fst (Prod.snd (Prod.fst a)) = Prod.fst (Prod.snd y1) ∧ Prod.snd (Prod.snd (Prod.fst a)) = Prod.snd (Prod.snd y1) ∧ True) ∧ SC.rows eT (1 : Nat) (2 : Nat) false (listQ
(Prod.fst a)) = SC.rows eT (1 : Nat) (2 : Nat) false (listQ y1) ∧ True)) := by kernel_rfl
theorem vc_L18 (a : L18.ι) : (sexec sxL Try.prog cfR 1000 (loopBody Try.prog 5 1) (L18.I a) (L18.round 2000 a)) = (((↑(Prod.snd (Prod.snd a)) : Int) < (↑(List.length (Prod.fst (Prod.snd a))) : Int) → ∃ (y1 : Qu), (((List.length (Prod.fst (Prod.fst a)) = List.length (Prod.fst y1) ∧ SC.rows eT (1 : Nat) (2 : Nat)
false (Prod.fst (Prod.fst a)) = SC.rows eT (1 : Nat) (2 : Nat) false (Prod.fst y1)) ∧ Prod.fst (Prod.snd (Prod.fst a)) = Prod.fst (Prod.snd y1) ∧ Prod.snd (Prod.snd (Prod.fst a)) = Prod.snd (Prod.snd
y1) ∧ True) ∧ True) ∧ ((∀ (y2 : List Int), y2 ∈ Prod.fst y1 → (∀ (y3 : Int), y3 ∈ y2 → (0 : Int) ≤ y3 ∧ y3 < (256 : Int)) ∧ List.length y2 ≤ (200 : Nat)) ∧ List.length (Prod.fst y1) ≤ (100 : Nat)) ∧
(¬popE y1 = (0 : Int) → ∃ (y2 : LInv.Ρ L18), False ∧ (True ∧ True ∧ True ∧ True ∧ True ∧ True ∧ True ∧ True ∧ True ∧ True ∧ True ∧ True ∧ True ∧ True ∧ True ∧ True ∧ True ∧ True ∧ True ∧ True ∧ True ∧
True ∧ True ∧ True ∧ True ∧ True ∧ True ∧ True ∧ True ∧ True ∧ True ∧ True ∧ True ∧ True ∧ True ∧ True ∧ True ∧ True ∧ True ∧ True ∧ True ∧ True ∧ True ∧ True ∧ True ∧ True ∧ True ∧ True ∧ True ∧ True
∧ True ∧ True ∧ True ∧ True ∧ True ∧ True ∧ True ∧ True ∧ True ∧ True ∧ True ∧ True ∧ True ∧ True ∧ True ∧ True ∧ True ∧ True ∧ True ∧ True ∧ True ∧ True ∧ True ∧ True ∧ True ∧ True ∧ True ∧ True ∧
True ∧ True ∧ True ∧ True ∧ True ∧ True ∧ True ∧ True ∧ True ∧ True ∧ True ∧ True ∧ True ∧ True ∧ True ∧ True ∧ True ∧ True ∧ True ∧ True ∧ True ∧ True ∧ True ∧ True ∧ True ∧ True ∧ True ∧ True ∧ True
∧ True ∧ True ∧ True ∧ True ∧ True ∧ True ∧ True ∧ True ∧ True ∧ True ∧ True ∧ True ∧ True ∧ True ∧ True ∧ True ∧ True ∧ True ∧ True ∧ True ∧ True ∧ True ∧ True ∧ True ∧ True ∧ True ∧ True ∧ True ∧
True) ∧ True) ∧ (¬¬popE y1 = (0 : Int) → List.length (popB y1) ≤ List.length (popB y1) ∧ ∃ (y2 : List Int), SC.rows eB (1 : Nat) (1 : Nat) true (List.take (List.length (popB y1)) (rdrop (SN.lit (0 :
Nat)) (popB y1))) = SC.rows eB (1 : Nat) (1 : Nat) true y2 ∧ (0 : Int) ≤ (↑(Prod.snd (Prod.snd a)) : Int) ∧ (↑(Prod.snd (Prod.snd a)) : Int) < (↑(List.length (Prod.fst (Prod.snd a))) : Int) ∧
Int.toNat (↑(Prod.snd (Prod.snd a)) : Int) < List.length (Prod.fst (Prod.snd a)) ∧ ∀ (y3 : List Int), (Prod.fst (Prod.snd a))[Int.toNat (↑(Prod.snd (Prod.snd a)) : Int)]? = some y3 → List.length y3 ≤
List.length y3 ∧ ∃ (y4 : List Int), SC.rows eB (1 : Nat) (1 : Nat) true (List.take (List.length y3) (rdrop (SN.lit (0 : Nat)) y3)) = SC.rows eB (1 : Nat) (1 : Nat) true y4 ∧ isBytes y2 ∧ isBytes y4 ∧
(¬y2 = y4 → ∃ (y5 : LInv.Ρ L18), False ∧ (True ∧ True ∧ True ∧ True ∧ True ∧ True ∧ True ∧ True ∧ True ∧ True ∧ True ∧ True ∧ True ∧ True ∧ True ∧ True ∧ True ∧ True ∧ True ∧ True ∧ True ∧ True ∧ True
∧ True ∧ True ∧ True ∧ True ∧ True ∧ True ∧ True ∧ True ∧ True ∧ True ∧ True ∧ True ∧ True ∧ True ∧ True ∧ True ∧ True ∧ True ∧ True ∧ True ∧ True ∧ True ∧ True ∧ True ∧ True ∧ True ∧ True ∧ True ∧
True ∧ True ∧ True ∧ True ∧ True ∧ True ∧ True ∧ True ∧ True ∧ True ∧ True ∧ True ∧ True ∧ True ∧ True ∧ True ∧ True ∧ True ∧ True ∧ True ∧ True ∧ True ∧ True ∧ True ∧ True ∧ True ∧ True ∧ True ∧ True
∧ True ∧ True ∧ True ∧ True ∧ True ∧ True ∧ True ∧ True ∧ True ∧ True ∧ True ∧ True ∧ True ∧ True ∧ True ∧ True ∧ True ∧ True ∧ True ∧ True ∧ True ∧ True ∧ True ∧ True ∧ True ∧ True ∧ True ∧ True ∧
True ∧ True ∧ True ∧ True ∧ True ∧ True ∧ True ∧ True ∧ True ∧ True ∧ True ∧ True ∧ True ∧ True ∧ True ∧ True ∧ True ∧ True ∧ True ∧ True ∧ True ∧ True ∧ True ∧ True ∧ True ∧ True ∧ True ∧ True) ∧
True) ∧ (¬¬y2 = y4 → ∃ (y5 : Qu), (((List.length (Prod.fst (popQ y1)) = List.length (Prod.fst y5) ∧ SC.rows eT (1 : Nat) (2 : Nat) false (Prod.fst (popQ y1)) = SC.rows eT (1 : Nat) (2 : Nat) false
(Prod.fst y5)) ∧ Prod.fst (Prod.snd (popQ y1)) = Prod.fst (Prod.snd y5) ∧ Prod.snd (Prod.snd (popQ y1)) = Prod.snd (Prod.snd y5) ∧ True) ∧ True) ∧ ((∀ (y6 : List Int), y6 ∈ Prod.fst y5 → (∀ (y7 :
Int), y7 ∈ y6 → (0 : Int) ≤ y7 ∧ y7 < (256 : Int)) ∧ List.length y6 ≤ (200 : Nat)) ∧ List.length (Prod.fst y5) ≤ (100 : Nat)) ∧ (¬chkQ y5 = (0 : Int) → ∃ (y6 : LInv.Ρ L18), False ∧ (True ∧ True ∧ True
∧ True ∧ True ∧ True ∧ True ∧ True ∧ True ∧ True ∧ True ∧ True ∧ True ∧ True ∧ True ∧ True ∧ True ∧ True ∧ True ∧ True ∧ True ∧ True ∧ True ∧ True ∧ True ∧ True ∧ True ∧ True ∧ True ∧ True ∧ True ∧
True ∧ True ∧ True ∧ True ∧ True ∧ True ∧ True ∧ True ∧ True ∧ True ∧ True ∧ True ∧ True ∧ True ∧ True ∧ True ∧ True ∧ True ∧ True ∧ True ∧ True ∧ True ∧ True ∧ True ∧ True ∧ True ∧ True ∧ True ∧ True
∧ True ∧ True ∧ True ∧ True ∧ True ∧ True ∧ True ∧ True ∧ True ∧ True ∧ True ∧ True ∧ True ∧ True ∧ True ∧ True ∧ True ∧ True ∧ True ∧ True ∧ True ∧ True ∧ True ∧ True ∧ True ∧ True ∧ True ∧ True ∧
True ∧ True ∧ True ∧ True ∧ True ∧ True ∧ True ∧ True ∧ True ∧ True ∧ True ∧ True ∧ True ∧ True ∧ True ∧ True ∧ True ∧ True ∧ True ∧ True ∧ True ∧ True ∧ True ∧ True ∧ True ∧ True ∧ True ∧ True ∧ True
∧ True ∧ True ∧ True ∧ True ∧ True ∧ True ∧ True ∧ True ∧ True ∧ True ∧ True ∧ True ∧ True ∧ True ∧ True ∧ True ∧ True ∧ True ∧ True) ∧ True) ∧ (¬¬chkQ y5 = (0 : Int) → ∃ (y6 : LInv.ι L18), ((chkQ
(Prod.fst y6) = (0 : Int) ∧ (∀ (y7 : List Int), y7 ∈ Prod.fst (Prod.fst y6) → (∀ (y8 : Int), y8 ∈ y7 → (0 : Int) ≤ y8 ∧ y8 < (256 : Int)) ∧ List.length y7 ≤ (200 : Nat)) ∧ List.length (Prod.fst
(Prod.fst y6)) ≤ (100 : Nat)) ∧ listQ (Prod.fst y6) = List.drop (Prod.snd (Prod.snd y6)) (Prod.fst (Prod.snd y6)) ∧ Prod.snd (Prod.snd y6) ≤ List.length (Prod.fst (Prod.snd y6)) ∧ List.length
(Prod.fst (Prod.snd y6)) ≤ (100 : Nat)) ∧ LInv.μ L18 y6 < LInv.μ L18 a ∧ (∀ (y7 : LInv.Ω L18), LInv.PE L18 y6 y7 → (chkQ y7 = (0 : Int) ∧ (∀ (y8 : List Int), y8 ∈ Prod.fst y7 → (∀ (y9 : Int), y9 ∈ y8
→ (0 : Int) ≤ y9 ∧ y9 < (256 : Int)) ∧ List.length y8 ≤ (200 : Nat)) ∧ List.length (Prod.fst y7) ≤ (100 : Nat)) ∧ listQ y7 = []) ∧ (∀ (y7 : LInv.Ρ L18), LInv.PR L18 y6 y7 → False) ∧ (True ∧ True ∧ (0
: Nat) = (0 : Nat) ∧ True ∧ false = false ∧ true = true ∧ ((0 : Nat) = (0 : Nat) ∧ List.length (Prod.fst (Prod.snd a)) = List.length (Prod.fst (Prod.snd y6))) ∧ True ∧ True ∧ True ∧ True ∧ True ∧
IntKind.wrap IntKind.i64 ((↑(Prod.snd (Prod.snd a)) : Int) + (1 : Int)) = (↑(Prod.snd (Prod.snd y6)) : Int) ∧ True ∧ True ∧ True ∧ True ∧ True ∧ True ∧ True ∧ True ∧ True ∧ True ∧ True ∧ True ∧ True ∧
True ∧ True ∧ True ∧ True ∧ True ∧ True ∧ True ∧ True ∧ True ∧ True ∧ True ∧ True ∧ True ∧ True ∧ True ∧ True ∧ True ∧ True ∧ True ∧ True ∧ True ∧ True ∧ True ∧ True ∧ True ∧ True ∧ True ∧ True ∧ True
∧ True ∧ True ∧ True ∧ True ∧ True ∧ True ∧ True ∧ True ∧ True ∧ True ∧ True ∧ True ∧ True ∧ True ∧ True ∧ True ∧ True ∧ True ∧ True ∧ True ∧ True ∧ True ∧ True ∧ True ∧ True ∧ True ∧ True ∧ True ∧
True ∧ True ∧ True ∧ True ∧ True ∧ True ∧ True ∧ True ∧ True ∧ True ∧ True ∧ True ∧ True ∧ True ∧ True ∧ True ∧ True ∧ True ∧ True ∧ True ∧ True ∧ True ∧ True ∧ True ∧ True ∧ True ∧ True ∧ True ∧ True
∧ True ∧ True ∧ True ∧ True ∧ True ∧ True ∧ True ∧ True ∧ True ∧ True ∧ True ∧ True ∧ True ∧ True ∧ True ∧ True ∧ True ∧ True ∧ True ∧ True ∧ True ∧ True ∧ True ∧ True) ∧ ((List.length (Prod.fst (popQ
y1)) = List.length (Prod.fst (Prod.fst y6)) ∧ SC.rows eT (1 : Nat) (2 : Nat) false (Prod.fst (popQ y1)) = SC.rows eT (1 : Nat) (2 : Nat) false (Prod.fst (Prod.fst y6))) ∧ Prod.fst (Prod.snd (popQ y1))
= Prod.fst (Prod.snd (Prod.fst y6)) ∧ Prod.snd (Prod.snd (popQ y1)) = Prod.snd (Prod.snd (Prod.fst y6)) ∧ True) ∧ SC.rows eT (1 : Nat) (2 : Nat) false (Prod.fst (Prod.snd a)) = SC.rows eT (1 : Nat) (2
: Nat) false (Prod.fst (Prod.snd y6)) ∧ True)))) ∧ (¬(↑(Prod.snd (Prod.snd a)) : Int) < (↑(List.length (Prod.fst (Prod.snd a))) : Int) → ∃ (y1 : LInv.Ω L18), ((chkQ y1 = (0 : Int) ∧ (∀ (y2 : List
Int), y2 ∈ Prod.fst y1 → (∀ (y3 : Int), y3 ∈ y2 → (0 : Int) ≤ y3 ∧ y3 < (256 : Int)) ∧ List.length y2 ≤ (200 : Nat)) ∧ List.length (Prod.fst y1) ≤ (100 : Nat)) ∧ listQ y1 = []) ∧ (True ∧ True ∧ (0 :
Nat) = (0 : Nat) ∧ True ∧ True ∧ true = true ∧ True ∧ True ∧ True ∧ True ∧ True ∧ True ∧ True ∧ True ∧ True ∧ True ∧ True ∧ True ∧ True ∧ True ∧ True ∧ True ∧ True ∧ True ∧ True ∧ True ∧ True ∧ True ∧
True ∧ True ∧ True ∧ True ∧ True ∧ True ∧ True ∧ True ∧ True ∧ True ∧ True ∧ True ∧ True ∧ True ∧ True ∧ True ∧ True ∧ True ∧ True ∧ True ∧ True ∧ True ∧ True ∧ True ∧ True ∧ True ∧ True ∧ True ∧ True
∧ True ∧ True ∧ True ∧ True ∧ True ∧ True ∧ True ∧ True ∧ True ∧ True ∧ True ∧ True ∧ True ∧ True ∧ True ∧ True ∧ True ∧ True ∧ True ∧ True ∧ True ∧ True ∧ True ∧ True ∧ True ∧ True ∧ True ∧ True ∧
True ∧ True ∧ True ∧ True ∧ True ∧ True ∧ True ∧ True ∧ True ∧ True ∧ True ∧ True ∧ True ∧ True ∧ True ∧ True ∧ True ∧ True ∧ True ∧ True ∧ True ∧ True ∧ True ∧ True ∧ True ∧ True ∧ True ∧ True ∧ True
∧ True ∧ True ∧ True ∧ True ∧ True ∧ True ∧ True ∧ True ∧ True ∧ True ∧ True ∧ True ∧ True ∧ True ∧ True ∧ True ∧ True ∧ True ∧ True ∧ True ∧ True ∧ True) ∧ ((List.length (Prod.fst (Prod.fst a)) =
List.length (Prod.fst y1) ∧ SC.rows eT (1 : Nat) (2 : Nat) false (Prod.fst (Prod.fst a)) = SC.rows eT (1 : Nat) (2 : Nat) false (Prod.fst y1)) ∧ Prod.fst (Prod.snd (Prod.fst a)) = Prod.fst (Prod.snd
y1) ∧ Prod.snd (Prod.snd (Prod.fst a)) = Prod.snd (Prod.snd y1) ∧ True) ∧ True)) := by kernel_rfl
theorem vc_order (q : Qu) (w : List (List Int)) : (scallI sxM Try.prog cfR (sexec sxM Try.prog cfR 1000) 5 0 [qS q, rows2 w] (post (.bool (.lit true)))) = (∃ (y2 : Unit), True ∧ True ∧ ∃ (y3 : Qu), (((List.length (Prod.fst q) = List.length (Prod.fst y3) ∧ SC.rows eT (1 : Nat) (2 : Nat) false (Prod.fst q) = SC.rows eT (1 : Nat) (2 : Nat) false (Prod.fst
y3)) ∧ Prod.fst (Prod.snd q) = Prod.fst (Prod.snd y3) ∧ Prod.snd (Prod.snd q) = Prod.snd (Prod.snd y3) ∧ True) ∧ True) ∧ True ∧ (greatP y3 → true = true) ∧ (¬greatP y3 → ∃ (y4 : Qu), (((List.length w
= List.length (Prod.fst y4) ∧ SC.rows eT (1 : Nat) (2 : Nat) false w = SC.rows eT (1 : Nat) (2 : Nat) false (Prod.fst y4)) ∧ (0 : Int) = Prod.fst (Prod.snd y4) ∧ (0 : Int) = Prod.snd (Prod.snd y4) ∧
True) ∧ True) ∧ True ∧ (greatP y4 → true = true) ∧ (¬greatP y4 → ∃ (y5 : Qu), (((List.length (Prod.fst q) = List.length (Prod.fst y5) ∧ SC.rows eT (1 : Nat) (2 : Nat) false (Prod.fst q) = SC.rows eT
(1 : Nat) (2 : Nat) false (Prod.fst y5)) ∧ Prod.fst (Prod.snd q) = Prod.fst (Prod.snd y5) ∧ Prod.snd (Prod.snd q) = Prod.snd (Prod.snd y5) ∧ True) ∧ True) ∧ ((∀ (y6 : List Int), y6 ∈ Prod.fst y5 → (∀
(y7 : Int), y7 ∈ y6 → (0 : Int) ≤ y7 ∧ y7 < (256 : Int)) ∧ List.length y6 ≤ (200 : Nat)) ∧ List.length (Prod.fst y5) ≤ (100 : Nat)) ∧ (chkQ y5 = (0 : Int) → SameCode (loopBody Try.prog (5 : Nat) (0 :
Nat)) (loopBody Try.prog (5 : Nat) (0 : Nat)) ∧ ∃ (y6 : LInv.ι L9), ((chkQ (Prod.fst y6) = (0 : Int) ∧ (∀ (y7 : List Int), y7 ∈ Prod.fst (Prod.fst y6) → (∀ (y8 : Int), y8 ∈ y7 → (0 : Int) ≤ y8 ∧ y8 <
(256 : Int)) ∧ List.length y7 ≤ (200 : Nat)) ∧ List.length (Prod.fst (Prod.fst y6)) ≤ (100 : Nat)) ∧ (∀ (y7 : List Int), y7 ∈ Prod.fst (Prod.snd y6) → (∀ (y8 : Int), y8 ∈ y7 → (0 : Int) ≤ y8 ∧ y8 <
(256 : Int)) ∧ List.length y7 ≤ (200 : Nat)) ∧ Prod.snd (Prod.snd y6) ≤ List.length (Prod.fst (Prod.snd y6)) ∧ List.length (Prod.fst (Prod.snd y6)) ≤ (100 : Nat)) ∧ ((True ∧ (List.length w =
List.length (Prod.fst (Prod.snd y6)) ∧ SC.rows eT (1 : Nat) (2 : Nat) false w = SC.rows eT (1 : Nat) (2 : Nat) false (Prod.fst (Prod.snd y6))) ∧ (0 : Nat) = (0 : Nat) ∧ True ∧ false = false ∧ true =
true ∧ ((0 : Nat) = (0 : Nat) ∧ List.length (listQ y5) = List.length (listQ (Prod.fst y6))) ∧ True ∧ (↑(List.length (Prod.fst q)) : Int) = (↑(List.length (Prod.fst (Prod.fst y6))) : Int) ∧ (0 : Int) =
(↑(Prod.snd (Prod.snd y6)) : Int) ∧ True ∧ True ∧ True ∧ True ∧ True ∧ True ∧ True ∧ True ∧ True ∧ True ∧ True ∧ True ∧ True ∧ True ∧ True ∧ True ∧ True ∧ True ∧ True ∧ True ∧ True ∧ True ∧ True ∧
True ∧ True ∧ True ∧ True ∧ True ∧ True ∧ True ∧ True ∧ True ∧ True ∧ True ∧ True ∧ True ∧ True ∧ True ∧ True ∧ True ∧ True ∧ True ∧ True ∧ True ∧ True ∧ True ∧ True ∧ True ∧ True ∧ True ∧ True ∧ True
∧ True ∧ True ∧ True ∧ True ∧ True ∧ True ∧ True ∧ True ∧ True ∧ True ∧ True ∧ True ∧ True ∧ True ∧ True ∧ True ∧ True ∧ True ∧ True ∧ True ∧ True ∧ True ∧ True ∧ True ∧ True ∧ True ∧ True ∧ True ∧
True ∧ True ∧ True ∧ True ∧ True ∧ True ∧ True ∧ True ∧ True ∧ True ∧ True ∧ True ∧ True ∧ True ∧ True ∧ True ∧ True ∧ True ∧ True ∧ True ∧ True ∧ True ∧ True ∧ True ∧ True ∧ True ∧ True ∧ True ∧ True
∧ True ∧ True ∧ True ∧ True ∧ True ∧ True ∧ True ∧ True ∧ True ∧ True ∧ True ∧ True ∧ True ∧ True ∧ True ∧ True ∧ True) ∧ ((List.length (Prod.fst q) = List.length (Prod.fst (Prod.fst y6)) ∧ SC.rows eT
(1 : Nat) (2 : Nat) false (Prod.fst q) = SC.rows eT (1 : Nat) (2 : Nat) false (Prod.fst (Prod.fst y6))) ∧ Prod.fst (Prod.snd q) = Prod.fst (Prod.snd (Prod.fst y6)) ∧ Prod.snd (Prod.snd q) = Prod.snd
(Prod.snd (Prod.fst y6)) ∧ True) ∧ SC.rows eT (1 : Nat) (2 : Nat) false (listQ y5) = SC.rows eT (1 : Nat) (2 : Nat) false (listQ (Prod.fst y6)) ∧ True) ∧ (∀ (y7 : LInv.ι L9), True) ∧ (∀ (y7 : LInv.Ω
L9), LInv.PE L9 y6 y7 → SameCode (loopBody Try.prog (5 : Nat) (1 : Nat)) (loopBody Try.prog (5 : Nat) (1 : Nat)) ∧ ∃ (y8 : LInv.ι L18), ((chkQ (Prod.fst y8) = (0 : Int) ∧ (∀ (y9 : List Int), y9 ∈
Prod.fst (Prod.fst y8) → (∀ (y10 : Int), y10 ∈ y9 → (0 : Int) ≤ y10 ∧ y10 < (256 : Int)) ∧ List.length y9 ≤ (200 : Nat)) ∧ List.length (Prod.fst (Prod.fst y8)) ≤ (100 : Nat)) ∧ listQ (Prod.fst y8) =
List.drop (Prod.snd (Prod.snd y8)) (Prod.fst (Prod.snd y8)) ∧ Prod.snd (Prod.snd y8) ≤ List.length (Prod.fst (Prod.snd y8)) ∧ List.length (Prod.fst (Prod.snd y8)) ≤ (100 : Nat)) ∧ ((True ∧ True ∧ (0 :
Nat) = (0 : Nat) ∧ True ∧ false = false ∧ true = true ∧ ((0 : Nat) = (0 : Nat) ∧ List.length (listQ y7) = List.length (Prod.fst (Prod.snd y8))) ∧ True ∧ True ∧ True ∧ True ∧ True ∧ (0 : Int) =
(↑(Prod.snd (Prod.snd y8)) : Int) ∧ True ∧ True ∧ True ∧ True ∧ True ∧ True ∧ True ∧ True ∧ True ∧ True ∧ True ∧ True ∧ True ∧ True ∧ True ∧ True ∧ True ∧ True ∧ True ∧ True ∧ True ∧ True ∧ True ∧
True ∧ True ∧ True ∧ True ∧ True ∧ True ∧ True ∧ True ∧ True ∧ True ∧ True ∧ True ∧ True ∧ True ∧ True ∧ True ∧ True ∧ True ∧ True ∧ True ∧ True ∧ True ∧ True ∧ True ∧ True ∧ True ∧ True ∧ True ∧ True
∧ True ∧ True ∧ True ∧ True ∧ True ∧ True ∧ True ∧ True ∧ True ∧ True ∧ True ∧ True ∧ True ∧ True ∧ True ∧ True ∧ True ∧ True ∧ True ∧ True ∧ True ∧ True ∧ True ∧ True ∧ True ∧ True ∧ True ∧ True ∧
True ∧ True ∧ True ∧ True ∧ True ∧ True ∧ True ∧ True ∧ True ∧ True ∧ True ∧ True ∧ True ∧ True ∧ True ∧ True ∧ True ∧ True ∧ True ∧ True ∧ True ∧ True ∧ True ∧ True ∧ True ∧ True ∧ True ∧ True ∧ True
∧ True ∧ True ∧ True ∧ True ∧ True ∧ True ∧ True ∧ True ∧ True ∧ True ∧ True ∧ True ∧ True ∧ True) ∧ ((List.length (Prod.fst y7) = List.length (Prod.fst (Prod.fst y8)) ∧ SC.rows eT (1 : Nat) (2 : Nat)
false (Prod.fst y7) = SC.rows eT (1 : Nat) (2 : Nat) false (Prod.fst (Prod.fst y8))) ∧ Prod.fst (Prod.snd y7) = Prod.fst (Prod.snd (Prod.fst y8)) ∧ Prod.snd (Prod.snd y7) = Prod.snd (Prod.snd
(Prod.fst y8)) ∧ True) ∧ SC.rows eT (1 : Nat) (2 : Nat) false (listQ y7) = SC.rows eT (1 : Nat) (2 : Nat) false (Prod.fst (Prod.snd y8)) ∧ True) ∧ (∀ (y9 : LInv.ι L18), True) ∧ (∀ (y9 : LInv.Ω L18),
LInv.PE L18 y8 y9 → ∃ (y10 : Qu), (((List.length (Prod.fst y9) = List.length (Prod.fst y10) ∧ SC.rows eT (1 : Nat) (2 : Nat) false (Prod.fst y9) = SC.rows eT (1 : Nat) (2 : Nat) false (Prod.fst y10))
∧ Prod.fst (Prod.snd y9) = Prod.fst (Prod.snd y10) ∧ Prod.snd (Prod.snd y9) = Prod.snd (Prod.snd y10) ∧ True) ∧ True) ∧ ((∀ (y11 : List Int), y11 ∈ Prod.fst y10 → (∀ (y12 : Int), y12 ∈ y11 → (0 : Int)
≤ y12 ∧ y12 < (256 : Int)) ∧ List.length y11 ≤ (200 : Nat)) ∧ List.length (Prod.fst y10) ≤ (100 : Nat)) ∧ (popE y10 = (6 : Int) ↔ true = true)) ∧ ∀ (y9 : LInv.Ρ L18), LInv.PR L18 y8 y9 → Stuck (71 :
Nat)) ∧ ∀ (y7 : LInv.Ρ L9), LInv.PR L9 y6 y7 → Stuck (71 : Nat)) ∧ (chkQ y5 ≠ (0 : Int) → (¬chkQ y5 = (0 : Int) → ∃ (y6 : Qu), (((List.length (Prod.fst q) = List.length (Prod.fst y6) ∧ SC.rows eT (1 :
Nat) (2 : Nat) false (Prod.fst q) = SC.rows eT (1 : Nat) (2 : Nat) false (Prod.fst y6)) ∧ Prod.fst (Prod.snd q) = Prod.fst (Prod.snd y6) ∧ Prod.snd (Prod.snd q) = Prod.snd (Prod.snd y6) ∧ True) ∧
True) ∧ ((∀ (y7 : List Int), y7 ∈ Prod.fst y6 → (∀ (y8 : Int), y8 ∈ y7 → (0 : Int) ≤ y8 ∧ y8 < (256 : Int)) ∧ List.length y7 ≤ (200 : Nat)) ∧ List.length (Prod.fst y6) ≤ (100 : Nat)) ∧ (chkQ y5 = chkQ
y6 ↔ true = true)) ∧ (¬¬chkQ y5 = (0 : Int) → SameCode (loopBody Try.prog (5 : Nat) (0 : Nat)) (loopBody Try.prog (5 : Nat) (0 : Nat)) ∧ ∃ (y6 : LInv.ι L9), ((chkQ (Prod.fst y6) = (0 : Int) ∧ (∀ (y7 :
List Int), y7 ∈ Prod.fst (Prod.fst y6) → (∀ (y8 : Int), y8 ∈ y7 → (0 : Int) ≤ y8 ∧ y8 < (256 : Int)) ∧ List.length y7 ≤ (200 : Nat)) ∧ List.length (Prod.fst (Prod.fst y6)) ≤ (100 : Nat)) ∧ (∀ (y7 :
List Int), y7 ∈ Prod.fst (Prod.snd y6) → (∀ (y8 : Int), y8 ∈ y7 → (0 : Int) ≤ y8 ∧ y8 < (256 : Int)) ∧ List.length y7 ≤ (200 : Nat)) ∧ Prod.snd (Prod.snd y6) ≤ List.length (Prod.fst (Prod.snd y6)) ∧
List.length (Prod.fst (Prod.snd y6)) ≤ (100 : Nat)) ∧ ((True ∧ (List.length w = List.length (Prod.fst (Prod.snd y6)) ∧ SC.rows eT (1 : Nat) (2 : Nat) false w = SC.rows eT (1 : Nat) (2 : Nat) false
(Prod.fst (Prod.snd y6))) ∧ (0 : Nat) = (0 : Nat) ∧ True ∧ false = false ∧ true = true ∧ Stuck (11 : Nat) ∧ True ∧ (↑(List.length (Prod.fst q)) : Int) = (↑(List.length (Prod.fst (Prod.fst y6))) : Int)
∧ (0 : Int) = (↑(Prod.snd (Prod.snd y6)) : Int) ∧ True ∧ True ∧ True ∧ True ∧ True ∧ True ∧ True ∧ True ∧ True ∧ True ∧ True ∧ True ∧ True ∧ True ∧ True ∧ True ∧ True ∧ True ∧ True ∧ True ∧ True ∧
True ∧ True ∧ True ∧ True ∧ True ∧ True ∧ True ∧ True ∧ True ∧ True ∧ True ∧ True ∧ True ∧ True ∧ True ∧ True ∧ True ∧ True ∧ True ∧ True ∧ True ∧ True ∧ True ∧ True ∧ True ∧ True ∧ True ∧ True ∧ True
∧ True ∧ True ∧ True ∧ True ∧ True ∧ True ∧ True ∧ True ∧ True ∧ True ∧ True ∧ True ∧ True ∧ True ∧ True ∧ True ∧ True ∧ True ∧ True ∧ True ∧ True ∧ True ∧ True ∧ True ∧ True ∧ True ∧ True ∧ True ∧
True ∧ True ∧ True ∧ True ∧ True ∧ True ∧ True ∧ True ∧ True ∧ True ∧ True ∧ True ∧ True ∧ True ∧ True ∧ True ∧ True ∧ True ∧ True ∧ True ∧ True ∧ True ∧ True ∧ True ∧ True ∧ True ∧ True ∧ True ∧ True
∧ True ∧ True ∧ True ∧ True ∧ True ∧ True ∧ True ∧ True ∧ True ∧ True ∧ True ∧ True ∧ True ∧ True ∧ True ∧ True ∧ True ∧ True ∧ True) ∧ ((List.length (Prod.fst q) = List.length (Prod.fst (Prod.fst
y6)) ∧ SC.rows eT (1 : Nat) (2 : Nat) false (Prod.fst q) = SC.rows eT (1 : Nat) (2 : Nat) false (Prod.fst (Prod.fst y6))) ∧ Prod.fst (Prod.snd q) = Prod.fst (Prod.snd (Prod.fst y6)) ∧ Prod.snd
(Prod.snd q) = Prod.snd (Prod.snd (Prod.fst y6)) ∧ True) ∧ Stuck (271 : Nat) ∧ True) ∧ (∀ (y7 : LInv.ι L9), True) ∧ (∀ (y7 : LInv.Ω L9), LInv.PE L9 y6 y7 → SameCode (loopBody Try.prog (5 : Nat) (1 :
Nat)) (loopBody Try.prog (5 : Nat) (1 : Nat)) ∧ ∃ (y8 : LInv.ι L18), ((chkQ (Prod.fst y8) = (0 : Int) ∧ (∀ (y9 : List Int), y9 ∈ Prod.fst (Prod.fst y8) → (∀ (y10 : Int), y10 ∈ y9 → (0 : Int) ≤ y10 ∧
y10 < (256 : Int)) ∧ List.length y9 ≤ (200 : Nat)) ∧ List.length (Prod.fst (Prod.fst y8)) ≤ (100 : Nat)) ∧ listQ (Prod.fst y8) = List.drop (Prod.snd (Prod.snd y8)) (Prod.fst (Prod.snd y8)) ∧ Prod.snd
(Prod.snd y8) ≤ List.length (Prod.fst (Prod.snd y8)) ∧ List.length (Prod.fst (Prod.snd y8)) ≤ (100 : Nat)) ∧ ((True ∧ True ∧ (0 : Nat) = (0 : Nat) ∧ True ∧ false = false ∧ true = true ∧ ((0 : Nat) =
(0 : Nat) ∧ List.length (listQ y7) = List.length (Prod.fst (Prod.snd y8))) ∧ True ∧ True ∧ True ∧ True ∧ True ∧ (0 : Int) = (↑(Prod.snd (Prod.snd y8)) : Int) ∧ True ∧ True ∧ True ∧ True ∧ True ∧ True
∧ True ∧ True ∧ True ∧ True ∧ True ∧ True ∧ True ∧ True ∧ True ∧ True ∧ True ∧ True ∧ True ∧ True ∧ True ∧ True ∧ True ∧ True ∧ True ∧ True ∧ True ∧ True ∧ True ∧ True ∧ True ∧ True ∧ True ∧ True ∧
True ∧ True ∧ True ∧ True ∧ True ∧ True ∧ True ∧ True ∧ True ∧ True ∧ True ∧ True ∧ True ∧ True ∧ True ∧ True ∧ True ∧ True ∧ True ∧ True ∧ True ∧ True ∧ True ∧ True ∧ True ∧ True ∧ True ∧ True ∧ True
∧ True ∧ True ∧ True ∧ True ∧ True ∧ True ∧ True ∧ True ∧ True ∧ True ∧ True ∧ True ∧ True ∧ True ∧ True ∧ True ∧ True ∧ True ∧ True ∧ True ∧ True ∧ True ∧ True ∧ True ∧ True ∧ True ∧ True ∧ True ∧
True ∧ True ∧ True ∧ True ∧ True ∧ True ∧ True ∧ True ∧ True ∧ True ∧ True ∧ True ∧ True ∧ True ∧ True ∧ True ∧ True ∧ True ∧ True ∧ True ∧ True ∧ True ∧ True ∧ True ∧ True ∧ True ∧ True ∧ True ∧ True
∧ True ∧ True ∧ True) ∧ ((List.length (Prod.fst y7) = List.length (Prod.fst (Prod.fst y8)) ∧ SC.rows eT (1 : Nat) (2 : Nat) false (Prod.fst y7) = SC.rows eT (1 : Nat) (2 : Nat) false (Prod.fst
(Prod.fst y8))) ∧ Prod.fst (Prod.snd y7) = Prod.fst (Prod.snd (Prod.fst y8)) ∧ Prod.snd (Prod.snd y7) = Prod.snd (Prod.snd (Prod.fst y8)) ∧ True) ∧ SC.rows eT (1 : Nat) (2 : Nat) false (listQ y7) =
SC.rows eT (1 : Nat) (2 : Nat) false (Prod.fst (Prod.snd y8)) ∧ True) ∧ (∀ (y9 : LInv.ι L18), True) ∧ (∀ (y9 : LInv.Ω L18), LInv.PE L18 y8 y9 → ∃ (y10 : Qu), (((List.length (Prod.fst y9) = List.length
(Prod.fst y10) ∧ SC.rows eT (1 : Nat) (2 : Nat) false (Prod.fst y9) = SC.rows eT (1 : Nat) (2 : Nat) false (Prod.fst y10)) ∧ Prod.fst (Prod.snd y9) = Prod.fst (Prod.snd y10) ∧ Prod.snd (Prod.snd y9) =
Prod.snd (Prod.snd y10) ∧ True) ∧ True) ∧ ((∀ (y11 : List Int), y11 ∈ Prod.fst y10 → (∀ (y12 : Int), y12 ∈ y11 → (0 : Int) ≤ y12 ∧ y12 < (256 : Int)) ∧ List.length y11 ≤ (200 : Nat)) ∧ List.length
(Prod.fst y10) ≤ (100 : Nat)) ∧ (popE y10 = (6 : Int) ↔ true = true)) ∧ ∀ (y9 : LInv.Ρ L18), LInv.PR L18 y8 y9 → Stuck (71 : Nat)) ∧ ∀ (y7 : LInv.Ρ L9), LInv.PR L9 y6 y7 → Stuck (71 : Nat)))))) := by kernel_rfl

end
end Go.Proofs.Ytnnfcebnmogdmaa.VM
/- Queues: what Push and Pop do to the items (plain laws). No conditions. -/
namespace Go.Proofs.Ytnnfcebnmogdmaa.VM
open Go Go.RowKit
set_option linter.unusedVariables false
set_option linter.unusedSimpArgs false
set_option maxRecDepth 100000
noncomputable section
theorem ixv {h n i : Nat} (hn : h < n) (hi : i ≤ n) : (h + i) % n = if h + i < n then h + i else h + i - n := by
  split
  · exact Nat.mod_eq_of_lt (by assumption)
  · rw [Nat.mod_eq_sub_mod (by omega), Nat.mod_eq_of_lt (by omega)]
theorem ix_ne {h n i j : Nat} (hn : h < n) (hi : i < n) (hj : j < n) (e : i ≠ j) : (h + i) % n ≠ (h + j) % n := by
  rw [ixv hn (by omega), ixv hn (by omega)]
  split <;> split <;> omega
theorem atN (l : List (List Int)) (h k : Nat) (m : Int) : atI (l, (h : Int), m) (k : Int) = (((h + k) % l.length : Nat) : Int) := by
  show ((h : Int) + (k : Int)) % (l.length : Int) = _
  rw [Int.natCast_emod, Int.natCast_add]
theorem atT (l : List (List Int)) (h k : Nat) (m : Int) : (atI (l, (h : Int), m) (k : Int)).toNat = (h + k) % l.length := by rw [atN, Int.toNat_natCast]
/-- A good queue, in whole numbers. -/
theorem gq_iff {l : List (List Int)} {h m : Nat} : gq (l, (h : Int), (m : Int)) ↔ All l ∧ 1 ≤ l.length ∧ l.length ≤ 64 ∧ h < l.length ∧ m ≤ l.length ∧ ∀ k, m ≤ k → k < l.length → ∀ x, l[(h + k) % l.length]? = some x → x.length = 0 := by
  constructor
  · rintro ⟨h1, h2, _⟩
    obtain ⟨c1, c2⟩ := chkQ_good h1
    obtain ⟨f1, f2, f3, f4, f5, f6⟩ := fits_iff.1 c1
    have f5 : (h : Int) < (l.length : Int) := f5
    have f6 : (m : Int) ≤ (l.length : Int) := f6
    exact ⟨h2, f1, f2, by omega, by omega, fun k hk hk2 x hx => c2 k (by show (m : Int) ≤ (k : Int); omega) hk2 x (by rw [atT]; exact hx)⟩
  · rintro ⟨h2, f1, f2, f5, f6, c2⟩
    refine ⟨chkQ_in (fits_iff.2 ⟨f1, f2, by show 0 ≤ (h : Int); omega, by show 0 ≤ (m : Int); omega, by show (h : Int) < (l.length : Int); omega, by show (m : Int) ≤ (l.length : Int); omega⟩) ?_, h2, by show l.length ≤ 100; omega⟩
    intro k hk hk2 x hx
    rw [atT] at hx
    have hk : (m : Int) ≤ (k : Int) := hk
    exact c2 k (by omega) hk2 x hx
theorem gq_nat {q : Qu} (h : gq q) : ∃ (l : List (List Int)) (h m : Nat), q = (l, (h : Int), (m : Int)) := by
  obtain ⟨l, hd, m⟩ := q
  obtain ⟨c1, c2⟩ := chkQ_good h.1
  obtain ⟨f1, f2, f3, f4, f5, f6⟩ := fits_iff.1 c1
  have f3 : 0 ≤ hd := f3
  have f4 : 0 ≤ m := f4
  exact ⟨l, hd.toNat, m.toNat, by rw [Int.toNat_of_nonneg f3, Int.toNat_of_nonneg f4]⟩
theorem listQ_nat (l : List (List Int)) (h m : Nat) : listQ (l, (h : Int), (m : Int)) = (List.range m).map fun j => l.getD ((h + j) % l.length) [] := rfl
theorem listQ_len (q : Qu) : (listQ q).length = q.2.2.toNat := by unfold listQ; rw [List.length_map, List.length_range]
theorem getD_set_ne {l : List (List Int)} {i j : Nat} {b : List Int} (h : i ≠ j) : (l.set i b).getD j [] = l.getD j [] := by
  simp only [List.getD_eq_getElem?_getD, List.getElem?_set_ne h]
theorem getD_set_eq {l : List (List Int)} {i : Nat} {b : List Int} (h : i < l.length) : (l.set i b).getD i [] = b := by
  simp only [List.getD_eq_getElem?_getD, List.getElem?_set_self h, Option.getD_some]
theorem All_set {l : List (List Int)} {i : Nat} {b : List Int} (h : All l) (hb : By b ∧ b.length ≤ 200) : All (l.set i b) := by
  intro x hx
  rcases List.mem_or_eq_of_mem_set hx with hx | rfl
  · exact h x hx
  · exact hb
theorem push_full {q : Qu} (h : gq q) (hm : q.2.2 = q.1.length) : pushE q = 9 := by unfold pushE; rw [if_pos h.1, if_pos hm]
theorem push_in {q : Qu} {b : List Int} (h : gq q) (hm : ¬ q.2.2 = q.1.length) (hb : By b ∧ b.length ≤ 200) : pushE q = 0 ∧ gq (pushQ q b) ∧ listQ (pushQ q b) = listQ q ++ [b] ∧ (pushQ q b).1.length = q.1.length := by
  have e : pushE q = 0 := by unfold pushE; rw [if_pos h.1, if_neg hm]
  have e2 : pushQ q b = (q.1.set (atI q q.2.2).toNat b, q.2.1, q.2.2 + 1) := by unfold pushQ; rw [if_pos e]
  obtain ⟨l, hd, m, rfl⟩ := gq_nat h
  obtain ⟨g1, g2, g3, g4, g5, g6⟩ := gq_iff.1 h
  have hm : ¬ (m : Int) = (l.length : Int) := hm
  have e3 : pushQ (l, (hd : Int), (m : Int)) b = (l.set ((hd + m) % l.length) b, (hd : Int), ((m + 1 : Nat) : Int)) := by
    rw [e2]
    show (l.set (atI (l, (hd : Int), (m : Int)) (m : Int)).toNat b, (hd : Int), (m : Int) + 1) = _
    rw [atT]; rfl
  have hp : (hd + m) % l.length < l.length := Nat.mod_lt _ (by omega)
  refine ⟨e, ?_, ?_, ?_⟩
  · rw [e3]
    refine gq_iff.2 ⟨All_set g1 hb, ?_⟩
    rw [List.length_set]
    refine ⟨g2, g3, g4, by omega, fun k hk hk2 x hx => ?_⟩
    rw [List.getElem?_set_ne (ix_ne g4 (by omega) hk2 (by omega))] at hx
    exact g6 k (by omega) hk2 x hx
  · rw [e3, listQ_nat, listQ_nat, List.length_set, List.range_succ, List.map_append]
    congr 1
    · refine List.map_congr_left fun j hj => ?_
      have hj := List.mem_range.1 hj
      rw [getD_set_ne (ix_ne g4 (by omega) (by omega) (by omega))]
    · show [(l.set ((hd + m) % l.length) b).getD ((hd + m) % l.length) []] = [b]
      rw [getD_set_eq hp]
  · rw [e3]; exact List.length_set ..
theorem pop_none {q : Qu} (h : gq q) (hm : q.2.2 = 0) : popE q = 6 := by unfold popE; rw [if_pos h.1, if_pos hm]
theorem pop_in {q : Qu} (h : gq q) (hm : ¬ q.2.2 = 0) : popE q = 0 ∧ gq (popQ q) ∧ listQ q = popB q :: listQ (popQ q) ∧ By (popB q) ∧ (popB q).length ≤ 200 := by
  have e : popE q = 0 := by unfold popE; rw [if_pos h.1, if_neg hm]
  have e2 : popQ q = (q.1.set q.2.1.toNat [], atI q 1, q.2.2 - 1) := by unfold popQ; rw [if_pos e]
  have e4 : popB q = q.1.getD q.2.1.toNat [] := by unfold popB; rw [if_pos e]
  obtain ⟨l, hd, m, rfl⟩ := gq_nat h
  obtain ⟨g1, g2, g3, g4, g5, g6⟩ := gq_iff.1 h
  have hm : ¬ (m : Int) = 0 := hm
  obtain ⟨m, rfl⟩ : ∃ k, m = k + 1 := ⟨m - 1, by omega⟩
  have e3 : popQ (l, (hd : Int), ((m + 1 : Nat) : Int)) = (l.set hd [], (((hd + 1) % l.length : Nat) : Int), (m : Int)) := by
    rw [e2]
    show (l.set hd [], atI (l, (hd : Int), ((m + 1 : Nat) : Int)) ((1 : Nat) : Int), ((m + 1 : Nat) : Int) - 1) = _
    rw [atN, show (((m + 1 : Nat) : Int) - 1) = (m : Int) by omega]
  have e4 : popB (l, (hd : Int), ((m + 1 : Nat) : Int)) = l.getD hd [] := e4
  have h0 : (hd + 0) % l.length = hd := Nat.mod_eq_of_lt (by omega)
  have hx : l.getD hd [] ∈ l := by
    rw [List.getD_eq_getElem?_getD, List.getElem?_eq_getElem (by omega)]
    exact List.getElem_mem _
  refine ⟨e, ?_, ?_, ?_⟩
  · rw [e3]
    refine gq_iff.2 ⟨All_set g1 (b := []) ⟨(fun x hx => absurd hx (List.not_mem_nil)), Nat.zero_le _⟩, ?_⟩
    rw [List.length_set]
    refine ⟨g2, g3, Nat.mod_lt _ (by omega), by omega, fun k hk hk2 x hx => ?_⟩
    rw [Nat.mod_add_mod, Nat.add_assoc] at hx
    by_cases q : k + 1 = l.length
    · rw [show hd + (1 + k) = hd + l.length by omega, Nat.add_mod_right, Nat.mod_eq_of_lt g4, List.getElem?_set_self g4] at hx
      cases hx; rfl
    · have := ix_ne (i := 0) (j := 1 + k) g4 (by omega) (by omega) (by omega)
      rw [h0] at this
      rw [List.getElem?_set_ne this] at hx
      exact g6 (1 + k) (by omega) (by omega) x hx
  · rw [e3, e4, listQ_nat, listQ_nat, List.length_set, List.range_succ_eq_map, List.map_cons, h0, List.map_map]
    congr 1
    refine List.map_congr_left fun j hj => ?_
    have hj := List.mem_range.1 hj
    have := ix_ne (i := 0) (j := j + 1) g4 (by omega) (by omega) (by omega)
    rw [h0] at this
    show l.getD ((hd + (j + 1)) % l.length) [] = (l.set hd []).getD (((hd + 1) % l.length + j) % l.length) []
    rw [Nat.mod_add_mod, show hd + 1 + j = hd + (j + 1) by omega, getD_set_ne this]
  · rw [e4]; exact g1 _ hx

end
end Go.Proofs.Ytnnfcebnmogdmaa.VM
/- Queues: RingOrder holds. No conditions. -/
namespace Go.Proofs.Ytnnfcebnmogdmaa.VM
open Go Go.RowKit
set_option linter.unusedVariables false
set_option linter.unusedSimpArgs false
set_option maxRecDepth 100000
noncomputable section
theorem lift_ok {f : FuncId} (hx : cfR.ext f = some (liftB fun k base vs => vcall Try.prog cf0 k f base vs)) {C : SCall} (h : CtOK Try.prog cf0 f C) : CtOK Try.prog cfR f C := by
  intro base bs K hK as' has vbase
  obtain ⟨rv, blks, srv, sblks, ⟨N, hN⟩, g1, g2, g3⟩ := h base bs K hK as' has vbase
  refine ⟨rv, blks, srv, sblks, ⟨0, fun n _ => ?_⟩, g1, g2, g3⟩
  unfold callI
  rw [hx]
  exact liftB_of ⟨N, hN⟩
theorem alive_ok : CtOK Try.prog cfR 23 ctAlive := by
  intro base bs K hK as' has vbase
  obtain ⟨_, h1, _, h3⟩ := hK
  have has := sles_rel h1 has
  cases has
  exact ⟨.bool true, [], _, [], ⟨0, fun n _ => rfl⟩, h3, .nil, .bool _ _ ⟨fun _ => rfl, fun _ => rfl⟩⟩
theorem cfR_ok : ExtOK Try.prog cfR := by
  intro f g hf base vs rv blks h
  simp only [cfR] at hf
  cases q : Nat.beq f 18 with
  | true => rw [q] at hf; cases hf; rw [Nat.eq_of_beq_eq_true q]; exact listF_iso h
  | false =>
    rw [q] at hf
    simp only [cond_false] at hf
    cases q : Nat.beq f 23 with
    | true =>
      rw [q] at hf; cases hf; rw [Nat.eq_of_beq_eq_true q]
      unfold memoG at h
      split at h
      · cases h
        exact iso_base (vcall_ok (by kernel_rfl) extOK_none 200 23 0 [] _ [] alive_val)
      · cases h
    | false =>
      rw [q] at hf
      simp only [cond_false] at hf
      have lifted : ∀ k : FuncId, Nat.beq f k = true → g = liftB (fun n base vs => vcall Try.prog cf0 n k base vs) → IsoSound Try.prog f base vs rv blks := fun k q e => by
        subst e
        rw [Nat.eq_of_beq_eq_true q]
        obtain ⟨n, hn⟩ := liftB_some h
        exact vcall_ok (by kernel_rfl) extOK_none n k base vs rv blks hn
      cases q : Nat.beq f 6 with
      | true => rw [q] at hf; cases hf; exact lifted 6 q rfl
      | false =>
        rw [q] at hf
        simp only [cond_false] at hf
        cases q : Nat.beq f 14 with
        | true => rw [q] at hf; cases hf; exact lifted 14 q rfl
        | false =>
          rw [q] at hf
          simp only [cond_false] at hf
          cases q : Nat.beq f 16 with
          | true => rw [q] at hf; cases hf; exact lifted 16 q rfl
          | false =>
            rw [q] at hf
            simp only [cond_false] at hf
            cases q : Nat.beq f 21 with
            | true => rw [q] at hf; cases hf; exact lifted 21 q rfl
            | false => rw [q] at hf; cases hf
theorem sxL_ok : SXOK Try.prog cfR sxL := sxok_of (all_cons (lift_ok rfl push_ok) (all_cons (lift_ok rfl pop_ok) (all_cons (lift_ok rfl chk_ok) (all_cons (lift_ok rfl great_ok) (all_cons alive_ok (all_cons (list_ok rfl) all_nil)))))) all_nil
theorem L9_ok (a : L9.ι) (ha : L9.G a) : sexec sxL Try.prog cfR 1000 (loopBody Try.prog 5 0) (L9.I a) (L9.round 1000 a) := by
  rw [vc_L9]
  obtain ⟨q, w, i⟩ := a
  obtain ⟨g1, g2, g3, g4⟩ := ha
  have g1 : gq q := g1
  have g2 : ∀ x ∈ w, By x ∧ x.length ≤ 200 := g2
  have g3 : i ≤ w.length := g3
  have g4 : w.length ≤ 100 := g4
  have hl : (listQ q).length ≤ q.1.length ∧ ((listQ q).length : Int) = q.2.2 ∧ q.1.length ≤ 64 := by
    obtain ⟨f1, f2, f3, f4, f5, f6⟩ := fits_iff.1 (chkQ_good g1.1).1
    rw [listQ_len]; omega
  obtain ⟨hl1, hl2, hl3⟩ := hl
  simp only [true_and, and_true, eq_self, implies_true, Int.toNat_natCast, rdrop0]
  refine ⟨fun h1 => ⟨by omega, by omega, by omega, fun x hx => ?_⟩, fun h1 => Exists.intro q ⟨g1, ?_⟩⟩
  · have hb := g2 x (List.mem_of_getElem? hx)
    refine Exists.intro (q, x) ⟨⟨⟨⟨rfl, rfl⟩, rfl, rfl⟩, rfl, rfl⟩, ⟨g1.2, hb.2⟩, ?_⟩
    by_cases hm : q.2.2 = q.1.length
    · have e := push_full g1 hm
      rw [e]
      refine ⟨fun h => absurd ⟨fun _ => by omega, fun _ => rfl⟩ h, fun _ => ⟨fun _ => ⟨fun h => absurd rfl h, fun _ => ⟨fun h => absurd h (by decide), fun _ => Exists.intro (q, w, i + 1) ?_⟩⟩, fun h => absurd (Classical.not_not.1 h) (by decide)⟩⟩
      exact ⟨⟨g1, g2, by show i + 1 ≤ w.length; omega, g4⟩, by show w.length - (i + 1) < w.length - i; omega, fun o ho => ho, fun _ ho => ho, ⟨⟨rfl, rfl⟩, rfl, rfl, nx (by omega)⟩, ⟨⟨rfl, rfl⟩, rfl, rfl⟩, rfl⟩
    · obtain ⟨e, p1, p2, p3⟩ := push_in g1 hm hb
      rw [e]
      refine ⟨fun h => absurd ⟨fun h => absurd h (by decide), fun h => by omega⟩ h, fun _ => ⟨fun h => absurd rfl h, fun _ => ⟨fun _ => ⟨by omega, by omega, by omega, fun y hy => ?_⟩, fun h => absurd rfl h⟩⟩⟩
      rw [hx] at hy
      cases hy
      exact ⟨by omega, Exists.intro x ⟨⟨rfl, rfl⟩, Exists.intro (pushQ q x, w, i + 1) ⟨⟨p1, g2, by show i + 1 ≤ w.length; omega, g4⟩, by show w.length - (i + 1) < w.length - i; omega, fun o ho => ho, fun _ ho => ho, ⟨⟨rfl, rfl⟩, by show _ = (listQ (pushQ q x)).length; rw [p2]; simp, by show _ = ((pushQ q x).1.length : Int); rw [p3], nx (by omega)⟩, ⟨⟨rfl, rfl⟩, rfl, rfl⟩, by show _ = SC.rows eT 1 2 false (listQ (pushQ q x)); rw [p2]⟩⟩⟩
  · exact ⟨rfl, ⟨⟨rfl, rfl⟩, rfl, rfl⟩, rfl⟩
theorem L18_ok (a : L18.ι) (ha : L18.G a) : sexec sxL Try.prog cfR 1000 (loopBody Try.prog 5 1) (L18.I a) (L18.round 2000 a) := by
  rw [vc_L18]
  obtain ⟨q, w, i⟩ := a
  obtain ⟨g1, g2, g3, g4⟩ := ha
  have g1 : gq q := g1
  have g2 : listQ q = w.drop i := g2
  have g3 : i ≤ w.length := g3
  have g4 : w.length ≤ 100 := g4
  have hl := listQ_len q
  rw [g2, List.length_drop] at hl
  simp only [true_and, and_true, eq_self, implies_true, Int.toNat_natCast, rdrop0, List.take_length, Nat.le_refl]
  refine ⟨fun h1 => ?_, fun h1 => Exists.intro q ⟨⟨g1, by rw [g2]; exact List.drop_of_length_le (by omega)⟩, ⟨⟨rfl, rfl⟩, rfl, rfl⟩⟩⟩
  have hi : i < w.length := by omega
  obtain ⟨e, p1, p2, p3, p4⟩ := pop_in g1 (by intro h; rw [h] at hl; have : (0 : Int).toNat = 0 := rfl; omega)
  rw [g2, List.drop_eq_getElem_cons hi] at p2
  obtain ⟨e1, e2⟩ := List.cons.inj p2
  refine Exists.intro q ⟨⟨⟨rfl, rfl⟩, rfl, rfl⟩, g1.2, fun h => absurd e h, fun _ => Exists.intro (popB q) ⟨rfl, by omega, by omega, by omega, fun y hy => Exists.intro y ⟨rfl, ?_⟩⟩⟩
  rw [List.getElem?_eq_getElem hi] at hy
  cases hy
  rw [e1]
  refine ⟨p3, p3, fun h => absurd rfl h, fun _ => Exists.intro (popQ q) ⟨⟨⟨rfl, rfl⟩, rfl, rfl⟩, p1.2, fun h => absurd p1.1 h, fun _ => Exists.intro (popQ q, w, i + 1) ?_⟩⟩
  exact ⟨⟨p1, e2.symm, by show i + 1 ≤ w.length; omega, g4⟩, by show w.length - (i + 1) < w.length - i; omega, fun o ho => ho, fun _ ho => ho, ⟨rfl, nx (by omega)⟩, ⟨⟨rfl, rfl⟩, rfl, rfl⟩, rfl⟩
theorem sxM_ok : SXOK Try.prog cfR sxM := sxok_lp (all_cons (lift_ok rfl push_ok) (all_cons (lift_ok rfl pop_ok) (all_cons (lift_ok rfl chk_ok) (all_cons (lift_ok rfl great_ok) (all_cons alive_ok (all_cons (list_ok rfl) all_nil)))))) (all_cons (inv_vc (m := 1000) sxL_ok L9_ok) (all_cons (inv_vc (m := 1000) sxL_ok L18_ok) all_nil))
theorem order_all (q : Qu) (w : List (List Int)) (hq : ∀ x ∈ q.1, By x) (hw : ∀ x ∈ w, By x) : scallI sxM Try.prog cfR (sexec sxM Try.prog cfR 1000) 5 0 [qS q, rows2 w] (post (.bool (.lit true))) := by
  rw [vc_order]
  obtain ⟨l, hd, m⟩ := q
  have hq : ∀ x ∈ l, By x := hq
  simp only [true_and, and_true, eq_self, implies_true, Int.toNat_natCast, rdrop0]
  have qok : ∀ {l : List (List Int)} {h m : Int}, ¬ greatP (l, h, m) → (∀ x ∈ l, By x) → QOK (l, h, m) := fun {l h m} g hb => ⟨fun x hx => ⟨hb x hx, by
    by_cases k : 200 < x.length
    · exact absurd (.inr ⟨x, hx, k⟩) g
    · omega⟩, by
    by_cases k : 100 < l.length
    · exact absurd (.inl k) g
    · show l.length ≤ 100; omega⟩
  refine Exists.intro () (Exists.intro (l, hd, m) ⟨⟨⟨rfl, rfl⟩, rfl, rfl⟩, fun h1 => Exists.intro (w, 0, 0) ⟨⟨⟨rfl, rfl⟩, rfl, rfl⟩, fun h2 => Exists.intro (l, hd, m) ⟨⟨⟨rfl, rfl⟩, rfl, rfl⟩, qok h1 hq, fun h3 => ?_, fun h3 => ?_⟩⟩⟩)
  · have h0 : gq (l, hd, m) := ⟨h3, qok h1 hq⟩
    have hw2 := qok h2 hw
    refine ⟨SameCode.refl _, Exists.intro ((l, hd, m), w, 0) ⟨⟨h0, hw2.1, Nat.zero_le _, hw2.2⟩, ⟨⟨⟨rfl, rfl⟩, rfl, rfl, rfl⟩, ⟨⟨rfl, rfl⟩, rfl, rfl⟩, rfl⟩, fun o ho => ?_, fun _ ho => ho.elim⟩⟩
    have ho : gq o := ho
    refine ⟨SameCode.refl _, Exists.intro (o, listQ o, 0) ⟨⟨ho, rfl, Nat.zero_le _, ?_⟩, ⟨⟨rfl, rfl⟩, ⟨⟨rfl, rfl⟩, rfl, rfl⟩, rfl⟩, fun p hp => ?_, fun _ hp => hp.elim⟩⟩
    · obtain ⟨f1, f2, f3, f4, f5, f6⟩ := fits_iff.1 (chkQ_good ho.1).1
      have := listQ_len o
      have h9 : (listQ o).length ≤ 100 := by omega
      exact h9
    · obtain ⟨hp, hp2⟩ := hp
      have hp : gq p := hp
      have hp2 : listQ p = [] := hp2
      refine Exists.intro p ⟨⟨⟨rfl, rfl⟩, rfl, rfl⟩, hp.2, ⟨fun _ => trivial, fun _ => ?_⟩⟩
      obtain ⟨f1, f2, f3, f4, f5, f6⟩ := fits_iff.1 (chkQ_good hp.1).1
      have := listQ_len p
      rw [hp2] at this
      have h9 : ([] : List (List Int)).length = 0 := rfl
      exact pop_none hp (by omega)
  · refine ⟨fun _ => Exists.intro (l, hd, m) ⟨⟨⟨rfl, rfl⟩, rfl, rfl⟩, qok h1 hq, ⟨fun _ => trivial, fun _ => rfl⟩⟩, fun h => absurd (Classical.not_not.1 h) h3⟩
theorem lo_u8 : LO Try.prog 5 1 (eI .u8) (fun n => IntKind.min .u8 ≤ n ∧ n ≤ IntKind.max .u8) := lo_int Try.underlying5 (by kernel_rfl)
theorem lo_i : LO Try.prog 3 1 (eI .i64) (fun n => IntKind.min .i64 ≤ n ∧ n ≤ IntKind.max .i64) := lo_int Try.underlying3 (by kernel_rfl)
theorem lo_row : LO Try.prog 35 1 (eR (eI .u8) 1 1 true) (fun xs => xs.length ≤ 9223372036854775807 ∧ ∀ y ∈ xs, IntKind.min .u8 ≤ y ∧ y ≤ IntKind.max .u8) := lo_slice Try.underlying35 (by kernel_rfl) lo_u8 (Nat.le_refl 1) rokB
theorem lo_rows : LO Try.prog 22 1 (eR eT 1 2 false) (fun l => l.length ≤ 9223372036854775807 ∧ ∀ xs ∈ l, xs.length ≤ 9223372036854775807 ∧ ∀ y ∈ xs, IntKind.min .u8 ≤ y ∧ y ≤ IntKind.max .u8) := lo_slice Try.underlying22 (by kernel_rfl) lo_row (Nat.le_refl 1) rokT
def eQ (q : Qu) : List SV := [rows2 q.1, .int .i64 (.sym q.2.1), .int .i64 (.sym q.2.2)]
def By2 (l : List (List Int)) : Prop := l.length ≤ 9223372036854775807 ∧ ∀ xs ∈ l, xs.length ≤ 9223372036854775807 ∧ ∀ y ∈ xs, IntKind.min .u8 ≤ y ∧ y ≤ IntKind.max .u8
theorem By2_of {l : List (List Int)} (h : By2 l) : ∀ x ∈ l, By x := fun x hx y hy => by
  have := (h.2 x hx).2 y hy
  have h1 : IntKind.min .u8 = 0 := rfl
  have h2 : IntKind.max .u8 = 255 := rfl
  omega
theorem lo_q : LO Try.prog 24 3 eQ (fun q => By2 q.1) :=
  lo_struct (ts := [22, 3, 3]) Try.underlying24 (by kernel_rfl) (by kernel_rfl) (by kernel_rfl) (lf_cons lo_rows (lf_cons lo_i (lf_one lo_i)))
    (fun a => (a.1, a.2.1, a.2.2)) _ _ (fun _ => rfl) (fun _ h => h.1)
theorem walkOrder (q : Qu) (w : List (List Int)) (hq : By2 q.1) (hw : By2 w) : ∃ sx : SX, SXOK Try.prog cfR sx ∧ scallI sx Try.prog cfR (sexec sx Try.prog cfR 1000) 5 0 [qS q, rows2 w] (post (.bool (.lit true))) :=
  ⟨sxM, sxM_ok, order_all q w (By2_of hq) (By2_of hw)⟩

end
end Go.Proofs.Ytnnfcebnmogdmaa.VM
