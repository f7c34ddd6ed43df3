/- Sets of tracks: what the package's functions answer, told. No conditions. -/
import Derived.Test.YtifgifhbefhkmaaProg
import Derived.KernelRfl
import Derived.Test.YtifgifhbefhkmaaBtX1
/- Sets of tracks: what the package's functions answer, told. No conditions. -/
namespace Go.Proofs.Ytifgifhbefhkmaa.VM
open Go Go.RowKit
set_option linter.unusedVariables false
set_option linter.unusedSimpArgs false
set_option maxRecDepth 100000
noncomputable section
def allS (n : Int) : List Int := if sizeB n then (if n ≤ 8 then [2 ^ n.toNat - 1] else [255, 2 ^ (n - 8).toNat - 1]) else []
def allE (n : Int) : Int := if sizeB n then 0 else 2
def ctAll : SCall := Ct (fun n : Int => [.int .i64 (.sym n)]) (fun _ => True) (fun n => .tup [row (allS n), .int .i64 (.sym (allE n))])
def andN (a b : Int) : Int := IntKind.wrap .u8 (((BitVec.ofInt 8 a &&& ~~~ BitVec.ofInt 8 b).toNat : Nat) : Int)
def L26 : LInv where
  ι := (List Int × List Int) × Nat
  G := fun a => By a.1.1 ∧ a.1.1.length = a.1.2.length ∧ a.2 ≤ a.1.1.length ∧ a.1.1.length ≤ 2
  μ := fun a => a.1.1.length - a.2
  I := fun a => ⟨stT 37 [(22, row a.1.1), (23, .int .i64 (.sym (a.1.1.length : Int))), (24, .int .i64 (.sym (a.2 : Int))), (5, row a.1.2)], [], 0⟩
  Ω := Unit
  e := 0
  PE := fun a _ => ∀ (k : Nat) x y, a.2 ≤ k → a.1.1[k]? = some x → a.1.2[k]? = some y → andN x y = 0
  OE := fun _ => ⟨stT 37 [], [], 0⟩
  ret := true
  Ρ := Unit
  PR := fun a _ => ∃ (k : Nat) (x y : Int), a.1.1[k]? = some x ∧ a.1.2[k]? = some y ∧ andN x y ≠ 0
  OR := fun _ => ⟨stT 37 [(4, .int .i64 (.lit 8))], [], 0⟩
def sxA : SX := ⟨rowT, ctOf [(45, ctSize)], lpOf []⟩
def sxK : SX := ⟨rowT, ctOf [(25, ctAll)], lpOf [(7, ⟨26, 0, L26.C 1000⟩)]⟩
def sxH : SX := ⟨rowT, ctOf [(26, ctChk)], lpOf []⟩
theorem vc_all1  : (scallI sx0 Try.prog cf0 (sexec sx0 Try.prog cf0 1000) 25 0 [.int .i64 (.lit 1)] (post (.tup [row (allS 1), .int .i64 (.sym 0)]))) = (((1 : Nat) = (1 : Nat) ∧ ROK eB (1 : Nat) (1 : Nat) true ∧ (1 : Int) = (1 : Int) ∧ True) ∧ (0 : Int) = (0 : Int) ∧ True) := by kernel_rfl
theorem vc_all2  : (scallI sx0 Try.prog cf0 (sexec sx0 Try.prog cf0 1000) 25 0 [.int .i64 (.lit 2)] (post (.tup [row (allS 2), .int .i64 (.sym 0)]))) = (((1 : Nat) = (1 : Nat) ∧ ROK eB (1 : Nat) (1 : Nat) true ∧ (3 : Int) = (3 : Int) ∧ True) ∧ (0 : Int) = (0 : Int) ∧ True) := by kernel_rfl
theorem vc_all3  : (scallI sx0 Try.prog cf0 (sexec sx0 Try.prog cf0 1000) 25 0 [.int .i64 (.lit 3)] (post (.tup [row (allS 3), .int .i64 (.sym 0)]))) = (((1 : Nat) = (1 : Nat) ∧ ROK eB (1 : Nat) (1 : Nat) true ∧ (7 : Int) = (7 : Int) ∧ True) ∧ (0 : Int) = (0 : Int) ∧ True) := by kernel_rfl
theorem vc_all4  : (scallI sx0 Try.prog cf0 (sexec sx0 Try.prog cf0 1000) 25 0 [.int .i64 (.lit 4)] (post (.tup [row (allS 4), .int .i64 (.sym 0)]))) = (((1 : Nat) = (1 : Nat) ∧ ROK eB (1 : Nat) (1 : Nat) true ∧ (15 : Int) = (15 : Int) ∧ True) ∧ (0 : Int) = (0 : Int) ∧ True) := by kernel_rfl
theorem vc_all5  : (scallI sx0 Try.prog cf0 (sexec sx0 Try.prog cf0 1000) 25 0 [.int .i64 (.lit 5)] (post (.tup [row (allS 5), .int .i64 (.sym 0)]))) = (((1 : Nat) = (1 : Nat) ∧ ROK eB (1 : Nat) (1 : Nat) true ∧ (31 : Int) = (31 : Int) ∧ True) ∧ (0 : Int) = (0 : Int) ∧ True) := by kernel_rfl
theorem vc_all6  : (scallI sx0 Try.prog cf0 (sexec sx0 Try.prog cf0 1000) 25 0 [.int .i64 (.lit 6)] (post (.tup [row (allS 6), .int .i64 (.sym 0)]))) = (((1 : Nat) = (1 : Nat) ∧ ROK eB (1 : Nat) (1 : Nat) true ∧ (63 : Int) = (63 : Int) ∧ True) ∧ (0 : Int) = (0 : Int) ∧ True) := by kernel_rfl
theorem vc_all7  : (scallI sx0 Try.prog cf0 (sexec sx0 Try.prog cf0 1000) 25 0 [.int .i64 (.lit 7)] (post (.tup [row (allS 7), .int .i64 (.sym 0)]))) = (((1 : Nat) = (1 : Nat) ∧ ROK eB (1 : Nat) (1 : Nat) true ∧ (127 : Int) = (127 : Int) ∧ True) ∧ (0 : Int) = (0 : Int) ∧ True) := by kernel_rfl
theorem vc_all8  : (scallI sx0 Try.prog cf0 (sexec sx0 Try.prog cf0 1000) 25 0 [.int .i64 (.lit 8)] (post (.tup [row (allS 8), .int .i64 (.sym 0)]))) = (((1 : Nat) = (1 : Nat) ∧ ROK eB (1 : Nat) (1 : Nat) true ∧ (255 : Int) = (255 : Int) ∧ True) ∧ (0 : Int) = (0 : Int) ∧ True) := by kernel_rfl
theorem vc_all9  : (scallI sx0 Try.prog cf0 (sexec sx0 Try.prog cf0 1000) 25 0 [.int .i64 (.lit 9)] (post (.tup [row (allS 9), .int .i64 (.sym 0)]))) = (((2 : Nat) = (2 : Nat) ∧ ROK eB (1 : Nat) (1 : Nat) true ∧ (255 : Int) = (255 : Int) ∧ (1 : Int) = (1 : Int) ∧ True) ∧ (0 : Int) = (0 : Int) ∧ True) := by kernel_rfl
theorem vc_all10  : (scallI sx0 Try.prog cf0 (sexec sx0 Try.prog cf0 1000) 25 0 [.int .i64 (.lit 10)] (post (.tup [row (allS 10), .int .i64 (.sym 0)]))) = (((2 : Nat) = (2 : Nat) ∧ ROK eB (1 : Nat) (1 : Nat) true ∧ (255 : Int) = (255 : Int) ∧ (3 : Int) = (3 : Int) ∧ True) ∧ (0 : Int) = (0 : Int) ∧ True) := by kernel_rfl
theorem vc_all11  : (scallI sx0 Try.prog cf0 (sexec sx0 Try.prog cf0 1000) 25 0 [.int .i64 (.lit 11)] (post (.tup [row (allS 11), .int .i64 (.sym 0)]))) = (((2 : Nat) = (2 : Nat) ∧ ROK eB (1 : Nat) (1 : Nat) true ∧ (255 : Int) = (255 : Int) ∧ (7 : Int) = (7 : Int) ∧ True) ∧ (0 : Int) = (0 : Int) ∧ True) := by kernel_rfl
theorem vc_all12  : (scallI sx0 Try.prog cf0 (sexec sx0 Try.prog cf0 1000) 25 0 [.int .i64 (.lit 12)] (post (.tup [row (allS 12), .int .i64 (.sym 0)]))) = (((2 : Nat) = (2 : Nat) ∧ ROK eB (1 : Nat) (1 : Nat) true ∧ (255 : Int) = (255 : Int) ∧ (15 : Int) = (15 : Int) ∧ True) ∧ (0 : Int) = (0 : Int) ∧ True) := by kernel_rfl
theorem vc_all13  : (scallI sx0 Try.prog cf0 (sexec sx0 Try.prog cf0 1000) 25 0 [.int .i64 (.lit 13)] (post (.tup [row (allS 13), .int .i64 (.sym 0)]))) = (((2 : Nat) = (2 : Nat) ∧ ROK eB (1 : Nat) (1 : Nat) true ∧ (255 : Int) = (255 : Int) ∧ (31 : Int) = (31 : Int) ∧ True) ∧ (0 : Int) = (0 : Int) ∧ True) := by kernel_rfl
theorem vc_all14  : (scallI sx0 Try.prog cf0 (sexec sx0 Try.prog cf0 1000) 25 0 [.int .i64 (.lit 14)] (post (.tup [row (allS 14), .int .i64 (.sym 0)]))) = (((2 : Nat) = (2 : Nat) ∧ ROK eB (1 : Nat) (1 : Nat) true ∧ (255 : Int) = (255 : Int) ∧ (63 : Int) = (63 : Int) ∧ True) ∧ (0 : Int) = (0 : Int) ∧ True) := by kernel_rfl
theorem vc_all15  : (scallI sx0 Try.prog cf0 (sexec sx0 Try.prog cf0 1000) 25 0 [.int .i64 (.lit 15)] (post (.tup [row (allS 15), .int .i64 (.sym 0)]))) = (((2 : Nat) = (2 : Nat) ∧ ROK eB (1 : Nat) (1 : Nat) true ∧ (255 : Int) = (255 : Int) ∧ (127 : Int) = (127 : Int) ∧ True) ∧ (0 : Int) = (0 : Int) ∧ True) := by kernel_rfl
theorem vc_all16  : (scallI sx0 Try.prog cf0 (sexec sx0 Try.prog cf0 1000) 25 0 [.int .i64 (.lit 16)] (post (.tup [row (allS 16), .int .i64 (.sym 0)]))) = (((2 : Nat) = (2 : Nat) ∧ ROK eB (1 : Nat) (1 : Nat) true ∧ (255 : Int) = (255 : Int) ∧ (255 : Int) = (255 : Int) ∧ True) ∧ (0 : Int) = (0 : Int) ∧ True) := by kernel_rfl
theorem vc_all (n : Int) (l : List Int) (x : Int) : (scallI ⟨rowT, ctOf [(45, ctSize), (46, fun _ _ _ _ => Stuck 300)], lpOf []⟩ Try.prog cf0 (sexec ⟨rowT, ctOf [(45, ctSize), (46, fun _ _ _ _ => Stuck 300)], lpOf []⟩ Try.prog cf0 1000) 25 0 [.int .i64 (.sym n)] (post (.tup [row l, .int .i64 (.sym x)]))) = (∃ (y3 : Int), (n = y3 ∧ True) ∧ True ∧ (¬sizeB y3 = true → (List.length l = (0 : Nat) ∧ ∀ (y4 : Int), List.length (eB y4) = (1 : Nat) ∧ (∀ (y5 : SV), y5 ∈ eB y4 → imm (1 : Nat) y5 ∧ SV.one y5 = true)
∧ (true = true → ∀ (y5 : SV), y5 ∈ eB y4 → scalar y5)) ∧ (2 : Int) = x ∧ True) ∧ (¬¬sizeB y3 = true → Stuck (300 : Nat))) := by kernel_rfl
theorem vc_L26 (a : L26.ι) : (sexec sx0 Try.prog cf0 1000 (loopBody Try.prog 26 0) (L26.I a) (L26.round 1000 a)) = (((↑(Prod.snd a) : Int) < (↑(List.length (Prod.fst (Prod.fst a))) : Int) → (0 : Int) ≤ (↑(Prod.snd a) : Int) ∧ (↑(Prod.snd a) : Int) < (↑(List.length (Prod.fst (Prod.fst a))) : Int) ∧ Int.toNat
(↑(Prod.snd a) : Int) < List.length (Prod.fst (Prod.fst a)) ∧ ∀ (y1 : Int), (Prod.fst (Prod.fst a))[Int.toNat (↑(Prod.snd a) : Int)]? = some y1 → (0 : Int) ≤ (↑(Prod.snd a) : Int) ∧ (↑(Prod.snd a) :
Int) < (↑(List.length (Prod.snd (Prod.fst a))) : Int) ∧ Int.toNat (↑(Prod.snd a) : Int) < List.length (Prod.snd (Prod.fst a)) ∧ ∀ (y2 : Int), (Prod.snd (Prod.fst a))[Int.toNat (↑(Prod.snd a) : Int)]?
= some y2 → (¬IntKind.wrap IntKind.u8 (↑(BitVec.toNat (BitVec.ofInt (8 : Nat) y1 &&& ~~~BitVec.ofInt (8 : Nat) y2)) : Int) = (0 : Int) → ∃ (y3 : LInv.Ρ L26), (∃ (y4 : Nat), ∃ (y5 : Int), ∃ (y6 : Int),
(Prod.fst (Prod.fst a))[y4]? = some y5 ∧ (Prod.snd (Prod.fst a))[y4]? = some y6 ∧ andN y5 y6 ≠ (0 : Int)) ∧ (True ∧ True ∧ True ∧ True ∧ (8 : Int) = (8 : Int) ∧ True ∧ True ∧ True ∧ True ∧ True ∧ True
∧ True ∧ True ∧ True ∧ True ∧ True ∧ True ∧ True ∧ True ∧ True ∧ True ∧ True ∧ True ∧ True ∧ True ∧ True ∧ True ∧ True ∧ True ∧ True ∧ True ∧ True ∧ True ∧ True ∧ True ∧ True ∧ True ∧ True) ∧ True) ∧
(¬¬IntKind.wrap IntKind.u8 (↑(BitVec.toNat (BitVec.ofInt (8 : Nat) y1 &&& ~~~BitVec.ofInt (8 : Nat) y2)) : Int) = (0 : Int) → ∃ (y3 : LInv.ι L26), ((∀ (y4 : Int), y4 ∈ Prod.fst (Prod.fst y3) → (0 :
Int) ≤ y4 ∧ y4 < (256 : Int)) ∧ List.length (Prod.fst (Prod.fst y3)) = List.length (Prod.snd (Prod.fst y3)) ∧ Prod.snd y3 ≤ List.length (Prod.fst (Prod.fst y3)) ∧ List.length (Prod.fst (Prod.fst y3))
≤ (2 : Nat)) ∧ LInv.μ L26 y3 < LInv.μ L26 a ∧ (∀ (y4 : LInv.Ω L26), LInv.PE L26 y3 y4 → ∀ (y5 : Nat) (y6 y7 : Int), Prod.snd a ≤ y5 → (Prod.fst (Prod.fst a))[y5]? = some y6 → (Prod.snd (Prod.fst
a))[y5]? = some y7 → andN y6 y7 = (0 : Int)) ∧ (∀ (y4 : LInv.Ρ L26), LInv.PR L26 y3 y4 → ∃ (y5 : Nat), ∃ (y6 : Int), ∃ (y7 : Int), (Prod.fst (Prod.fst a))[y5]? = some y6 ∧ (Prod.snd (Prod.fst a))[y5]?
= some y7 ∧ andN y6 y7 ≠ (0 : Int)) ∧ (True ∧ True ∧ True ∧ True ∧ True ∧ (List.length (Prod.snd (Prod.fst a)) = List.length (Prod.snd (Prod.fst y3)) ∧ SC.rows eB (1 : Nat) (1 : Nat) true (Prod.snd
(Prod.fst a)) = SC.rows eB (1 : Nat) (1 : Nat) true (Prod.snd (Prod.fst y3))) ∧ True ∧ True ∧ True ∧ True ∧ True ∧ True ∧ True ∧ True ∧ True ∧ True ∧ True ∧ True ∧ True ∧ True ∧ True ∧ True ∧
(List.length (Prod.fst (Prod.fst a)) = List.length (Prod.fst (Prod.fst y3)) ∧ SC.rows eB (1 : Nat) (1 : Nat) true (Prod.fst (Prod.fst a)) = SC.rows eB (1 : Nat) (1 : Nat) true (Prod.fst (Prod.fst
y3))) ∧ (↑(List.length (Prod.fst (Prod.fst a))) : Int) = (↑(List.length (Prod.fst (Prod.fst y3))) : Int) ∧ IntKind.wrap IntKind.i64 ((↑(Prod.snd a) : Int) + (1 : Int)) = (↑(Prod.snd y3) : Int) ∧ True
∧ True ∧ True ∧ True ∧ True ∧ True ∧ True ∧ True ∧ True ∧ True ∧ True ∧ True ∧ True) ∧ True)) ∧ (¬(↑(Prod.snd a) : Int) < (↑(List.length (Prod.fst (Prod.fst a))) : Int) → ∃ (y1 : LInv.Ω L26), (∀ (y2 :
Nat) (y3 y4 : Int), Prod.snd a ≤ y2 → (Prod.fst (Prod.fst a))[y2]? = some y3 → (Prod.snd (Prod.fst a))[y2]? = some y4 → andN y3 y4 = (0 : Int)) ∧ (True ∧ True ∧ True ∧ True ∧ True ∧ True ∧ True ∧ True
∧ True ∧ True ∧ True ∧ True ∧ True ∧ True ∧ True ∧ True ∧ True ∧ True ∧ True ∧ True ∧ True ∧ True ∧ True ∧ True ∧ True ∧ True ∧ True ∧ True ∧ True ∧ True ∧ True ∧ True ∧ True ∧ True ∧ True ∧ True ∧
True ∧ True) ∧ True)) := by kernel_rfl
theorem vc_ChkB (n : Int) (s : List Int) (x : Int) : (scallI sxK Try.prog cf0 (sexec sxK Try.prog cf0 1000) 26 0 [.int .i64 (.sym n), row s] (post (.int .i64 (.sym x)))) = (∃ (y3 : Int), (n = y3 ∧ True) ∧ True ∧ (¬allE y3 = (0 : Int) → allE y3 = x) ∧ (¬¬allE y3 = (0 : Int) → (¬(↑(List.length s) : Int) = (↑(List.length (allS y3)) : Int) → (8 : Int) = x) ∧
(¬¬(↑(List.length s) : Int) = (↑(List.length (allS y3)) : Int) → SameCode (loopBody Try.prog (26 : Nat) (0 : Nat)) (loopBody Try.prog (26 : Nat) (0 : Nat)) ∧ ∃ (y4 : LInv.ι L26), ((∀ (y5 : Int), y5 ∈
Prod.fst (Prod.fst y4) → (0 : Int) ≤ y5 ∧ y5 < (256 : Int)) ∧ List.length (Prod.fst (Prod.fst y4)) = List.length (Prod.snd (Prod.fst y4)) ∧ Prod.snd y4 ≤ List.length (Prod.fst (Prod.fst y4)) ∧
List.length (Prod.fst (Prod.fst y4)) ≤ (2 : Nat)) ∧ ((True ∧ True ∧ True ∧ True ∧ True ∧ (List.length (allS y3) = List.length (Prod.snd (Prod.fst y4)) ∧ SC.rows eB (1 : Nat) (1 : Nat) true (allS y3) =
SC.rows eB (1 : Nat) (1 : Nat) true (Prod.snd (Prod.fst y4))) ∧ True ∧ True ∧ True ∧ True ∧ True ∧ True ∧ True ∧ True ∧ True ∧ True ∧ True ∧ True ∧ True ∧ True ∧ True ∧ True ∧ (List.length s =
List.length (Prod.fst (Prod.fst y4)) ∧ SC.rows eB (1 : Nat) (1 : Nat) true s = SC.rows eB (1 : Nat) (1 : Nat) true (Prod.fst (Prod.fst y4))) ∧ (↑(List.length s) : Int) = (↑(List.length (Prod.fst
(Prod.fst y4))) : Int) ∧ (0 : Int) = (↑(Prod.snd y4) : Int) ∧ True ∧ True ∧ True ∧ True ∧ True ∧ True ∧ True ∧ True ∧ True ∧ True ∧ True ∧ True ∧ True) ∧ True) ∧ (∀ (y5 : LInv.ι L26), True) ∧ (∀ (y5 :
LInv.Ω L26), LInv.PE L26 y4 y5 → (0 : Int) = x) ∧ ∀ (y5 : LInv.Ρ L26), LInv.PR L26 y4 y5 → (8 : Int) = x))) := by kernel_rfl
theorem vc_HasB (n : Int) (s : List Int) (t : Int) (p : Prop) (x : Int) : (scallI sxH Try.prog cf0 (sexec sxH Try.prog cf0 1000) 18 0 [.int .i64 (.sym n), row s, .int .i64 (.sym t)] (post (.tup [.bool (.sym p), .int .i64 (.sym x)]))) = (∃ (y5 : Int × List Int), (n = Prod.fst y5 ∧ (List.length s = List.length (Prod.snd y5) ∧ SC.rows eB (1 : Nat) (1 : Nat) true s = SC.rows eB (1 : Nat) (1 : Nat) true (Prod.snd y5)) ∧ True) ∧ ((∀ (y6 :
Int), y6 ∈ Prod.snd y5 → (0 : Int) ≤ y6 ∧ y6 < (256 : Int)) ∧ List.length (Prod.snd y5) ≤ (1000 : Nat)) ∧ (¬chkR (Prod.fst y5) (Prod.snd y5) = (0 : Int) → (false = true ↔ p) ∧ chkR (Prod.fst y5)
(Prod.snd y5) = x ∧ True) ∧ (¬¬chkR (Prod.fst y5) (Prod.snd y5) = (0 : Int) → (t < (0 : Int) → (false = true ↔ p) ∧ (2 : Int) = x ∧ True) ∧ (¬t < (0 : Int) → (n ≤ t → (false = true ↔ p) ∧ (2 : Int) =
x ∧ True) ∧ (¬n ≤ t → (0 : Int) ≤ IntKind.wrap IntKind.i64 (Int.tdiv t (8 : Int)) ∧ IntKind.wrap IntKind.i64 (Int.tdiv t (8 : Int)) < (↑(List.length s) : Int) ∧ Int.toNat (IntKind.wrap IntKind.i64
(Int.tdiv t (8 : Int))) < List.length s ∧ ∀ (y6 : Int), s[Int.toNat (IntKind.wrap IntKind.i64 (Int.tdiv t (8 : Int)))]? = some y6 → (0 : Int) ≤ Int.tmod t (8 : Int) ∧ (¬IntKind.wrap IntKind.u8
(↑(Int.toNat (y6 % (256 : Int)) &&& Int.toNat (IntKind.wrap IntKind.u8 ((1 : Int) * (2 : Int) ^ min (Int.toNat (Int.tmod t (8 : Int))) (8 : Nat)) % (256 : Int))) : Int) = (0 : Int) ↔ p) ∧ (0 : Int) =
x ∧ True)))) := by kernel_rfl
theorem vc_chks (n : Int) (s u : List Int) (x : Int) : (scallI sxH Try.prog cf0 (sexec sxH Try.prog cf0 1000) 49 0 [.int .i64 (.sym n), .slI false (.lit [row s, row u]) (.lit 2) true] (post (.int .i64 (.sym x)))) = (∃ (y4 : Int × List Int), (n = Prod.fst y4 ∧ (List.length s = List.length (Prod.snd y4) ∧ SC.rows eB (1 : Nat) (1 : Nat) true s = SC.rows eB (1 : Nat) (1 : Nat) true (Prod.snd y4)) ∧ True) ∧ ((∀ (y5 :
Int), y5 ∈ Prod.snd y4 → (0 : Int) ≤ y5 ∧ y5 < (256 : Int)) ∧ List.length (Prod.snd y4) ≤ (1000 : Nat)) ∧ (¬chkR (Prod.fst y4) (Prod.snd y4) = (0 : Int) → chkR (Prod.fst y4) (Prod.snd y4) = x) ∧
(¬¬chkR (Prod.fst y4) (Prod.snd y4) = (0 : Int) → ∃ (y5 : Int × List Int), (n = Prod.fst y5 ∧ (List.length u = List.length (Prod.snd y5) ∧ SC.rows eB (1 : Nat) (1 : Nat) true u = SC.rows eB (1 : Nat)
(1 : Nat) true (Prod.snd y5)) ∧ True) ∧ ((∀ (y6 : Int), y6 ∈ Prod.snd y5 → (0 : Int) ≤ y6 ∧ y6 < (256 : Int)) ∧ List.length (Prod.snd y5) ≤ (1000 : Nat)) ∧ (¬chkR (Prod.fst y5) (Prod.snd y5) = (0 :
Int) → chkR (Prod.fst y5) (Prod.snd y5) = x) ∧ (¬¬chkR (Prod.fst y5) (Prod.snd y5) = (0 : Int) → (0 : Int) = x))) := by kernel_rfl
end
end Go.Proofs.Ytifgifhbefhkmaa.VM
/- Sets of tracks: the package's functions answer so. No conditions. -/
namespace Go.Proofs.Ytifgifhbefhkmaa.VM
open Go Go.RowKit
set_option linter.unusedVariables false
set_option linter.unusedSimpArgs false
set_option maxRecDepth 100000
noncomputable section
/-- A function that is known, by a telling of the arguments and by knowing that may be another for each. -/
theorem ct_any {P : Program} {cf : Cfg} {m : Nat} {f : FuncId} {α : Type} {args : α → List SV} {pre : α → Prop} {res : α → SV} (h : ∀ a, pre a → ∃ sx as', SXOK P cf sx ∧ sles (args a) as' ∧ scallI sx P cf (sexec sx P cf m) f 0 as' (post (res a))) : CtOK P cf f (Ct args pre res) := by
  intro base bs K hK as' has vbase
  obtain ⟨a, h1, h2, h3⟩ := hK
  obtain ⟨sx, as2, hsx, h4, h5⟩ := h a h2
  exact ct_vc' (m := m) (α := Unit) (args := fun _ => args a) (pre := fun _ => True) (res := fun _ => res a) hsx (fun _ _ => ⟨as2, h4, h5⟩) base bs K ⟨(), h1, trivial, h3⟩ as' has vbase
/-- The same for some arguments alone, and less of the result. -/
theorem ct_one {P : Program} {cf : Cfg} {f : FuncId} {α : Type} {args : α → List SV} {pre : α → Prop} {res : α → SV} (h : CtOK P cf f (Ct args pre res)) (a : α) (ha : pre a) {r : SV} (hr : sle 12 (res a) r) {as0 : List SV} (h0 : sles as0 (args a)) : CtOK P cf f (Ct (fun _ : Unit => as0) (fun _ => True) (fun _ => r)) := by
  intro base bs K hK as' has vbase
  obtain ⟨_, h1, _, hK⟩ := hK
  obtain ⟨rv, bl, sv, sbl, hN, ⟨rfl, rfl⟩, g2, g3⟩ := h base as0 (fun sv bl => sv = res a ∧ bl = []) ⟨a, h0, ha, rfl, rfl⟩ as' (sles_rel h1 has) vbase
  exact ⟨rv, bl, r, [], hN, hK, g2, sle_rel 12 _ _ _ hr g3⟩
theorem all_ok : CtOK Try.prog cf0 25 ctAll := ct_any (m := 1000) fun n _ => by
  by_cases h : sizeB n = true
  · obtain ⟨h1, h2⟩ := sizeB_iff.1 h
    have : n = 1 ∨ n = 2 ∨ n = 3 ∨ n = 4 ∨ n = 5 ∨ n = 6 ∨ n = 7 ∨ n = 8 ∨ n = 9 ∨ n = 10 ∨ n = 11 ∨ n = 12 ∨ n = 13 ∨ n = 14 ∨ n = 15 ∨ n = 16 := by omega
    refine ⟨sx0, [.int .i64 (.lit n)], sx0_ok, ⟨rfl, trivial⟩, ?_⟩
    rcases this with rfl | rfl | rfl | rfl | rfl | rfl | rfl | rfl | rfl | rfl | rfl | rfl | rfl | rfl | rfl | rfl
    · rw [show allE 1 = 0 from rfl, vc_all1]; exact ⟨⟨rfl, rokB, rfl, trivial⟩, rfl, trivial⟩
    · rw [show allE 2 = 0 from rfl, vc_all2]; exact ⟨⟨rfl, rokB, rfl, trivial⟩, rfl, trivial⟩
    · rw [show allE 3 = 0 from rfl, vc_all3]; exact ⟨⟨rfl, rokB, rfl, trivial⟩, rfl, trivial⟩
    · rw [show allE 4 = 0 from rfl, vc_all4]; exact ⟨⟨rfl, rokB, rfl, trivial⟩, rfl, trivial⟩
    · rw [show allE 5 = 0 from rfl, vc_all5]; exact ⟨⟨rfl, rokB, rfl, trivial⟩, rfl, trivial⟩
    · rw [show allE 6 = 0 from rfl, vc_all6]; exact ⟨⟨rfl, rokB, rfl, trivial⟩, rfl, trivial⟩
    · rw [show allE 7 = 0 from rfl, vc_all7]; exact ⟨⟨rfl, rokB, rfl, trivial⟩, rfl, trivial⟩
    · rw [show allE 8 = 0 from rfl, vc_all8]; exact ⟨⟨rfl, rokB, rfl, trivial⟩, rfl, trivial⟩
    · rw [show allE 9 = 0 from rfl, vc_all9]; exact ⟨⟨rfl, rokB, rfl, rfl, trivial⟩, rfl, trivial⟩
    · rw [show allE 10 = 0 from rfl, vc_all10]; exact ⟨⟨rfl, rokB, rfl, rfl, trivial⟩, rfl, trivial⟩
    · rw [show allE 11 = 0 from rfl, vc_all11]; exact ⟨⟨rfl, rokB, rfl, rfl, trivial⟩, rfl, trivial⟩
    · rw [show allE 12 = 0 from rfl, vc_all12]; exact ⟨⟨rfl, rokB, rfl, rfl, trivial⟩, rfl, trivial⟩
    · rw [show allE 13 = 0 from rfl, vc_all13]; exact ⟨⟨rfl, rokB, rfl, rfl, trivial⟩, rfl, trivial⟩
    · rw [show allE 14 = 0 from rfl, vc_all14]; exact ⟨⟨rfl, rokB, rfl, rfl, trivial⟩, rfl, trivial⟩
    · rw [show allE 15 = 0 from rfl, vc_all15]; exact ⟨⟨rfl, rokB, rfl, rfl, trivial⟩, rfl, trivial⟩
    · rw [show allE 16 = 0 from rfl, vc_all16]; exact ⟨⟨rfl, rokB, rfl, rfl, trivial⟩, rfl, trivial⟩
  · refine ⟨⟨rowT, ctOf [(45, ctSize), (46, fun _ _ _ _ => Stuck 300)], lpOf []⟩, [.int .i64 (.sym n)], sxok_of (all_cons size_ok (all_cons (fun base bs K hK => by cases hK) all_nil)) all_nil, ⟨rfl, trivial⟩, ?_⟩
    rw [vc_all]
    refine Exists.intro n ⟨⟨rfl, trivial⟩, trivial, fun _ => ⟨⟨?_, rokB⟩, ?_, trivial⟩, fun q => absurd h q⟩
    · unfold allS; rw [if_neg h]; rfl
    · unfold allE; rw [if_neg h]
theorem L26_ok (a : L26.ι) (ha : L26.G a) : sexec sx0 Try.prog cf0 1000 (loopBody Try.prog 26 0) (L26.I a) (L26.round 1000 a) := by
  rw [vc_L26]
  obtain ⟨⟨s, m⟩, t⟩ := a
  obtain ⟨g1, g2, g3, g4⟩ := ha
  simp only [true_and, and_true, eq_self] at *
  refine ⟨fun h1 => ⟨by omega, by omega, by simp only [Int.toNat_natCast]; omega, fun x hx => ⟨by omega, by omega, by simp only [Int.toNat_natCast]; omega, fun y hy => ⟨fun h2 => Exists.intro () (Exists.intro t (Exists.intro x (Exists.intro y ⟨hx, hy, h2⟩))), fun h2 => Exists.intro ((s, m), t + 1) ⟨⟨g1, g2, ?_, g4⟩, ?_, ?_, fun _ hp => hp, ⟨rfl, rfl⟩, ⟨rfl, rfl⟩, rfl, ?_⟩⟩⟩⟩, fun h1 => Exists.intro () fun k x y hk hx _ => ?_⟩
  · show t + 1 ≤ s.length; omega
  · show s.length - (t + 1) < s.length - t; omega
  · intro _ hp k x' y' hk hx' hy'
    by_cases q : k = t
    · subst q
      simp only [Int.toNat_natCast] at hx hy
      rw [hx] at hx'; rw [hy] at hy'; cases hx'; cases hy'
      exact Classical.not_not.1 h2
    · exact hp k x' y' (by show t + 1 ≤ k; omega) hx' hy'
  · show IntKind.i64.wrap ((t : Int) + 1) = ((t + 1 : Nat) : Int); rw [wr_i64 (by omega) (by omega)]; omega
  · have := (List.getElem?_eq_some_iff.1 hx).1
    omega
theorem sxK_ok : SXOK Try.prog cf0 sxK := sxok_lp (all_cons all_ok all_nil) (all_cons (inv_vc (m := 1000) sx0_ok L26_ok) all_nil)

end
end Go.Proofs.Ytifgifhbefhkmaa.VM
/- Bytes: what one says of tracks. No conditions. -/
namespace Go.Proofs.Ytifgifhbefhkmaa.VM
open Go Go.RowKit
set_option linter.unusedVariables false
set_option linter.unusedSimpArgs false
set_option maxRecDepth 100000
noncomputable section
theorem byte_all {p : Nat → Prop} (h : ∀ x : Fin 256, p x.val) (x : Nat) (hx : x < 256) : p x := h ⟨x, hx⟩
theorem andN_may : ∀ j : Fin 9, 1 ≤ j.val → ∀ x : Fin 256, (mayB (j.val : Int) [(x.val : Int)] = decide (andN (x.val : Int) (2 ^ j.val - 1) = 0)) := by decide +kernel
theorem andN_full : ∀ x : Fin 256, andN (x.val : Int) 255 = 0 := by decide +kernel
theorem may_two (n x y : Int) (h1 : 9 ≤ n) (h2 : n ≤ 16) : mayB n [x, y] = mayB (n - 8) [y] := by
  have : n = 9 ∨ n = 10 ∨ n = 11 ∨ n = 12 ∨ n = 13 ∨ n = 14 ∨ n = 15 ∨ n = 16 := by omega
  rcases this with rfl | rfl | rfl | rfl | rfl | rfl | rfl | rfl <;> simp [mayB, sizeB, pages, inB, List.range_succ]
theorem bit_and : ∀ k : Fin 8, ∀ x : Fin 256, (decide (IntKind.wrap .u8 ((Int.toNat ((x.val : Int) % 256) &&& Int.toNat (IntKind.wrap .u8 (1 * 2 ^ min k.val 8) % 256) : Nat) : Int) = 0)) = !decide ((x.val : Int) / 2 ^ k.val % 2 = 1) := by decide +kernel

end
end Go.Proofs.Ytifgifhbefhkmaa.VM
/- Sets of tracks: the package's questions answer as the document's. No conditions. -/
namespace Go.Proofs.Ytifgifhbefhkmaa.VM
open Go Go.RowKit
set_option linter.unusedVariables false
set_option linter.unusedSimpArgs false
set_option maxRecDepth 100000
noncomputable section
theorem allS_le {n : Int} (h1 : 1 ≤ n) (h2 : n ≤ 16) : allS n = if n ≤ 8 then [2 ^ n.toNat - 1] else [255, 2 ^ (n - 8).toNat - 1] := by
  unfold allS; rw [if_pos (sizeB_iff.2 ⟨h1, h2⟩)]
theorem allS_pages {n : Int} (h1 : 1 ≤ n) (h2 : n ≤ 16) : (allS n).length = pages n := by
  rw [allS_le h1 h2]
  split
  · unfold pages; simp; omega
  · unfold pages; simp; omega
theorem nat_of {x : Int} (h0 : 0 ≤ x) (h1 : x < 256) : ∃ m : Nat, x = m ∧ m < 256 := ⟨x.toNat, by omega, by omega⟩
theorem may_one {n x : Int} (h1 : 1 ≤ n) (h2 : n ≤ 8) (h3 : 0 ≤ x) (h4 : x < 256) : mayB n [x] = true ↔ andN x (2 ^ n.toNat - 1) = 0 := by
  obtain ⟨m, rfl, hm⟩ := nat_of h3 h4
  obtain ⟨j, rfl⟩ : ∃ j : Nat, n = j := ⟨n.toNat, by omega⟩
  have := andN_may ⟨j, by omega⟩ (by show 1 ≤ j; omega) ⟨m, hm⟩
  simp only at this
  rw [this]
  simp
theorem may_iff {n : Int} {s : List Int} (h1 : 1 ≤ n) (h2 : n ≤ 16) (hb : By s) (hl : s.length = (allS n).length) : mayB n s = true ↔ ∀ (k : Nat) x y, s[k]? = some x → (allS n)[k]? = some y → andN x y = 0 := by
  rw [allS_le h1 h2] at hl ⊢
  by_cases h : n ≤ 8
  · rw [if_pos h] at hl ⊢
    match s, hl with
    | [x], _ =>
      obtain ⟨x0, x1⟩ := hb x (by simp)
      rw [may_one h1 h x0 x1]
      constructor
      · intro q k a b ha hb
        cases k with
        | zero => simp at ha hb; subst ha hb; exact q
        | succ k => simp at ha
      · intro q; exact q 0 _ _ rfl rfl
  · rw [if_neg h] at hl ⊢
    match s, hl with
    | [x, z], _ =>
      obtain ⟨x0, x1⟩ := hb x (by simp)
      obtain ⟨z0, z1⟩ := hb z (by simp)
      rw [may_two n x z (by omega) h2, may_one (by omega) (by omega) z0 z1]
      constructor
      · intro q k a b ha hb
        match k with
        | 0 =>
          simp at ha hb; subst ha hb
          obtain ⟨m, rfl, hm⟩ := nat_of x0 x1
          exact andN_full ⟨m, hm⟩
        | 1 => simp at ha hb; subst ha hb; exact q
        | k + 2 => simp at ha
      · intro q; exact q 1 _ _ rfl rfl
theorem ChkB_all (n : Int) (s : List Int) (hb : By s) (hl : s.length ≤ 1000) : scallI sxK Try.prog cf0 (sexec sxK Try.prog cf0 1000) 26 0 [.int .i64 (.sym n), row s] (post (.int .i64 (.sym (chkR n s)))) := by
  rw [vc_ChkB]
  simp only [true_and, and_true, eq_self, implies_true]
  refine Exists.intro n ⟨rfl, fun h => ?_, fun h => ?_⟩
  · unfold allE at h ⊢
    unfold chkR
    split at h
    · exact absurd rfl h
    · rename_i q; rw [if_neg q, if_neg q]
  · have hs : sizeB n = true := by
      cases q : sizeB n with
      | true => rfl
      | false => exact absurd (show ¬ allE n = 0 by unfold allE; rw [q]; decide) h
    obtain ⟨h1, h2⟩ := sizeB_iff.1 hs
    have hp := allS_pages h1 h2
    obtain ⟨p1, p2, p3⟩ := pages_le h1 h2
    refine ⟨fun q => ?_, fun q => ⟨SameCode.refl _, Exists.intro ((s, allS n), 0) ⟨⟨hb, by show s.length = (allS n).length; omega, Nat.zero_le _, by show s.length ≤ 2; omega⟩, ⟨⟨rfl, rfl⟩, ⟨rfl, rfl⟩, rfl, rfl⟩, fun _ ho => ?_, fun _ ho => ?_⟩⟩⟩
    · have : ¬ s.length = pages n := by omega
      unfold chkR mayB
      rw [if_pos hs, if_neg (by simp [this])]
    · have ho : ∀ (k : Nat) x y, 0 ≤ k → s[k]? = some x → (allS n)[k]? = some y → andN x y = 0 := ho
      unfold chkR
      rw [if_pos hs, if_pos ((may_iff h1 h2 hb (by omega)).2 fun k x y => ho k x y (Nat.zero_le _))]
    · obtain ⟨k, x, y, o1, o2, o3⟩ : ∃ (k : Nat) (x y : Int), s[k]? = some x ∧ (allS n)[k]? = some y ∧ andN x y ≠ 0 := ho
      unfold chkR
      rw [if_pos hs, if_neg fun q => o3 ((may_iff h1 h2 hb (by omega)).1 q k x y o1 o2)]
theorem chkB_ok : CtOK Try.prog cf0 26 ctChk := ct_vc (m := 1000) sxK_ok fun a h => ChkB_all a.1 a.2 h.1 h.2
theorem sxH_ok : SXOK Try.prog cf0 sxH := sxok_of (all_cons chkB_ok all_nil) all_nil
theorem HasB_all (n : Int) (s : List Int) (t : Int) (hb : By s) (hl : s.length ≤ 1000) : scallI sxH Try.prog cf0 (sexec sxH Try.prog cf0 1000) 18 0 [.int .i64 (.sym n), row s, .int .i64 (.sym t)] (post (.tup [.bool (.sym (hasV n s t = true)), .int .i64 (.sym (hasE n s t))])) := by
  rw [vc_HasB]
  refine Exists.intro (n, s) ⟨⟨rfl, ⟨rfl, rfl⟩, trivial⟩, ⟨hb, hl⟩, fun h0 => ?_, fun h0 => ?_⟩
  · have h0 : ¬ chkR n s = 0 := h0
    have e : hasE n s t = chkR n s := by unfold hasE; rw [if_neg h0]
    simp [hasV, e, h0]
  · have h0 : chkR n s = 0 := Classical.not_not.1 h0
    have hm := chk_size h0
    have hs := sizeB_iff.1 hm.1
    obtain ⟨p1, p2, p3⟩ := pages_le hs.1 hs.2
    have hp : s.length = pages n := by
      have := hm.2
      unfold mayB at this
      simp only [Bool.and_eq_true, decide_eq_true_eq] at this
      exact this.1.2
    refine ⟨fun h1 => ?_, fun h1 => ⟨fun h2 => ?_, fun h2 => ?_⟩⟩
    · have e : hasE n s t = 2 := by unfold hasE; rw [if_pos h0, if_neg (by omega)]
      simp [hasV, e]
    · have e : hasE n s t = 2 := by unfold hasE; rw [if_pos h0, if_neg (by omega)]
      simp [hasV, e]
    · have e : hasE n s t = 0 := by unfold hasE; rw [if_pos h0, if_pos (by omega)]
      obtain ⟨k, rfl⟩ : ∃ k : Nat, t = k := ⟨t.toNat, by omega⟩
      have e1 : Int.tdiv (k : Int) 8 = ((k / 8 : Nat) : Int) := rfl
      have e2 : Int.tmod (k : Int) 8 = ((k % 8 : Nat) : Int) := rfl
      rw [e1, e2, wr_i64 (by omega) (by omega)]
      simp only [Int.toNat_natCast]
      refine ⟨by omega, by omega, by omega, fun y hy => ⟨by omega, ?_, by rw [e], trivial⟩⟩
      obtain ⟨y0, y1⟩ := hb y (List.mem_of_getElem? hy)
      obtain ⟨m, rfl, hm⟩ := nat_of y0 y1
      have := bit_and ⟨k % 8, by omega⟩ ⟨m, hm⟩
      simp only at this
      unfold hasV
      rw [e]
      unfold inB
      simp only [Int.toNat_natCast, List.getD_eq_getElem?_getD, hy, Option.getD_some, decide_true, Bool.true_and]
      have t2 := congrArg (fun b => !b) this
      simp only [Bool.not_not] at t2
      rw [← t2]
      simp
theorem chks_all (n : Int) (s u : List Int) (hb : By s) (hu : By u) (hl : s.length ≤ 1000) (hm : u.length ≤ 1000) : scallI sxH Try.prog cf0 (sexec sxH Try.prog cf0 1000) 49 0 [.int .i64 (.sym n), .slI false (.lit [row s, row u]) (.lit 2) true] (post (.int .i64 (.sym (firstE n s u)))) := by
  rw [vc_chks]
  refine Exists.intro (n, s) ⟨⟨rfl, ⟨rfl, rfl⟩, trivial⟩, ⟨hb, hl⟩, fun h => ?_, fun h => Exists.intro (n, u) ⟨⟨rfl, ⟨rfl, rfl⟩, trivial⟩, ⟨hu, hm⟩, fun h2 => ?_, fun h2 => ?_⟩⟩
  · have h : ¬ chkR n s = 0 := h
    show chkR n s = firstE n s u
    unfold firstE; rw [if_neg h]
  · have h : chkR n s = 0 := Classical.not_not.1 h
    show chkR n u = firstE n s u
    unfold firstE; rw [if_pos h]
  · have h : chkR n s = 0 := Classical.not_not.1 h
    have h2 : chkR n u = 0 := Classical.not_not.1 h2
    show 0 = firstE n s u
    unfold firstE; rw [if_pos h, h2]

end
end Go.Proofs.Ytifgifhbefhkmaa.VM
