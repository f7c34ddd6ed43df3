/- Nets: rows of rows, and plain functions over them, told. No conditions. -/
import Derived.Test.YtifcjhfejacmcaaProg
import Derived.KernelRfl
import Derived.Test.YtifcjhfejacmcaaSVx
import Derived.Test.YtifcjhfejacmcaaVMcl
/- Nets: rows of rows, and plain functions over them, told. No conditions. -/
namespace Go.Proofs.Ytifcjhfejacmcaa.VM
open Go Go.RowKit
set_option linter.unusedVariables false
set_option linter.unusedSimpArgs false
set_option maxRecDepth 100000
noncomputable section
def cf0 : Cfg := ⟨fun f => Nat.beq f 12, fun f => Nat.beq f 13 || Nat.beq f 16, fun f => bif Nat.beq f 14 then some cloneG else none⟩
def row (s : List Int) : SV := .slI false (bytesC s) (.sym s.length) false
def eT (x : List Int) : List SV := [row x]
def rows2 (l : List (List Int)) : SV := .slI false (.rows eT 1 2 false l) (.sym l.length) false
/-- A row of rows, and how many of them count. -/
def rowsN (l : List (List Int)) (m : Nat) : SV := .slI false (.rows eT 1 2 false l) (.sym m) false
def By (l : List Int) : Prop := ∀ x ∈ l, 0 ≤ x ∧ x < 256
def All (l : List (List Int)) : Prop := ∀ x ∈ l, By x ∧ x.length ≤ 200
def rowT : TypeId → Option SRow := fun t => bif Nat.beq t 5 then some ⟨Int, eB, 1, 1, true, 0⟩ else none
/-- What comes back, told and not looked into. -/
structure PostS (r v : SV) (bs : List SBlk) : Prop where
  h : post r v bs
def PostK (r v : SV) (bs : List SBlk) : Prop := forceV 12 v fun v => PostS r v bs
def ctClone : SCall := Ct (fun x : List Int => [row x]) (fun x => x.length ≤ 200) (fun x => .slI true (bytesC x) (.sym x.length) false)
/-- Great: the loop. -/
def L5 : LInv where
  ι := List (List Int) × Nat
  G := fun a => a.2 ≤ a.1.length ∧ a.2 ≤ 100
  μ := fun a => 100 - a.2
  I := fun a => ⟨stT 23 [(0, rows2 a.1), (3, .int .i64 (.sym (a.2 : Int)))], [], 0⟩
  Ω := List (List Int)
  e := 0
  PE := fun a o => o = a.1 ∧ ∀ (k : Nat) x, a.2 ≤ k → k < 100 → a.1[k]? = some x → x.length ≤ 200
  OE := fun o => ⟨stT 23 [(0, rows2 o)], [], 0⟩
  ret := true
  Ρ := Unit
  PR := fun a _ => ∃ (k : Nat) (x : List Int), k < 100 ∧ a.1[k]? = some x ∧ 200 < x.length
  OR := fun _ => ⟨stT 23 [(2, .bool (.lit true))], [], 0⟩
/-- Twin: the loop. -/
def L12 : LInv where
  ι := List (List Int) × Nat
  G := fun a => All a.1 ∧ 1 ≤ a.2 ∧ a.2 ≤ a.1.length ∧ a.1.length ≤ 1000
  μ := fun a => a.1.length - a.2
  I := fun a => ⟨stT 18 [(5, rows2 a.1), (6, .int .i64 (.sym (a.1.length : Int))), (7, .int .i64 (.sym (a.2 : Int))), (2, .slB 0 (.lit 0) 1 1000 (.sym a.2))], [(0, ⟨.rows eT 1 2 false (a.1.take a.2), 1, 1000, false, false⟩)], 1⟩
  Ω := List (List Int)
  e := 0
  PE := fun a o => o = a.1
  OE := fun o => ⟨stT 18 [(2, .slB 0 (.lit 0) 1 1000 (.sym o.length))], [(0, ⟨.rows eT 1 2 false o, 1, 1000, false, false⟩)], 1⟩
  ret := false
  Ρ := Unit
  PR := fun _ _ => False
  OR := fun _ => ⟨[], [], 0⟩
/-- SameAll: the loop. -/
def L7 : LInv where
  ι := ((List (List Int) × Nat) × (List (List Int) × Nat)) × Nat
  G := fun a => All a.1.1.1 ∧ All a.1.2.1 ∧ a.1.1.2 = a.1.2.2 ∧ a.1.1.2 ≤ a.1.1.1.length ∧ a.1.2.2 ≤ a.1.2.1.length ∧ a.2 ≤ a.1.1.2 ∧ a.1.1.2 ≤ 1000
  μ := fun a => a.1.1.2 - a.2
  I := fun a => ⟨stT 28 [(0, rowsN a.1.1.1 a.1.1.2), (1, rowsN a.1.2.1 a.1.2.2), (5, .int .i64 (.sym (a.2 : Int)))], [], 0⟩
  Ω := Unit
  e := 0
  PE := fun a _ => ∀ k : Nat, a.2 ≤ k → k < a.1.1.2 → a.1.1.1[k]? = a.1.2.1[k]?
  OE := fun _ => ⟨stT 28 [], [], 0⟩
  ret := true
  Ρ := Unit
  PR := fun a _ => a.1.1.1.take a.1.1.2 ≠ a.1.2.1.take a.1.2.2
  OR := fun _ => ⟨stT 28 [(4, .bool (.lit false))], [], 0⟩
/-- count: the loop. -/
def L8 : LInv where
  ι := (List (List Int) × List Int) × Nat
  G := fun a => All a.1.1 ∧ By a.1.2 ∧ a.2 ≤ a.1.1.length ∧ a.1.1.length ≤ 1000
  μ := fun a => a.1.1.length - a.2
  I := fun a => ⟨stT 24 [(0, rows2 a.1.1), (1, row a.1.2), (6, .int .i64 (.sym (a.2 : Int))), (5, .int .i64 (.sym ((a.1.1.take a.2).count a.1.2 : Int)))], [], 0⟩
  Ω := List (List Int) × List Int
  e := 0
  PE := fun a o => o = a.1
  OE := fun o => ⟨stT 24 [(5, .int .i64 (.sym (o.1.count o.2 : Int)))], [], 0⟩
  ret := false
  Ρ := Unit
  PR := fun _ _ => False
  OR := fun _ => ⟨[], [], 0⟩
def sx0 : SX := ⟨rowT, ctOf [(14, ctClone)], lpOf []⟩
def sx5 : SX := ⟨rowT, ctOf [], lpOf [(2, ⟨5, 0, L5.C 1000⟩)]⟩
def sx7 : SX := ⟨rowT, ctOf [], lpOf [(4, ⟨7, 0, L7.C 1000⟩)]⟩
def sx8 : SX := ⟨rowT, ctOf [], lpOf [(3, ⟨8, 0, L8.C 1000⟩)]⟩
def sx12 : SX := ⟨rowT, ctOf [(14, ctClone)], lpOf [(2, ⟨12, 0, peel sx0 Try.prog cf0 1000 12 0 (L12.C 1000)⟩)]⟩
theorem vc_L5 (a : L5.ι) : (sexec sx0 Try.prog cf0 1000 (loopBody Try.prog 5 0) (L5.I a) (L5.round 1000 a)) = (((↑(Prod.snd a) : Int) < (↑(List.length (Prod.fst a)) : Int) → ((↑(Prod.snd a) : Int) < (100 : Int) → (0 : Int) ≤ (↑(Prod.snd a) : Int) ∧ (↑(Prod.snd a) : Int) < (↑(List.length (Prod.fst a)) : Int) ∧
Int.toNat (↑(Prod.snd a) : Int) < List.length (Prod.fst a) ∧ ∀ (y1 : List Int), (Prod.fst a)[Int.toNat (↑(Prod.snd a) : Int)]? = some y1 → ((200 : Int) < (↑(List.length y1) : Int) → ∃ (y2 : LInv.Ρ
L5), (∃ (y3 : Nat), ∃ (y4 : List Int), y3 < (100 : Nat) ∧ (Prod.fst a)[y3]? = some y4 ∧ (200 : Nat) < List.length y4) ∧ (True ∧ True ∧ true = true ∧ True ∧ True ∧ True ∧ True ∧ True ∧ True ∧ True ∧
True ∧ True ∧ True ∧ True ∧ True ∧ True ∧ True ∧ True ∧ True ∧ True ∧ True ∧ True ∧ True ∧ True) ∧ True) ∧ (¬(200 : Int) < (↑(List.length y1) : Int) → ∃ (y2 : LInv.ι L5), (Prod.snd y2 ≤ List.length
(Prod.fst y2) ∧ Prod.snd y2 ≤ (100 : Nat)) ∧ LInv.μ L5 y2 < LInv.μ L5 a ∧ (∀ (y3 : LInv.Ω L5), LInv.PE L5 y2 y3 → y3 = Prod.fst a ∧ ∀ (y4 : Nat) (y5 : List Int), Prod.snd a ≤ y4 → y4 < (100 : Nat) →
(Prod.fst a)[y4]? = some y5 → List.length y5 ≤ (200 : Nat)) ∧ (∀ (y3 : LInv.Ρ L5), LInv.PR L5 y2 y3 → ∃ (y4 : Nat), ∃ (y5 : List Int), y4 < (100 : Nat) ∧ (Prod.fst a)[y4]? = some y5 ∧ (200 : Nat) <
List.length y5) ∧ ((List.length (Prod.fst a) = List.length (Prod.fst y2) ∧ SC.rows eT (1 : Nat) (2 : Nat) false (Prod.fst a) = SC.rows eT (1 : Nat) (2 : Nat) false (Prod.fst y2)) ∧ True ∧ True ∧
IntKind.wrap IntKind.i64 ((↑(Prod.snd a) : Int) + (1 : Int)) = (↑(Prod.snd y2) : Int) ∧ True ∧ True ∧ True ∧ True ∧ True ∧ True ∧ True ∧ True ∧ True ∧ True ∧ True ∧ True ∧ True ∧ True ∧ True ∧ True ∧
True ∧ True ∧ True ∧ True) ∧ True)) ∧ (¬(↑(Prod.snd a) : Int) < (100 : Int) → ∃ (y1 : LInv.Ω L5), (y1 = Prod.fst a ∧ ∀ (y2 : Nat) (y3 : List Int), Prod.snd a ≤ y2 → y2 < (100 : Nat) → (Prod.fst
a)[y2]? = some y3 → List.length y3 ≤ (200 : Nat)) ∧ ((List.length (Prod.fst a) = List.length y1 ∧ SC.rows eT (1 : Nat) (2 : Nat) false (Prod.fst a) = SC.rows eT (1 : Nat) (2 : Nat) false y1) ∧ True ∧
True ∧ True ∧ True ∧ True ∧ True ∧ True ∧ True ∧ True ∧ True ∧ True ∧ True ∧ True ∧ True ∧ True ∧ True ∧ True ∧ True ∧ True ∧ True ∧ True ∧ True ∧ True) ∧ True)) ∧ (¬(↑(Prod.snd a) : Int) <
(↑(List.length (Prod.fst a)) : Int) → ∃ (y1 : LInv.Ω L5), (y1 = Prod.fst a ∧ ∀ (y2 : Nat) (y3 : List Int), Prod.snd a ≤ y2 → y2 < (100 : Nat) → (Prod.fst a)[y2]? = some y3 → List.length y3 ≤ (200 :
Nat)) ∧ ((List.length (Prod.fst a) = List.length y1 ∧ SC.rows eT (1 : Nat) (2 : Nat) false (Prod.fst a) = SC.rows eT (1 : Nat) (2 : Nat) false y1) ∧ True ∧ True ∧ True ∧ True ∧ True ∧ True ∧ True ∧
True ∧ True ∧ True ∧ True ∧ True ∧ True ∧ True ∧ True ∧ True ∧ True ∧ True ∧ True ∧ True ∧ True ∧ True ∧ True) ∧ True)) := by kernel_rfl
theorem vc_L12 (a : L12.ι) : (sexec sx0 Try.prog cf0 1000 (loopBody Try.prog 12 0) (L12.I a) (L12.round 1000 a)) = (((↑(Prod.snd a) : Int) < (↑(List.length (Prod.fst a)) : Int) → (0 : Int) ≤ (↑(Prod.snd a) : Int) ∧ (↑(Prod.snd a) : Int) < (↑(List.length (Prod.fst a)) : Int) ∧ Int.toNat (↑(Prod.snd a) : Int) <
List.length (Prod.fst a) ∧ ∀ (y1 : List Int), (Prod.fst a)[Int.toNat (↑(Prod.snd a) : Int)]? = some y1 → ∃ (y2 : List Int), ((List.length y1 = List.length y2 ∧ SC.rows eB (1 : Nat) (1 : Nat) true y1 =
SC.rows eB (1 : Nat) (1 : Nat) true y2) ∧ True) ∧ List.length y2 ≤ (200 : Nat) ∧ Prod.snd a + (1 : Nat) ≤ (45812984490 : Nat) ∧ Prod.snd a = List.length (List.take (Prod.snd a) (Prod.fst a)) ∧ ∃ (y3 :
List Int), ((List.length y2 = List.length y3 ∧ SC.rows eB (1 : Nat) (1 : Nat) true y2 = SC.rows eB (1 : Nat) (1 : Nat) true y3) ∧ True) ∧ ∃ (y4 : LInv.ι L12), ((∀ (y5 : List Int), y5 ∈ Prod.fst y4 →
(∀ (y6 : Int), y6 ∈ y5 → (0 : Int) ≤ y6 ∧ y6 < (256 : Int)) ∧ List.length y5 ≤ (200 : Nat)) ∧ (1 : Nat) ≤ Prod.snd y4 ∧ Prod.snd y4 ≤ List.length (Prod.fst y4) ∧ List.length (Prod.fst y4) ≤ (1000 :
Nat)) ∧ LInv.μ L12 y4 < LInv.μ L12 a ∧ (∀ (y5 : LInv.Ω L12), LInv.PE L12 y4 y5 → y5 = Prod.fst a) ∧ True ∧ (True ∧ True ∧ ((0 : Nat) = (0 : Nat) ∧ Prod.snd a + (1 : Nat) = Prod.snd y4) ∧ True ∧ True ∧
(List.length (Prod.fst a) = List.length (Prod.fst y4) ∧ SC.rows eT (1 : Nat) (2 : Nat) false (Prod.fst a) = SC.rows eT (1 : Nat) (2 : Nat) false (Prod.fst y4)) ∧ (↑(List.length (Prod.fst a)) : Int) =
(↑(List.length (Prod.fst y4)) : Int) ∧ IntKind.wrap IntKind.i64 ((↑(Prod.snd a) : Int) + (1 : Int)) = (↑(Prod.snd y4) : Int) ∧ True ∧ True ∧ True ∧ True ∧ True ∧ True ∧ True ∧ True ∧ True ∧ True ∧
True) ∧ SC.rows eT (1 : Nat) (2 : Nat) false (rdrop (SN.lit (0 : Nat)) (List.take (Prod.snd a) (Prod.fst a)) ++ [y3]) = SC.rows eT (1 : Nat) (2 : Nat) false (List.take (Prod.snd y4) (Prod.fst y4)) ∧
True) ∧ (¬(↑(Prod.snd a) : Int) < (↑(List.length (Prod.fst a)) : Int) → ∃ (y1 : LInv.Ω L12), y1 = Prod.fst a ∧ (True ∧ True ∧ ((0 : Nat) = (0 : Nat) ∧ Prod.snd a = List.length y1) ∧ True ∧ True ∧ True
∧ True ∧ True ∧ True ∧ True ∧ True ∧ True ∧ True ∧ True ∧ True ∧ True ∧ True ∧ True ∧ True) ∧ SC.rows eT (1 : Nat) (2 : Nat) false (List.take (Prod.snd a) (Prod.fst a)) = SC.rows eT (1 : Nat) (2 :
Nat) false y1 ∧ True)) := by kernel_rfl
theorem vc_L7 (a : L7.ι) : (sexec sx0 Try.prog cf0 1000 (loopBody Try.prog 7 0) (L7.I a) (L7.round 1000 a)) = (((↑(Prod.snd a) : Int) < (↑(Prod.snd (Prod.fst (Prod.fst a))) : Int) → (0 : Int) ≤ (↑(Prod.snd a) : Int) ∧ (↑(Prod.snd a) : Int) < (↑(Prod.snd (Prod.fst (Prod.fst a))) : Int) ∧ Int.toNat (↑(Prod.snd
a) : Int) < List.length (Prod.fst (Prod.fst (Prod.fst a))) ∧ ∀ (y1 : List Int), (Prod.fst (Prod.fst (Prod.fst a)))[Int.toNat (↑(Prod.snd a) : Int)]? = some y1 → List.length y1 ≤ List.length y1 ∧ ∃ (y2
: List Int), SC.rows eB (1 : Nat) (1 : Nat) true (List.take (List.length y1) (rdrop (SN.lit (0 : Nat)) y1)) = SC.rows eB (1 : Nat) (1 : Nat) true y2 ∧ (0 : Int) ≤ (↑(Prod.snd a) : Int) ∧ (↑(Prod.snd
a) : Int) < (↑(Prod.snd (Prod.snd (Prod.fst a))) : Int) ∧ Int.toNat (↑(Prod.snd a) : Int) < List.length (Prod.fst (Prod.snd (Prod.fst a))) ∧ ∀ (y3 : List Int), (Prod.fst (Prod.snd (Prod.fst
a)))[Int.toNat (↑(Prod.snd a) : Int)]? = some y3 → List.length y3 ≤ List.length y3 ∧ ∃ (y4 : List Int), SC.rows eB (1 : Nat) (1 : Nat) true (List.take (List.length y3) (rdrop (SN.lit (0 : Nat)) y3)) =
SC.rows eB (1 : Nat) (1 : Nat) true y4 ∧ isBytes y2 ∧ isBytes y4 ∧ (¬y2 = y4 → ∃ (y5 : LInv.Ρ L7), (List.take (Prod.snd (Prod.fst (Prod.fst a))) (Prod.fst (Prod.fst (Prod.fst a))) = List.take
(Prod.snd (Prod.snd (Prod.fst a))) (Prod.fst (Prod.snd (Prod.fst a))) → False) ∧ (True ∧ True ∧ True ∧ True ∧ false = false ∧ True ∧ True ∧ True ∧ True ∧ True ∧ True ∧ True ∧ True ∧ True ∧ True ∧ True
∧ True ∧ True ∧ True ∧ True ∧ True ∧ True ∧ True ∧ True ∧ True ∧ True ∧ True ∧ True ∧ True) ∧ True) ∧ (¬¬y2 = y4 → ∃ (y5 : LInv.ι L7), ((∀ (y6 : List Int), y6 ∈ Prod.fst (Prod.fst (Prod.fst y5)) → (∀
(y7 : Int), y7 ∈ y6 → (0 : Int) ≤ y7 ∧ y7 < (256 : Int)) ∧ List.length y6 ≤ (200 : Nat)) ∧ (∀ (y6 : List Int), y6 ∈ Prod.fst (Prod.snd (Prod.fst y5)) → (∀ (y7 : Int), y7 ∈ y6 → (0 : Int) ≤ y7 ∧ y7 <
(256 : Int)) ∧ List.length y6 ≤ (200 : Nat)) ∧ Prod.snd (Prod.fst (Prod.fst y5)) = Prod.snd (Prod.snd (Prod.fst y5)) ∧ Prod.snd (Prod.fst (Prod.fst y5)) ≤ List.length (Prod.fst (Prod.fst (Prod.fst
y5))) ∧ Prod.snd (Prod.snd (Prod.fst y5)) ≤ List.length (Prod.fst (Prod.snd (Prod.fst y5))) ∧ Prod.snd y5 ≤ Prod.snd (Prod.fst (Prod.fst y5)) ∧ Prod.snd (Prod.fst (Prod.fst y5)) ≤ (1000 : Nat)) ∧
LInv.μ L7 y5 < LInv.μ L7 a ∧ (∀ (y6 : LInv.Ω L7), LInv.PE L7 y5 y6 → ∀ (y7 : Nat), Prod.snd a ≤ y7 → y7 < Prod.snd (Prod.fst (Prod.fst a)) → (Prod.fst (Prod.fst (Prod.fst a)))[y7]? = (Prod.fst
(Prod.snd (Prod.fst a)))[y7]?) ∧ (∀ (y6 : LInv.Ρ L7), LInv.PR L7 y5 y6 → List.take (Prod.snd (Prod.fst (Prod.fst a))) (Prod.fst (Prod.fst (Prod.fst a))) = List.take (Prod.snd (Prod.snd (Prod.fst a)))
(Prod.fst (Prod.snd (Prod.fst a))) → False) ∧ ((Prod.snd (Prod.fst (Prod.fst a)) = Prod.snd (Prod.fst (Prod.fst y5)) ∧ SC.rows eT (1 : Nat) (2 : Nat) false (Prod.fst (Prod.fst (Prod.fst a))) = SC.rows
eT (1 : Nat) (2 : Nat) false (Prod.fst (Prod.fst (Prod.fst y5)))) ∧ (Prod.snd (Prod.snd (Prod.fst a)) = Prod.snd (Prod.snd (Prod.fst y5)) ∧ SC.rows eT (1 : Nat) (2 : Nat) false (Prod.fst (Prod.snd
(Prod.fst a))) = SC.rows eT (1 : Nat) (2 : Nat) false (Prod.fst (Prod.snd (Prod.fst y5)))) ∧ True ∧ True ∧ True ∧ IntKind.wrap IntKind.i64 ((↑(Prod.snd a) : Int) + (1 : Int)) = (↑(Prod.snd y5) : Int)
∧ True ∧ True ∧ True ∧ True ∧ True ∧ True ∧ True ∧ True ∧ True ∧ True ∧ True ∧ True ∧ True ∧ True ∧ True ∧ True ∧ True ∧ True ∧ True ∧ True ∧ True ∧ True ∧ True) ∧ True)) ∧ (¬(↑(Prod.snd a) : Int) <
(↑(Prod.snd (Prod.fst (Prod.fst a))) : Int) → ∃ (y1 : LInv.Ω L7), (∀ (y2 : Nat), Prod.snd a ≤ y2 → y2 < Prod.snd (Prod.fst (Prod.fst a)) → (Prod.fst (Prod.fst (Prod.fst a)))[y2]? = (Prod.fst (Prod.snd
(Prod.fst a)))[y2]?) ∧ (True ∧ True ∧ True ∧ True ∧ True ∧ True ∧ True ∧ True ∧ True ∧ True ∧ True ∧ True ∧ True ∧ True ∧ True ∧ True ∧ True ∧ True ∧ True ∧ True ∧ True ∧ True ∧ True ∧ True ∧ True ∧
True ∧ True ∧ True ∧ True) ∧ True)) := by kernel_rfl
theorem vc_L8 (a : L8.ι) : (sexec sx0 Try.prog cf0 1000 (loopBody Try.prog 8 0) (L8.I a) (L8.round 1000 a)) = (((↑(Prod.snd a) : Int) < (↑(List.length (Prod.fst (Prod.fst a))) : Int) → (0 : Int) ≤ (↑(Prod.snd a) : Int) ∧ (↑(Prod.snd a) : Int) < (↑(List.length (Prod.fst (Prod.fst a))) : Int) ∧ Int.toNat
(↑(Prod.snd a) : Int) < List.length (Prod.fst (Prod.fst a)) ∧ ∀ (y1 : List Int), (Prod.fst (Prod.fst a))[Int.toNat (↑(Prod.snd a) : Int)]? = some y1 → List.length y1 ≤ List.length y1 ∧ ∃ (y2 : List
Int), SC.rows eB (1 : Nat) (1 : Nat) true (List.take (List.length y1) (rdrop (SN.lit (0 : Nat)) y1)) = SC.rows eB (1 : Nat) (1 : Nat) true y2 ∧ List.length (Prod.snd (Prod.fst a)) ≤ List.length
(Prod.snd (Prod.fst a)) ∧ ∃ (y3 : List Int), SC.rows eB (1 : Nat) (1 : Nat) true (List.take (List.length (Prod.snd (Prod.fst a))) (rdrop (SN.lit (0 : Nat)) (Prod.snd (Prod.fst a)))) = SC.rows eB (1 :
Nat) (1 : Nat) true y3 ∧ isBytes y2 ∧ isBytes y3 ∧ (y2 = y3 → ∃ (y4 : LInv.ι L8), ((∀ (y5 : List Int), y5 ∈ Prod.fst (Prod.fst y4) → (∀ (y6 : Int), y6 ∈ y5 → (0 : Int) ≤ y6 ∧ y6 < (256 : Int)) ∧
List.length y5 ≤ (200 : Nat)) ∧ (∀ (y5 : Int), y5 ∈ Prod.snd (Prod.fst y4) → (0 : Int) ≤ y5 ∧ y5 < (256 : Int)) ∧ Prod.snd y4 ≤ List.length (Prod.fst (Prod.fst y4)) ∧ List.length (Prod.fst (Prod.fst
y4)) ≤ (1000 : Nat)) ∧ LInv.μ L8 y4 < LInv.μ L8 a ∧ (∀ (y5 : LInv.Ω L8), LInv.PE L8 y4 y5 → y5 = Prod.fst a) ∧ True ∧ ((List.length (Prod.fst (Prod.fst a)) = List.length (Prod.fst (Prod.fst y4)) ∧
SC.rows eT (1 : Nat) (2 : Nat) false (Prod.fst (Prod.fst a)) = SC.rows eT (1 : Nat) (2 : Nat) false (Prod.fst (Prod.fst y4))) ∧ (List.length (Prod.snd (Prod.fst a)) = List.length (Prod.snd (Prod.fst
y4)) ∧ SC.rows eB (1 : Nat) (1 : Nat) true (Prod.snd (Prod.fst a)) = SC.rows eB (1 : Nat) (1 : Nat) true (Prod.snd (Prod.fst y4))) ∧ True ∧ True ∧ True ∧ IntKind.wrap IntKind.i64 ((↑(List.count
(Prod.snd (Prod.fst a)) (List.take (Prod.snd a) (Prod.fst (Prod.fst a)))) : Int) + (1 : Int)) = (↑(List.count (Prod.snd (Prod.fst y4)) (List.take (Prod.snd y4) (Prod.fst (Prod.fst y4)))) : Int) ∧
IntKind.wrap IntKind.i64 ((↑(Prod.snd a) : Int) + (1 : Int)) = (↑(Prod.snd y4) : Int) ∧ True ∧ True ∧ True ∧ True ∧ True ∧ True ∧ True ∧ True ∧ True ∧ True ∧ True ∧ True ∧ True ∧ True ∧ True ∧ True ∧
True ∧ True) ∧ True) ∧ (¬y2 = y3 → ∃ (y4 : LInv.ι L8), ((∀ (y5 : List Int), y5 ∈ Prod.fst (Prod.fst y4) → (∀ (y6 : Int), y6 ∈ y5 → (0 : Int) ≤ y6 ∧ y6 < (256 : Int)) ∧ List.length y5 ≤ (200 : Nat)) ∧
(∀ (y5 : Int), y5 ∈ Prod.snd (Prod.fst y4) → (0 : Int) ≤ y5 ∧ y5 < (256 : Int)) ∧ Prod.snd y4 ≤ List.length (Prod.fst (Prod.fst y4)) ∧ List.length (Prod.fst (Prod.fst y4)) ≤ (1000 : Nat)) ∧ LInv.μ L8
y4 < LInv.μ L8 a ∧ (∀ (y5 : LInv.Ω L8), LInv.PE L8 y4 y5 → y5 = Prod.fst a) ∧ True ∧ ((List.length (Prod.fst (Prod.fst a)) = List.length (Prod.fst (Prod.fst y4)) ∧ SC.rows eT (1 : Nat) (2 : Nat) false
(Prod.fst (Prod.fst a)) = SC.rows eT (1 : Nat) (2 : Nat) false (Prod.fst (Prod.fst y4))) ∧ (List.length (Prod.snd (Prod.fst a)) = List.length (Prod.snd (Prod.fst y4)) ∧ SC.rows eB (1 : Nat) (1 : Nat)
true (Prod.snd (Prod.fst a)) = SC.rows eB (1 : Nat) (1 : Nat) true (Prod.snd (Prod.fst y4))) ∧ True ∧ True ∧ True ∧ (↑(List.count (Prod.snd (Prod.fst a)) (List.take (Prod.snd a) (Prod.fst (Prod.fst
a)))) : Int) = (↑(List.count (Prod.snd (Prod.fst y4)) (List.take (Prod.snd y4) (Prod.fst (Prod.fst y4)))) : Int) ∧ IntKind.wrap IntKind.i64 ((↑(Prod.snd a) : Int) + (1 : Int)) = (↑(Prod.snd y4) : Int)
∧ True ∧ True ∧ True ∧ True ∧ True ∧ True ∧ True ∧ True ∧ True ∧ True ∧ True ∧ True ∧ True ∧ True ∧ True ∧ True ∧ True ∧ True) ∧ True)) ∧ (¬(↑(Prod.snd a) : Int) < (↑(List.length (Prod.fst (Prod.fst
a))) : Int) → ∃ (y1 : LInv.Ω L8), y1 = Prod.fst a ∧ (True ∧ True ∧ True ∧ True ∧ True ∧ (↑(List.count (Prod.snd (Prod.fst a)) (List.take (Prod.snd a) (Prod.fst (Prod.fst a)))) : Int) = (↑(List.count
(Prod.snd y1) (Prod.fst y1)) : Int) ∧ True ∧ True ∧ True ∧ True ∧ True ∧ True ∧ True ∧ True ∧ True ∧ True ∧ True ∧ True ∧ True ∧ True ∧ True ∧ True ∧ True ∧ True ∧ True) ∧ True)) := by kernel_rfl
theorem vc_Great (n : List (List Int)) (p : Prop) : (scallI sx5 Try.prog cf0 (sexec sx5 Try.prog cf0 1000) 5 0 [rows2 n] (post (.bool (.sym p)))) = (SameCode (loopBody Try.prog (5 : Nat) (0 : Nat)) (loopBody Try.prog (5 : Nat) (0 : Nat)) ∧ ∃ (y2 : LInv.ι L5), (Prod.snd y2 ≤ List.length (Prod.fst y2) ∧ Prod.snd y2 ≤ (100 : Nat)) ∧ (((List.length n
= List.length (Prod.fst y2) ∧ SC.rows eT (1 : Nat) (2 : Nat) false n = SC.rows eT (1 : Nat) (2 : Nat) false (Prod.fst y2)) ∧ True ∧ True ∧ (0 : Int) = (↑(Prod.snd y2) : Int) ∧ True ∧ True ∧ True ∧
True ∧ True ∧ True ∧ True ∧ True ∧ True ∧ True ∧ True ∧ True ∧ True ∧ True ∧ True ∧ True ∧ True ∧ True ∧ True ∧ True) ∧ True) ∧ (∀ (y3 : LInv.ι L5), True) ∧ (∀ (y3 : LInv.Ω L5), LInv.PE L5 y2 y3 →
((100 : Int) < (↑(List.length y3) : Int) ↔ p)) ∧ ∀ (y3 : LInv.Ρ L5), LInv.PR L5 y2 y3 → (true = true ↔ p)) := by kernel_rfl
theorem vc_Same (n m : List (List Int)) (a b : Nat) (p : Prop) : (scallI sx7 Try.prog cf0 (sexec sx7 Try.prog cf0 1000) 7 0 [rowsN n a, rowsN m b] (post (.bool (.sym p)))) = ((¬(↑a : Int) = (↑b : Int) → (false = true ↔ p)) ∧ (¬¬(↑a : Int) = (↑b : Int) → SameCode (loopBody Try.prog (7 : Nat) (0 : Nat)) (loopBody Try.prog (7 : Nat) (0 : Nat)) ∧ ∃ (y5 : LInv.ι L7), ((∀ (y6 :
List Int), y6 ∈ Prod.fst (Prod.fst (Prod.fst y5)) → (∀ (y7 : Int), y7 ∈ y6 → (0 : Int) ≤ y7 ∧ y7 < (256 : Int)) ∧ List.length y6 ≤ (200 : Nat)) ∧ (∀ (y6 : List Int), y6 ∈ Prod.fst (Prod.snd (Prod.fst
y5)) → (∀ (y7 : Int), y7 ∈ y6 → (0 : Int) ≤ y7 ∧ y7 < (256 : Int)) ∧ List.length y6 ≤ (200 : Nat)) ∧ Prod.snd (Prod.fst (Prod.fst y5)) = Prod.snd (Prod.snd (Prod.fst y5)) ∧ Prod.snd (Prod.fst
(Prod.fst y5)) ≤ List.length (Prod.fst (Prod.fst (Prod.fst y5))) ∧ Prod.snd (Prod.snd (Prod.fst y5)) ≤ List.length (Prod.fst (Prod.snd (Prod.fst y5))) ∧ Prod.snd y5 ≤ Prod.snd (Prod.fst (Prod.fst y5))
∧ Prod.snd (Prod.fst (Prod.fst y5)) ≤ (1000 : Nat)) ∧ (((a = Prod.snd (Prod.fst (Prod.fst y5)) ∧ SC.rows eT (1 : Nat) (2 : Nat) false n = SC.rows eT (1 : Nat) (2 : Nat) false (Prod.fst (Prod.fst
(Prod.fst y5)))) ∧ (b = Prod.snd (Prod.snd (Prod.fst y5)) ∧ SC.rows eT (1 : Nat) (2 : Nat) false m = SC.rows eT (1 : Nat) (2 : Nat) false (Prod.fst (Prod.snd (Prod.fst y5)))) ∧ True ∧ True ∧ True ∧ (0
: Int) = (↑(Prod.snd y5) : Int) ∧ True ∧ True ∧ True ∧ True ∧ True ∧ True ∧ True ∧ True ∧ True ∧ True ∧ True ∧ True ∧ True ∧ True ∧ True ∧ True ∧ True ∧ True ∧ True ∧ True ∧ True ∧ True ∧ True) ∧
True) ∧ (∀ (y6 : LInv.ι L7), True) ∧ (∀ (y6 : LInv.Ω L7), LInv.PE L7 y5 y6 → (true = true ↔ p)) ∧ ∀ (y6 : LInv.Ρ L7), LInv.PR L7 y5 y6 → (false = true ↔ p))) := by kernel_rfl
theorem vc_count (n : List (List Int)) (b : List Int) (x : Int) : (scallI sx8 Try.prog cf0 (sexec sx8 Try.prog cf0 1000) 8 0 [rows2 n, row b] (post (.int .i64 (.sym x)))) = (SameCode (loopBody Try.prog (8 : Nat) (0 : Nat)) (loopBody Try.prog (8 : Nat) (0 : Nat)) ∧ ∃ (y3 : LInv.ι L8), ((∀ (y4 : List Int), y4 ∈ Prod.fst (Prod.fst y3) → (∀ (y5 : Int), y5 ∈ y4 → (0 : Int) ≤
y5 ∧ y5 < (256 : Int)) ∧ List.length y4 ≤ (200 : Nat)) ∧ (∀ (y4 : Int), y4 ∈ Prod.snd (Prod.fst y3) → (0 : Int) ≤ y4 ∧ y4 < (256 : Int)) ∧ Prod.snd y3 ≤ List.length (Prod.fst (Prod.fst y3)) ∧
List.length (Prod.fst (Prod.fst y3)) ≤ (1000 : Nat)) ∧ (((List.length n = List.length (Prod.fst (Prod.fst y3)) ∧ SC.rows eT (1 : Nat) (2 : Nat) false n = SC.rows eT (1 : Nat) (2 : Nat) false (Prod.fst
(Prod.fst y3))) ∧ (List.length b = List.length (Prod.snd (Prod.fst y3)) ∧ SC.rows eB (1 : Nat) (1 : Nat) true b = SC.rows eB (1 : Nat) (1 : Nat) true (Prod.snd (Prod.fst y3))) ∧ True ∧ True ∧ True ∧
(0 : Int) = (↑(List.count (Prod.snd (Prod.fst y3)) (List.take (Prod.snd y3) (Prod.fst (Prod.fst y3)))) : Int) ∧ (0 : Int) = (↑(Prod.snd y3) : Int) ∧ True ∧ True ∧ True ∧ True ∧ True ∧ True ∧ True ∧
True ∧ True ∧ True ∧ True ∧ True ∧ True ∧ True ∧ True ∧ True ∧ True ∧ True) ∧ True) ∧ (∀ (y4 : LInv.ι L8), True) ∧ (∀ (y4 : LInv.Ω L8), LInv.PE L8 y3 y4 → (↑(List.count (Prod.snd y4) (Prod.fst y4)) :
Int) = x) ∧ True) := by kernel_rfl
theorem vc_Send (n : List (List Int)) (b : List Int) (l : List (List Int)) (x : Int) : (scallI sx12 Try.prog cf0 (sexec sx12 Try.prog cf0 1000) 6 0 [rows2 n, row b] (PostK (.tup [rows2 l, .int .i64 (.sym x)]))) = (((64 : Int) < (↑(List.length n) : Int) → PostS (SV.tup [SV.slI false (SC.rows eT (1 : Nat) (2 : Nat) false l) (SN.sym (List.length l)) false, SV.int IntKind.i64 (SI.sym x)]) (SV.tup [SV.nilSl, SV.int
IntKind.i64 (SI.lit (8 : Int))]) []) ∧ (¬(64 : Int) < (↑(List.length n) : Int) → SameCode (loopBody Try.prog (12 : Nat) (0 : Nat)) (loopBody Try.prog (12 : Nat) (0 : Nat)) ∧ ((0 : Int) <
(↑(List.length n) : Int) → (0 : Int) < (↑(List.length n) : Int) ∧ (0 : Nat) < List.length n ∧ ∀ (y4 : List Int), n[(0 : Nat)]? = some y4 → ∃ (y5 : List Int), ((List.length y4 = List.length y5 ∧
SC.rows eB (1 : Nat) (1 : Nat) true y4 = SC.rows eB (1 : Nat) (1 : Nat) true y5) ∧ True) ∧ List.length y5 ≤ (200 : Nat) ∧ ∃ (y6 : LInv.ι L12), ((∀ (y7 : List Int), y7 ∈ Prod.fst y6 → (∀ (y8 : Int), y8
∈ y7 → (0 : Int) ≤ y8 ∧ y8 < (256 : Int)) ∧ List.length y7 ≤ (200 : Nat)) ∧ (1 : Nat) ≤ Prod.snd y6 ∧ Prod.snd y6 ≤ List.length (Prod.fst y6) ∧ List.length (Prod.fst y6) ≤ (1000 : Nat)) ∧ ((True ∧
True ∧ ((0 : Nat) = (0 : Nat) ∧ (1 : Nat) = Prod.snd y6) ∧ True ∧ True ∧ (List.length n = List.length (Prod.fst y6) ∧ SC.rows eT (1 : Nat) (2 : Nat) false n = SC.rows eT (1 : Nat) (2 : Nat) false
(Prod.fst y6)) ∧ (↑(List.length n) : Int) = (↑(List.length (Prod.fst y6)) : Int) ∧ (1 : Int) = (↑(Prod.snd y6) : Int) ∧ True ∧ True ∧ True ∧ True ∧ True ∧ True ∧ True ∧ True ∧ True ∧ True ∧ True) ∧
(ROK eT (1 : Nat) (2 : Nat) false ∧ sles [SV.slI true (SC.rows eB (1 : Nat) (1 : Nat) true y5) (SN.sym (List.length y5)) false] (List.flatMap eT (List.take (Prod.snd y6) (Prod.fst y6)))) ∧ True) ∧ (∀
(y7 : LInv.ι L12), True) ∧ (∀ (y7 : LInv.Ω L12), LInv.PE L12 y6 y7 → List.length y7 ≤ List.length y7 ∧ ∃ (y8 : List Int), ((List.length b = List.length y8 ∧ SC.rows eB (1 : Nat) (1 : Nat) true b =
SC.rows eB (1 : Nat) (1 : Nat) true y8) ∧ True) ∧ List.length y8 ≤ (200 : Nat) ∧ ((↑(List.length y7) : Int) < (64 : Int) → List.length y7 + (1 : Nat) ≤ (45812984490 : Nat) ∧ List.length y7 =
List.length (List.take (List.length y7) (rdrop (SN.lit (0 : Nat)) y7)) ∧ ∃ (y9 : List Int), ((List.length y8 = List.length y9 ∧ SC.rows eB (1 : Nat) (1 : Nat) true y8 = SC.rows eB (1 : Nat) (1 : Nat)
true y9) ∧ True) ∧ List.length y7 + (1 : Nat) ≤ List.length (rdrop (SN.lit (0 : Nat)) (List.take (List.length y7) (rdrop (SN.lit (0 : Nat)) y7)) ++ [y9]) ∧ PostS (SV.tup [SV.slI false (SC.rows eT (1 :
Nat) (2 : Nat) false l) (SN.sym (List.length l)) false, SV.int IntKind.i64 (SI.sym x)]) (SV.tup [SV.slI true (SC.rows eT (1 : Nat) (2 : Nat) false (List.take (List.length y7 + (1 : Nat)) (rdrop
(SN.lit (0 : Nat)) (rdrop (SN.lit (0 : Nat)) (List.take (List.length y7) (rdrop (SN.lit (0 : Nat)) y7)) ++ [y9])))) (SN.sym (List.length y7 + (1 : Nat))) false, SV.int IntKind.i64 (SI.lit (0 : Int))])
[]) ∧ (¬(↑(List.length y7) : Int) < (64 : Int) → List.length y7 ≤ List.length (List.take (List.length y7) (rdrop (SN.lit (0 : Nat)) y7)) ∧ PostS (SV.tup [SV.slI false (SC.rows eT (1 : Nat) (2 : Nat)
false l) (SN.sym (List.length l)) false, SV.int IntKind.i64 (SI.sym x)]) (SV.tup [SV.slI true (SC.rows eT (1 : Nat) (2 : Nat) false (List.take (List.length y7) (rdrop (SN.lit (0 : Nat)) (List.take
(List.length y7) (rdrop (SN.lit (0 : Nat)) y7))))) (SN.sym (List.length y7)) false, SV.int IntKind.i64 (SI.lit (0 : Int))]) [])) ∧ True) ∧ (¬(0 : Int) < (↑(List.length n) : Int) → ∃ (y4 : List Int),
((List.length b = List.length y4 ∧ SC.rows eB (1 : Nat) (1 : Nat) true b = SC.rows eB (1 : Nat) (1 : Nat) true y4) ∧ True) ∧ List.length y4 ≤ (200 : Nat) ∧ PostS (SV.tup [SV.slI false (SC.rows eT (1 :
Nat) (2 : Nat) false l) (SN.sym (List.length l)) false, SV.int IntKind.i64 (SI.sym x)]) (SV.tup [SV.slI true (SC.lit [SV.slI true (SC.rows eB (1 : Nat) (1 : Nat) true y4) (SN.sym (List.length y4))
false]) (SN.lit (1 : Nat)) false, SV.int IntKind.i64 (SI.lit (0 : Int))]) []))) := by kernel_rfl
theorem vc_Twice (n : List (List Int)) (i : Int) (l : List (List Int)) (x : Int) : (scallI sx12 Try.prog cf0 (sexec sx12 Try.prog cf0 1000) 10 0 [rows2 n, .int .i64 (.sym i)] (PostK (.tup [rows2 l, .int .i64 (.sym x)]))) = (((64 : Int) < (↑(List.length n) : Int) → PostS (SV.tup [SV.slI false (SC.rows eT (1 : Nat) (2 : Nat) false l) (SN.sym (List.length l)) false, SV.int IntKind.i64 (SI.sym x)]) (SV.tup [SV.nilSl, SV.int
IntKind.i64 (SI.lit (8 : Int))]) []) ∧ (¬(64 : Int) < (↑(List.length n) : Int) → SameCode (loopBody Try.prog (12 : Nat) (0 : Nat)) (loopBody Try.prog (12 : Nat) (0 : Nat)) ∧ ((0 : Int) <
(↑(List.length n) : Int) → (0 : Int) < (↑(List.length n) : Int) ∧ (0 : Nat) < List.length n ∧ ∀ (y4 : List Int), n[(0 : Nat)]? = some y4 → ∃ (y5 : List Int), ((List.length y4 = List.length y5 ∧
SC.rows eB (1 : Nat) (1 : Nat) true y4 = SC.rows eB (1 : Nat) (1 : Nat) true y5) ∧ True) ∧ List.length y5 ≤ (200 : Nat) ∧ ∃ (y6 : LInv.ι L12), ((∀ (y7 : List Int), y7 ∈ Prod.fst y6 → (∀ (y8 : Int), y8
∈ y7 → (0 : Int) ≤ y8 ∧ y8 < (256 : Int)) ∧ List.length y7 ≤ (200 : Nat)) ∧ (1 : Nat) ≤ Prod.snd y6 ∧ Prod.snd y6 ≤ List.length (Prod.fst y6) ∧ List.length (Prod.fst y6) ≤ (1000 : Nat)) ∧ ((True ∧
True ∧ ((0 : Nat) = (0 : Nat) ∧ (1 : Nat) = Prod.snd y6) ∧ True ∧ True ∧ (List.length n = List.length (Prod.fst y6) ∧ SC.rows eT (1 : Nat) (2 : Nat) false n = SC.rows eT (1 : Nat) (2 : Nat) false
(Prod.fst y6)) ∧ (↑(List.length n) : Int) = (↑(List.length (Prod.fst y6)) : Int) ∧ (1 : Int) = (↑(Prod.snd y6) : Int) ∧ True ∧ True ∧ True ∧ True ∧ True ∧ True ∧ True ∧ True ∧ True ∧ True ∧ True) ∧
(ROK eT (1 : Nat) (2 : Nat) false ∧ sles [SV.slI true (SC.rows eB (1 : Nat) (1 : Nat) true y5) (SN.sym (List.length y5)) false] (List.flatMap eT (List.take (Prod.snd y6) (Prod.fst y6)))) ∧ True) ∧ (∀
(y7 : LInv.ι L12), True) ∧ (∀ (y7 : LInv.Ω L12), LInv.PE L12 y6 y7 → List.length y7 ≤ List.length y7 ∧ List.length y7 ≤ List.length (List.take (List.length y7) (rdrop (SN.lit (0 : Nat)) y7)) ∧ (i < (0
: Int) → PostS (SV.tup [SV.slI false (SC.rows eT (1 : Nat) (2 : Nat) false l) (SN.sym (List.length l)) false, SV.int IntKind.i64 (SI.sym x)]) (SV.tup [SV.nilSl, SV.int IntKind.i64 (SI.lit (2 : Int))])
[]) ∧ (¬i < (0 : Int) → ((↑(List.length y7) : Int) ≤ i → PostS (SV.tup [SV.slI false (SC.rows eT (1 : Nat) (2 : Nat) false l) (SN.sym (List.length l)) false, SV.int IntKind.i64 (SI.sym x)]) (SV.tup
[SV.nilSl, SV.int IntKind.i64 (SI.lit (2 : Int))]) []) ∧ (¬(↑(List.length y7) : Int) ≤ i → (0 : Int) ≤ i ∧ i < (↑(List.length y7) : Int) ∧ Int.toNat i < List.length (List.take (List.length y7) (rdrop
(SN.lit (0 : Nat)) (List.take (List.length y7) (rdrop (SN.lit (0 : Nat)) y7)))) ∧ ∀ (y8 : List Int), (List.take (List.length y7) (rdrop (SN.lit (0 : Nat)) (List.take (List.length y7) (rdrop (SN.lit (0
: Nat)) y7))))[Int.toNat i]? = some y8 → ∃ (y9 : List Int), ((List.length y8 = List.length y9 ∧ SC.rows eB (1 : Nat) (1 : Nat) true y8 = SC.rows eB (1 : Nat) (1 : Nat) true y9) ∧ True) ∧ List.length
y9 ≤ (200 : Nat) ∧ ((↑(List.length y7) : Int) < (64 : Int) → List.length y7 + (1 : Nat) ≤ (45812984490 : Nat) ∧ List.length y7 = List.length (List.take (List.length y7) (rdrop (SN.lit (0 : Nat)) y7))
∧ ∃ (y10 : List Int), ((List.length y9 = List.length y10 ∧ SC.rows eB (1 : Nat) (1 : Nat) true y9 = SC.rows eB (1 : Nat) (1 : Nat) true y10) ∧ True) ∧ List.length y7 + (1 : Nat) ≤ List.length (rdrop
(SN.lit (0 : Nat)) (List.take (List.length y7) (rdrop (SN.lit (0 : Nat)) y7)) ++ [y10]) ∧ PostS (SV.tup [SV.slI false (SC.rows eT (1 : Nat) (2 : Nat) false l) (SN.sym (List.length l)) false, SV.int
IntKind.i64 (SI.sym x)]) (SV.tup [SV.slI true (SC.rows eT (1 : Nat) (2 : Nat) false (List.take (List.length y7 + (1 : Nat)) (rdrop (SN.lit (0 : Nat)) (rdrop (SN.lit (0 : Nat)) (List.take (List.length
y7) (rdrop (SN.lit (0 : Nat)) y7)) ++ [y10])))) (SN.sym (List.length y7 + (1 : Nat))) false, SV.int IntKind.i64 (SI.lit (0 : Int))]) []) ∧ (¬(↑(List.length y7) : Int) < (64 : Int) → List.length y7 ≤
List.length (List.take (List.length y7) (rdrop (SN.lit (0 : Nat)) y7)) ∧ PostS (SV.tup [SV.slI false (SC.rows eT (1 : Nat) (2 : Nat) false l) (SN.sym (List.length l)) false, SV.int IntKind.i64 (SI.sym
x)]) (SV.tup [SV.slI true (SC.rows eT (1 : Nat) (2 : Nat) false (List.take (List.length y7) (rdrop (SN.lit (0 : Nat)) (List.take (List.length y7) (rdrop (SN.lit (0 : Nat)) y7))))) (SN.sym (List.length
y7)) false, SV.int IntKind.i64 (SI.lit (0 : Int))]) [])))) ∧ True) ∧ (¬(0 : Int) < (↑(List.length n) : Int) → (i < (0 : Int) → PostS (SV.tup [SV.slI false (SC.rows eT (1 : Nat) (2 : Nat) false l)
(SN.sym (List.length l)) false, SV.int IntKind.i64 (SI.sym x)]) (SV.tup [SV.nilSl, SV.int IntKind.i64 (SI.lit (2 : Int))]) []) ∧ (¬i < (0 : Int) → ((0 : Int) ≤ i → PostS (SV.tup [SV.slI false (SC.rows
eT (1 : Nat) (2 : Nat) false l) (SN.sym (List.length l)) false, SV.int IntKind.i64 (SI.sym x)]) (SV.tup [SV.nilSl, SV.int IntKind.i64 (SI.lit (2 : Int))]) []) ∧ (¬(0 : Int) ≤ i → Stuck (36 : Nat)))))) := by kernel_rfl
theorem vc_Take (n : List (List Int)) (i : Int) (l : List (List Int)) (b : List Int) (x : Int) : (scallI sx12 Try.prog cf0 (sexec sx12 Try.prog cf0 1000) 9 0 [rows2 n, .int .i64 (.sym i)] (PostK (.tup [rows2 l, row b, .int .i64 (.sym x)]))) = (((64 : Int) < (↑(List.length n) : Int) → PostS (SV.tup [SV.slI false (SC.rows eT (1 : Nat) (2 : Nat) false l) (SN.sym (List.length l)) false, SV.slI false (SC.rows eB (1 : Nat) (1 : Nat) true b)
(SN.sym (List.length b)) false, SV.int IntKind.i64 (SI.sym x)]) (SV.tup [SV.nilSl, SV.nilSl, SV.int IntKind.i64 (SI.lit (8 : Int))]) []) ∧ (¬(64 : Int) < (↑(List.length n) : Int) → SameCode (loopBody
Try.prog (12 : Nat) (0 : Nat)) (loopBody Try.prog (12 : Nat) (0 : Nat)) ∧ ((0 : Int) < (↑(List.length n) : Int) → (0 : Int) < (↑(List.length n) : Int) ∧ (0 : Nat) < List.length n ∧ ∀ (y5 : List Int),
n[(0 : Nat)]? = some y5 → ∃ (y6 : List Int), ((List.length y5 = List.length y6 ∧ SC.rows eB (1 : Nat) (1 : Nat) true y5 = SC.rows eB (1 : Nat) (1 : Nat) true y6) ∧ True) ∧ List.length y6 ≤ (200 : Nat)
∧ ∃ (y7 : LInv.ι L12), ((∀ (y8 : List Int), y8 ∈ Prod.fst y7 → (∀ (y9 : Int), y9 ∈ y8 → (0 : Int) ≤ y9 ∧ y9 < (256 : Int)) ∧ List.length y8 ≤ (200 : Nat)) ∧ (1 : Nat) ≤ Prod.snd y7 ∧ Prod.snd y7 ≤
List.length (Prod.fst y7) ∧ List.length (Prod.fst y7) ≤ (1000 : Nat)) ∧ ((True ∧ True ∧ ((0 : Nat) = (0 : Nat) ∧ (1 : Nat) = Prod.snd y7) ∧ True ∧ True ∧ (List.length n = List.length (Prod.fst y7) ∧
SC.rows eT (1 : Nat) (2 : Nat) false n = SC.rows eT (1 : Nat) (2 : Nat) false (Prod.fst y7)) ∧ (↑(List.length n) : Int) = (↑(List.length (Prod.fst y7)) : Int) ∧ (1 : Int) = (↑(Prod.snd y7) : Int) ∧
True ∧ True ∧ True ∧ True ∧ True ∧ True ∧ True ∧ True ∧ True ∧ True ∧ True) ∧ (ROK eT (1 : Nat) (2 : Nat) false ∧ sles [SV.slI true (SC.rows eB (1 : Nat) (1 : Nat) true y6) (SN.sym (List.length y6))
false] (List.flatMap eT (List.take (Prod.snd y7) (Prod.fst y7)))) ∧ True) ∧ (∀ (y8 : LInv.ι L12), True) ∧ (∀ (y8 : LInv.Ω L12), LInv.PE L12 y7 y8 → List.length y8 ≤ List.length y8 ∧ List.length y8 ≤
List.length (List.take (List.length y8) (rdrop (SN.lit (0 : Nat)) y8)) ∧ (i < (0 : Int) → PostS (SV.tup [SV.slI false (SC.rows eT (1 : Nat) (2 : Nat) false l) (SN.sym (List.length l)) false, SV.slI
false (SC.rows eB (1 : Nat) (1 : Nat) true b) (SN.sym (List.length b)) false, SV.int IntKind.i64 (SI.sym x)]) (SV.tup [SV.nilSl, SV.nilSl, SV.int IntKind.i64 (SI.lit (2 : Int))]) []) ∧ (¬i < (0 : Int)
→ ((↑(List.length y8) : Int) ≤ i → PostS (SV.tup [SV.slI false (SC.rows eT (1 : Nat) (2 : Nat) false l) (SN.sym (List.length l)) false, SV.slI false (SC.rows eB (1 : Nat) (1 : Nat) true b) (SN.sym
(List.length b)) false, SV.int IntKind.i64 (SI.sym x)]) (SV.tup [SV.nilSl, SV.nilSl, SV.int IntKind.i64 (SI.lit (2 : Int))]) []) ∧ (¬(↑(List.length y8) : Int) ≤ i → (0 : Int) ≤ i ∧ i < (↑(List.length
y8) : Int) ∧ Int.toNat i < List.length (List.take (List.length y8) (rdrop (SN.lit (0 : Nat)) (List.take (List.length y8) (rdrop (SN.lit (0 : Nat)) y8)))) ∧ ∀ (y9 : List Int), (List.take (List.length
y8) (rdrop (SN.lit (0 : Nat)) (List.take (List.length y8) (rdrop (SN.lit (0 : Nat)) y8))))[Int.toNat i]? = some y9 → ∃ (y10 : List Int), ((List.length y9 = List.length y10 ∧ SC.rows eB (1 : Nat) (1 :
Nat) true y9 = SC.rows eB (1 : Nat) (1 : Nat) true y10) ∧ True) ∧ List.length y10 ≤ (200 : Nat) ∧ (0 : Int) ≤ i ∧ i ≤ (↑(List.length y8) : Int) ∧ (↑(List.length y8) : Int) ≤ (↑(List.length y8) : Int)
∧ (↑(List.length y8) : Int) ≤ (↑(List.length y8) : Int) ∧ (i = (0 : Int) → (0 : Int) ≤ IntKind.wrap IntKind.i64 (i + (1 : Int)) ∧ IntKind.wrap IntKind.i64 (i + (1 : Int)) ≤ (↑(List.length y8) : Int) ∧
(↑(List.length y8) : Int) ≤ (↑(List.length y8) : Int) ∧ (↑(List.length y8) : Int) ≤ (↑(List.length y8) : Int) ∧ (IntKind.wrap IntKind.i64 (i + (1 : Int)) = (0 : Int) → Int.toNat (↑(List.length y8) :
Int) ≤ List.length (List.take (List.length y8) (rdrop (SN.lit (0 : Nat)) y8)) ∧ min (Int.toNat (↑(List.length y8) : Int)) (Int.toNat (↑(List.length y8) : Int)) ≤ List.length (List.take (List.length
y8) (rdrop (SN.lit (0 : Nat)) y8)) ∧ ∃ (y11 : List (List Int)), SC.rows eT (1 : Nat) (2 : Nat) false (List.take (Int.toNat (↑(List.length y8) : Int)) (rdrop (SN.lit (0 : Nat)) (List.take (List.length
y8) (rdrop (SN.lit (0 : Nat)) y8)))) = SC.rows eT (1 : Nat) (2 : Nat) false y11 ∧ min (Int.toNat (↑(List.length y8) : Int)) (Int.toNat (↑(List.length y8) : Int)) ≤ List.length y11 ∧ (0 : Int) ≤
IntKind.wrap IntKind.i64 ((↑(List.length y8) : Int) - (1 : Int)) ∧ IntKind.wrap IntKind.i64 ((↑(List.length y8) : Int) - (1 : Int)) ≤ (↑(List.length y8) : Int) ∧ (↑(List.length y8) : Int) ≤
(↑(List.length y8) : Int) ∧ (↑(List.length y8) : Int) ≤ (↑(List.length y8) : Int) ∧ (IntKind.wrap IntKind.i64 ((↑(List.length y8) : Int) - (1 : Int)) = (0 : Int) → ∃ (y12 : List Int), ((List.length
y12 = (0 : Nat) ∧ ∀ (y13 : Int), List.length (eB y13) = (1 : Nat) ∧ (∀ (y14 : SV), y14 ∈ eB y13 → imm (1 : Nat) y14 ∧ SV.one y14 = true) ∧ (true = true → ∀ (y14 : SV), y14 ∈ eB y13 → scalar y14)) ∧
True) ∧ Int.toNat (↑(List.length y8) : Int) ≤ List.length (List.take (0 : Nat) (List.take (List.length y8) (rdrop (SN.lit (0 : Nat)) y8)) ++ List.take (min (Int.toNat (↑(List.length y8) : Int))
(Int.toNat (↑(List.length y8) : Int))) y11 ++ List.drop ((0 : Nat) + min (Int.toNat (↑(List.length y8) : Int)) (Int.toNat (↑(List.length y8) : Int))) (List.take (List.length y8) (rdrop (SN.lit (0 :
Nat)) y8))) ∧ ∃ (y13 : List (List Int)), SC.rows eT (1 : Nat) (2 : Nat) false (List.replicate (Int.toNat (↑(List.length y8) : Int)) y12) = SC.rows eT (1 : Nat) (2 : Nat) false y13 ∧ Int.toNat
(↑(List.length y8) : Int) ≤ List.length y13 ∧ (0 : Int) ≤ IntKind.wrap IntKind.i64 ((↑(List.length y8) : Int) - (1 : Int)) ∧ IntKind.wrap IntKind.i64 ((↑(List.length y8) : Int) - (1 : Int)) ≤
(↑(List.length y8) : Int) ∧ (↑(List.length y8) : Int) ≤ (↑(List.length y8) : Int) ∧ Int.toNat (IntKind.wrap IntKind.i64 ((↑(List.length y8) : Int) - (1 : Int))) ≤ List.length (List.take (0 : Nat)
(List.take (0 : Nat) (List.take (List.length y8) (rdrop (SN.lit (0 : Nat)) y8)) ++ List.take (min (Int.toNat (↑(List.length y8) : Int)) (Int.toNat (↑(List.length y8) : Int))) y11 ++ List.drop ((0 :
Nat) + min (Int.toNat (↑(List.length y8) : Int)) (Int.toNat (↑(List.length y8) : Int))) (List.take (List.length y8) (rdrop (SN.lit (0 : Nat)) y8))) ++ List.take (Int.toNat (↑(List.length y8) : Int))
y13 ++ List.drop ((0 : Nat) + Int.toNat (↑(List.length y8) : Int)) (List.take (0 : Nat) (List.take (List.length y8) (rdrop (SN.lit (0 : Nat)) y8)) ++ List.take (min (Int.toNat (↑(List.length y8) :
Int)) (Int.toNat (↑(List.length y8) : Int))) y11 ++ List.drop ((0 : Nat) + min (Int.toNat (↑(List.length y8) : Int)) (Int.toNat (↑(List.length y8) : Int))) (List.take (List.length y8) (rdrop (SN.lit
(0 : Nat)) y8)))) ∧ PostS (SV.tup [SV.slI false (SC.rows eT (1 : Nat) (2 : Nat) false l) (SN.sym (List.length l)) false, SV.slI false (SC.rows eB (1 : Nat) (1 : Nat) true b) (SN.sym (List.length b))
false, SV.int IntKind.i64 (SI.sym x)]) (SV.tup [SV.slI true (SC.rows eT (1 : Nat) (2 : Nat) false (List.take (Int.toNat (IntKind.wrap IntKind.i64 ((↑(List.length y8) : Int) - (1 : Int)))) (rdrop
(SN.lit (0 : Nat)) (List.take (0 : Nat) (List.take (0 : Nat) (List.take (List.length y8) (rdrop (SN.lit (0 : Nat)) y8)) ++ List.take (min (Int.toNat (↑(List.length y8) : Int)) (Int.toNat
(↑(List.length y8) : Int))) y11 ++ List.drop ((0 : Nat) + min (Int.toNat (↑(List.length y8) : Int)) (Int.toNat (↑(List.length y8) : Int))) (List.take (List.length y8) (rdrop (SN.lit (0 : Nat)) y8)))
++ List.take (Int.toNat (↑(List.length y8) : Int)) y13 ++ List.drop ((0 : Nat) + Int.toNat (↑(List.length y8) : Int)) (List.take (0 : Nat) (List.take (List.length y8) (rdrop (SN.lit (0 : Nat)) y8)) ++
List.take (min (Int.toNat (↑(List.length y8) : Int)) (Int.toNat (↑(List.length y8) : Int))) y11 ++ List.drop ((0 : Nat) + min (Int.toNat (↑(List.length y8) : Int)) (Int.toNat (↑(List.length y8) :
Int))) (List.take (List.length y8) (rdrop (SN.lit (0 : Nat)) y8))))))) (SN.sym (Int.toNat (IntKind.wrap IntKind.i64 ((↑(List.length y8) : Int) - (1 : Int))))) false, SV.slI true (SC.rows eB (1 : Nat)
(1 : Nat) true y10) (SN.sym (List.length y10)) false, SV.int IntKind.i64 (SI.lit (0 : Int))]) []) ∧ (¬IntKind.wrap IntKind.i64 ((↑(List.length y8) : Int) - (1 : Int)) = (0 : Int) → ((↑(List.length y8)
: Int) = IntKind.wrap IntKind.i64 ((↑(List.length y8) : Int) - (1 : Int)) → Stuck (236 : Nat)) ∧ (¬(↑(List.length y8) : Int) = IntKind.wrap IntKind.i64 ((↑(List.length y8) : Int) - (1 : Int)) → ∃ (y12
: List Int), ((List.length y12 = (0 : Nat) ∧ ∀ (y13 : Int), List.length (eB y13) = (1 : Nat) ∧ (∀ (y14 : SV), y14 ∈ eB y13 → imm (1 : Nat) y14 ∧ SV.one y14 = true) ∧ (true = true → ∀ (y14 : SV), y14 ∈
eB y13 → scalar y14)) ∧ True) ∧ Int.toNat (IntKind.wrap IntKind.i64 ((↑(List.length y8) : Int) - (1 : Int))) + (Int.toNat (↑(List.length y8) : Int) - Int.toNat (IntKind.wrap IntKind.i64
((↑(List.length y8) : Int) - (1 : Int)))) ≤ List.length (List.take (0 : Nat) (List.take (List.length y8) (rdrop (SN.lit (0 : Nat)) y8)) ++ List.take (min (Int.toNat (↑(List.length y8) : Int))
(Int.toNat (↑(List.length y8) : Int))) y11 ++ List.drop ((0 : Nat) + min (Int.toNat (↑(List.length y8) : Int)) (Int.toNat (↑(List.length y8) : Int))) (List.take (List.length y8) (rdrop (SN.lit (0 :
Nat)) y8))) ∧ ∃ (y13 : List (List Int)), SC.rows eT (1 : Nat) (2 : Nat) false (List.replicate (Int.toNat (↑(List.length y8) : Int) - Int.toNat (IntKind.wrap IntKind.i64 ((↑(List.length y8) : Int) - (1
: Int)))) y12) = SC.rows eT (1 : Nat) (2 : Nat) false y13 ∧ Int.toNat (↑(List.length y8) : Int) - Int.toNat (IntKind.wrap IntKind.i64 ((↑(List.length y8) : Int) - (1 : Int))) ≤ List.length y13 ∧ (0 :
Int) ≤ IntKind.wrap IntKind.i64 ((↑(List.length y8) : Int) - (1 : Int)) ∧ IntKind.wrap IntKind.i64 ((↑(List.length y8) : Int) - (1 : Int)) ≤ (↑(List.length y8) : Int) ∧ (↑(List.length y8) : Int) ≤
(↑(List.length y8) : Int) ∧ Int.toNat (IntKind.wrap IntKind.i64 ((↑(List.length y8) : Int) - (1 : Int))) ≤ List.length (List.take (Int.toNat (IntKind.wrap IntKind.i64 ((↑(List.length y8) : Int) - (1 :
Int)))) (List.take (0 : Nat) (List.take (List.length y8) (rdrop (SN.lit (0 : Nat)) y8)) ++ List.take (min (Int.toNat (↑(List.length y8) : Int)) (Int.toNat (↑(List.length y8) : Int))) y11 ++ List.drop
((0 : Nat) + min (Int.toNat (↑(List.length y8) : Int)) (Int.toNat (↑(List.length y8) : Int))) (List.take (List.length y8) (rdrop (SN.lit (0 : Nat)) y8))) ++ List.take (Int.toNat (↑(List.length y8) :
Int) - Int.toNat (IntKind.wrap IntKind.i64 ((↑(List.length y8) : Int) - (1 : Int)))) y13 ++ List.drop (Int.toNat (IntKind.wrap IntKind.i64 ((↑(List.length y8) : Int) - (1 : Int))) + (Int.toNat
(↑(List.length y8) : Int) - Int.toNat (IntKind.wrap IntKind.i64 ((↑(List.length y8) : Int) - (1 : Int))))) (List.take (0 : Nat) (List.take (List.length y8) (rdrop (SN.lit (0 : Nat)) y8)) ++ List.take
(min (Int.toNat (↑(List.length y8) : Int)) (Int.toNat (↑(List.length y8) : Int))) y11 ++ List.drop ((0 : Nat) + min (Int.toNat (↑(List.length y8) : Int)) (Int.toNat (↑(List.length y8) : Int)))
(List.take (List.length y8) (rdrop (SN.lit (0 : Nat)) y8)))) ∧ PostS (SV.tup [SV.slI false (SC.rows eT (1 : Nat) (2 : Nat) false l) (SN.sym (List.length l)) false, SV.slI false (SC.rows eB (1 : Nat)
(1 : Nat) true b) (SN.sym (List.length b)) false, SV.int IntKind.i64 (SI.sym x)]) (SV.tup [SV.slI true (SC.rows eT (1 : Nat) (2 : Nat) false (List.take (Int.toNat (IntKind.wrap IntKind.i64
((↑(List.length y8) : Int) - (1 : Int)))) (rdrop (SN.lit (0 : Nat)) (List.take (Int.toNat (IntKind.wrap IntKind.i64 ((↑(List.length y8) : Int) - (1 : Int)))) (List.take (0 : Nat) (List.take
(List.length y8) (rdrop (SN.lit (0 : Nat)) y8)) ++ List.take (min (Int.toNat (↑(List.length y8) : Int)) (Int.toNat (↑(List.length y8) : Int))) y11 ++ List.drop ((0 : Nat) + min (Int.toNat
(↑(List.length y8) : Int)) (Int.toNat (↑(List.length y8) : Int))) (List.take (List.length y8) (rdrop (SN.lit (0 : Nat)) y8))) ++ List.take (Int.toNat (↑(List.length y8) : Int) - Int.toNat
(IntKind.wrap IntKind.i64 ((↑(List.length y8) : Int) - (1 : Int)))) y13 ++ List.drop (Int.toNat (IntKind.wrap IntKind.i64 ((↑(List.length y8) : Int) - (1 : Int))) + (Int.toNat (↑(List.length y8) :
Int) - Int.toNat (IntKind.wrap IntKind.i64 ((↑(List.length y8) : Int) - (1 : Int))))) (List.take (0 : Nat) (List.take (List.length y8) (rdrop (SN.lit (0 : Nat)) y8)) ++ List.take (min (Int.toNat
(↑(List.length y8) : Int)) (Int.toNat (↑(List.length y8) : Int))) y11 ++ List.drop ((0 : Nat) + min (Int.toNat (↑(List.length y8) : Int)) (Int.toNat (↑(List.length y8) : Int))) (List.take (List.length
y8) (rdrop (SN.lit (0 : Nat)) y8))))))) (SN.sym (Int.toNat (IntKind.wrap IntKind.i64 ((↑(List.length y8) : Int) - (1 : Int))))) false, SV.slI true (SC.rows eB (1 : Nat) (1 : Nat) true y10) (SN.sym
(List.length y10)) false, SV.int IntKind.i64 (SI.lit (0 : Int))]) []))) ∧ (¬IntKind.wrap IntKind.i64 (i + (1 : Int)) = (0 : Int) → ((↑(List.length y8) : Int) = IntKind.wrap IntKind.i64 (i + (1 : Int))
→ min (0 : Nat) (Int.toNat (↑(List.length y8) : Int)) ≤ List.length (List.take (List.length y8) (rdrop (SN.lit (0 : Nat)) y8)) ∧ ∃ (y11 : List (List Int)), sles [] (List.flatMap eT y11) ∧ min (0 :
Nat) (Int.toNat (↑(List.length y8) : Int)) ≤ List.length y11 ∧ (0 : Int) ≤ IntKind.wrap IntKind.i64 ((↑(List.length y8) : Int) - (1 : Int)) ∧ IntKind.wrap IntKind.i64 ((↑(List.length y8) : Int) - (1 :
Int)) ≤ (↑(List.length y8) : Int) ∧ (↑(List.length y8) : Int) ≤ (↑(List.length y8) : Int) ∧ (↑(List.length y8) : Int) ≤ (↑(List.length y8) : Int) ∧ (IntKind.wrap IntKind.i64 ((↑(List.length y8) : Int)
- (1 : Int)) = (0 : Int) → ∃ (y12 : List Int), ((List.length y12 = (0 : Nat) ∧ ∀ (y13 : Int), List.length (eB y13) = (1 : Nat) ∧ (∀ (y14 : SV), y14 ∈ eB y13 → imm (1 : Nat) y14 ∧ SV.one y14 = true) ∧
(true = true → ∀ (y14 : SV), y14 ∈ eB y13 → scalar y14)) ∧ True) ∧ Int.toNat (↑(List.length y8) : Int) ≤ List.length (List.take (0 : Nat) (List.take (List.length y8) (rdrop (SN.lit (0 : Nat)) y8)) ++
List.take (min (0 : Nat) (Int.toNat (↑(List.length y8) : Int))) y11 ++ List.drop ((0 : Nat) + min (0 : Nat) (Int.toNat (↑(List.length y8) : Int))) (List.take (List.length y8) (rdrop (SN.lit (0 : Nat))
y8))) ∧ ∃ (y13 : List (List Int)), SC.rows eT (1 : Nat) (2 : Nat) false (List.replicate (Int.toNat (↑(List.length y8) : Int)) y12) = SC.rows eT (1 : Nat) (2 : Nat) false y13 ∧ Int.toNat (↑(List.length
y8) : Int) ≤ List.length y13 ∧ (0 : Int) ≤ IntKind.wrap IntKind.i64 ((↑(List.length y8) : Int) - (1 : Int)) ∧ IntKind.wrap IntKind.i64 ((↑(List.length y8) : Int) - (1 : Int)) ≤ (↑(List.length y8) :
Int) ∧ (↑(List.length y8) : Int) ≤ (↑(List.length y8) : Int) ∧ Int.toNat (IntKind.wrap IntKind.i64 ((↑(List.length y8) : Int) - (1 : Int))) ≤ List.length (List.take (0 : Nat) (List.take (0 : Nat)
(List.take (List.length y8) (rdrop (SN.lit (0 : Nat)) y8)) ++ List.take (min (0 : Nat) (Int.toNat (↑(List.length y8) : Int))) y11 ++ List.drop ((0 : Nat) + min (0 : Nat) (Int.toNat (↑(List.length y8)
: Int))) (List.take (List.length y8) (rdrop (SN.lit (0 : Nat)) y8))) ++ List.take (Int.toNat (↑(List.length y8) : Int)) y13 ++ List.drop ((0 : Nat) + Int.toNat (↑(List.length y8) : Int)) (List.take (0
: Nat) (List.take (List.length y8) (rdrop (SN.lit (0 : Nat)) y8)) ++ List.take (min (0 : Nat) (Int.toNat (↑(List.length y8) : Int))) y11 ++ List.drop ((0 : Nat) + min (0 : Nat) (Int.toNat
(↑(List.length y8) : Int))) (List.take (List.length y8) (rdrop (SN.lit (0 : Nat)) y8)))) ∧ PostS (SV.tup [SV.slI false (SC.rows eT (1 : Nat) (2 : Nat) false l) (SN.sym (List.length l)) false, SV.slI
false (SC.rows eB (1 : Nat) (1 : Nat) true b) (SN.sym (List.length b)) false, SV.int IntKind.i64 (SI.sym x)]) (SV.tup [SV.slI true (SC.rows eT (1 : Nat) (2 : Nat) false (List.take (Int.toNat
(IntKind.wrap IntKind.i64 ((↑(List.length y8) : Int) - (1 : Int)))) (rdrop (SN.lit (0 : Nat)) (List.take (0 : Nat) (List.take (0 : Nat) (List.take (List.length y8) (rdrop (SN.lit (0 : Nat)) y8)) ++
List.take (min (0 : Nat) (Int.toNat (↑(List.length y8) : Int))) y11 ++ List.drop ((0 : Nat) + min (0 : Nat) (Int.toNat (↑(List.length y8) : Int))) (List.take (List.length y8) (rdrop (SN.lit (0 : Nat))
y8))) ++ List.take (Int.toNat (↑(List.length y8) : Int)) y13 ++ List.drop ((0 : Nat) + Int.toNat (↑(List.length y8) : Int)) (List.take (0 : Nat) (List.take (List.length y8) (rdrop (SN.lit (0 : Nat))
y8)) ++ List.take (min (0 : Nat) (Int.toNat (↑(List.length y8) : Int))) y11 ++ List.drop ((0 : Nat) + min (0 : Nat) (Int.toNat (↑(List.length y8) : Int))) (List.take (List.length y8) (rdrop (SN.lit (0
: Nat)) y8))))))) (SN.sym (Int.toNat (IntKind.wrap IntKind.i64 ((↑(List.length y8) : Int) - (1 : Int))))) false, SV.slI true (SC.rows eB (1 : Nat) (1 : Nat) true y10) (SN.sym (List.length y10)) false,
SV.int IntKind.i64 (SI.lit (0 : Int))]) []) ∧ (¬IntKind.wrap IntKind.i64 ((↑(List.length y8) : Int) - (1 : Int)) = (0 : Int) → ((↑(List.length y8) : Int) = IntKind.wrap IntKind.i64 ((↑(List.length y8)
: Int) - (1 : Int)) → Stuck (236 : Nat)) ∧ (¬(↑(List.length y8) : Int) = IntKind.wrap IntKind.i64 ((↑(List.length y8) : Int) - (1 : Int)) → ∃ (y12 : List Int), ((List.length y12 = (0 : Nat) ∧ ∀ (y13 :
Int), List.length (eB y13) = (1 : Nat) ∧ (∀ (y14 : SV), y14 ∈ eB y13 → imm (1 : Nat) y14 ∧ SV.one y14 = true) ∧ (true = true → ∀ (y14 : SV), y14 ∈ eB y13 → scalar y14)) ∧ True) ∧ Int.toNat
(IntKind.wrap IntKind.i64 ((↑(List.length y8) : Int) - (1 : Int))) + (Int.toNat (↑(List.length y8) : Int) - Int.toNat (IntKind.wrap IntKind.i64 ((↑(List.length y8) : Int) - (1 : Int)))) ≤ List.length
(List.take (0 : Nat) (List.take (List.length y8) (rdrop (SN.lit (0 : Nat)) y8)) ++ List.take (min (0 : Nat) (Int.toNat (↑(List.length y8) : Int))) y11 ++ List.drop ((0 : Nat) + min (0 : Nat)
(Int.toNat (↑(List.length y8) : Int))) (List.take (List.length y8) (rdrop (SN.lit (0 : Nat)) y8))) ∧ ∃ (y13 : List (List Int)), SC.rows eT (1 : Nat) (2 : Nat) false (List.replicate (Int.toNat
(↑(List.length y8) : Int) - Int.toNat (IntKind.wrap IntKind.i64 ((↑(List.length y8) : Int) - (1 : Int)))) y12) = SC.rows eT (1 : Nat) (2 : Nat) false y13 ∧ Int.toNat (↑(List.length y8) : Int) -
Int.toNat (IntKind.wrap IntKind.i64 ((↑(List.length y8) : Int) - (1 : Int))) ≤ List.length y13 ∧ (0 : Int) ≤ IntKind.wrap IntKind.i64 ((↑(List.length y8) : Int) - (1 : Int)) ∧ IntKind.wrap IntKind.i64
((↑(List.length y8) : Int) - (1 : Int)) ≤ (↑(List.length y8) : Int) ∧ (↑(List.length y8) : Int) ≤ (↑(List.length y8) : Int) ∧ Int.toNat (IntKind.wrap IntKind.i64 ((↑(List.length y8) : Int) - (1 :
Int))) ≤ List.length (List.take (Int.toNat (IntKind.wrap IntKind.i64 ((↑(List.length y8) : Int) - (1 : Int)))) (List.take (0 : Nat) (List.take (List.length y8) (rdrop (SN.lit (0 : Nat)) y8)) ++
List.take (min (0 : Nat) (Int.toNat (↑(List.length y8) : Int))) y11 ++ List.drop ((0 : Nat) + min (0 : Nat) (Int.toNat (↑(List.length y8) : Int))) (List.take (List.length y8) (rdrop (SN.lit (0 : Nat))
y8))) ++ List.take (Int.toNat (↑(List.length y8) : Int) - Int.toNat (IntKind.wrap IntKind.i64 ((↑(List.length y8) : Int) - (1 : Int)))) y13 ++ List.drop (Int.toNat (IntKind.wrap IntKind.i64
((↑(List.length y8) : Int) - (1 : Int))) + (Int.toNat (↑(List.length y8) : Int) - Int.toNat (IntKind.wrap IntKind.i64 ((↑(List.length y8) : Int) - (1 : Int))))) (List.take (0 : Nat) (List.take
(List.length y8) (rdrop (SN.lit (0 : Nat)) y8)) ++ List.take (min (0 : Nat) (Int.toNat (↑(List.length y8) : Int))) y11 ++ List.drop ((0 : Nat) + min (0 : Nat) (Int.toNat (↑(List.length y8) : Int)))
(List.take (List.length y8) (rdrop (SN.lit (0 : Nat)) y8)))) ∧ PostS (SV.tup [SV.slI false (SC.rows eT (1 : Nat) (2 : Nat) false l) (SN.sym (List.length l)) false, SV.slI false (SC.rows eB (1 : Nat)
(1 : Nat) true b) (SN.sym (List.length b)) false, SV.int IntKind.i64 (SI.sym x)]) (SV.tup [SV.slI true (SC.rows eT (1 : Nat) (2 : Nat) false (List.take (Int.toNat (IntKind.wrap IntKind.i64
((↑(List.length y8) : Int) - (1 : Int)))) (rdrop (SN.lit (0 : Nat)) (List.take (Int.toNat (IntKind.wrap IntKind.i64 ((↑(List.length y8) : Int) - (1 : Int)))) (List.take (0 : Nat) (List.take
(List.length y8) (rdrop (SN.lit (0 : Nat)) y8)) ++ List.take (min (0 : Nat) (Int.toNat (↑(List.length y8) : Int))) y11 ++ List.drop ((0 : Nat) + min (0 : Nat) (Int.toNat (↑(List.length y8) : Int)))
(List.take (List.length y8) (rdrop (SN.lit (0 : Nat)) y8))) ++ List.take (Int.toNat (↑(List.length y8) : Int) - Int.toNat (IntKind.wrap IntKind.i64 ((↑(List.length y8) : Int) - (1 : Int)))) y13 ++
List.drop (Int.toNat (IntKind.wrap IntKind.i64 ((↑(List.length y8) : Int) - (1 : Int))) + (Int.toNat (↑(List.length y8) : Int) - Int.toNat (IntKind.wrap IntKind.i64 ((↑(List.length y8) : Int) - (1 :
Int))))) (List.take (0 : Nat) (List.take (List.length y8) (rdrop (SN.lit (0 : Nat)) y8)) ++ List.take (min (0 : Nat) (Int.toNat (↑(List.length y8) : Int))) y11 ++ List.drop ((0 : Nat) + min (0 : Nat)
(Int.toNat (↑(List.length y8) : Int))) (List.take (List.length y8) (rdrop (SN.lit (0 : Nat)) y8))))))) (SN.sym (Int.toNat (IntKind.wrap IntKind.i64 ((↑(List.length y8) : Int) - (1 : Int))))) false,
SV.slI true (SC.rows eB (1 : Nat) (1 : Nat) true y10) (SN.sym (List.length y10)) false, SV.int IntKind.i64 (SI.lit (0 : Int))]) []))) ∧ (¬(↑(List.length y8) : Int) = IntKind.wrap IntKind.i64 (i + (1 :
Int)) → Int.toNat (IntKind.wrap IntKind.i64 (i + (1 : Int))) + (Int.toNat (↑(List.length y8) : Int) - Int.toNat (IntKind.wrap IntKind.i64 (i + (1 : Int)))) ≤ List.length (List.take (List.length y8)
(rdrop (SN.lit (0 : Nat)) y8)) ∧ min (Int.toNat (↑(List.length y8) : Int) - Int.toNat (IntKind.wrap IntKind.i64 (i + (1 : Int)))) (Int.toNat (↑(List.length y8) : Int)) ≤ List.length (List.take
(List.length y8) (rdrop (SN.lit (0 : Nat)) y8)) ∧ ∃ (y11 : List (List Int)), SC.rows eT (1 : Nat) (2 : Nat) false (List.take (Int.toNat (↑(List.length y8) : Int) - Int.toNat (IntKind.wrap IntKind.i64
(i + (1 : Int)))) (rdrop (SN.add (SN.lit (0 : Nat)) (SN.sym (Int.toNat (IntKind.wrap IntKind.i64 (i + (1 : Int)))))) (List.take (List.length y8) (rdrop (SN.lit (0 : Nat)) y8)))) = SC.rows eT (1 : Nat)
(2 : Nat) false y11 ∧ min (Int.toNat (↑(List.length y8) : Int) - Int.toNat (IntKind.wrap IntKind.i64 (i + (1 : Int)))) (Int.toNat (↑(List.length y8) : Int)) ≤ List.length y11 ∧ (0 : Int) ≤
IntKind.wrap IntKind.i64 ((↑(List.length y8) : Int) - (1 : Int)) ∧ IntKind.wrap IntKind.i64 ((↑(List.length y8) : Int) - (1 : Int)) ≤ (↑(List.length y8) : Int) ∧ (↑(List.length y8) : Int) ≤
(↑(List.length y8) : Int) ∧ (↑(List.length y8) : Int) ≤ (↑(List.length y8) : Int) ∧ (IntKind.wrap IntKind.i64 ((↑(List.length y8) : Int) - (1 : Int)) = (0 : Int) → ∃ (y12 : List Int), ((List.length
y12 = (0 : Nat) ∧ ∀ (y13 : Int), List.length (eB y13) = (1 : Nat) ∧ (∀ (y14 : SV), y14 ∈ eB y13 → imm (1 : Nat) y14 ∧ SV.one y14 = true) ∧ (true = true → ∀ (y14 : SV), y14 ∈ eB y13 → scalar y14)) ∧
True) ∧ Int.toNat (↑(List.length y8) : Int) ≤ List.length (List.take (0 : Nat) (List.take (List.length y8) (rdrop (SN.lit (0 : Nat)) y8)) ++ List.take (min (Int.toNat (↑(List.length y8) : Int) -
Int.toNat (IntKind.wrap IntKind.i64 (i + (1 : Int)))) (Int.toNat (↑(List.length y8) : Int))) y11 ++ List.drop ((0 : Nat) + min (Int.toNat (↑(List.length y8) : Int) - Int.toNat (IntKind.wrap
IntKind.i64 (i + (1 : Int)))) (Int.toNat (↑(List.length y8) : Int))) (List.take (List.length y8) (rdrop (SN.lit (0 : Nat)) y8))) ∧ ∃ (y13 : List (List Int)), SC.rows eT (1 : Nat) (2 : Nat) false
(List.replicate (Int.toNat (↑(List.length y8) : Int)) y12) = SC.rows eT (1 : Nat) (2 : Nat) false y13 ∧ Int.toNat (↑(List.length y8) : Int) ≤ List.length y13 ∧ (0 : Int) ≤ IntKind.wrap IntKind.i64
((↑(List.length y8) : Int) - (1 : Int)) ∧ IntKind.wrap IntKind.i64 ((↑(List.length y8) : Int) - (1 : Int)) ≤ (↑(List.length y8) : Int) ∧ (↑(List.length y8) : Int) ≤ (↑(List.length y8) : Int) ∧
Int.toNat (IntKind.wrap IntKind.i64 ((↑(List.length y8) : Int) - (1 : Int))) ≤ List.length (List.take (0 : Nat) (List.take (0 : Nat) (List.take (List.length y8) (rdrop (SN.lit (0 : Nat)) y8)) ++
List.take (min (Int.toNat (↑(List.length y8) : Int) - Int.toNat (IntKind.wrap IntKind.i64 (i + (1 : Int)))) (Int.toNat (↑(List.length y8) : Int))) y11 ++ List.drop ((0 : Nat) + min (Int.toNat
(↑(List.length y8) : Int) - Int.toNat (IntKind.wrap IntKind.i64 (i + (1 : Int)))) (Int.toNat (↑(List.length y8) : Int))) (List.take (List.length y8) (rdrop (SN.lit (0 : Nat)) y8))) ++ List.take
(Int.toNat (↑(List.length y8) : Int)) y13 ++ List.drop ((0 : Nat) + Int.toNat (↑(List.length y8) : Int)) (List.take (0 : Nat) (List.take (List.length y8) (rdrop (SN.lit (0 : Nat)) y8)) ++ List.take
(min (Int.toNat (↑(List.length y8) : Int) - Int.toNat (IntKind.wrap IntKind.i64 (i + (1 : Int)))) (Int.toNat (↑(List.length y8) : Int))) y11 ++ List.drop ((0 : Nat) + min (Int.toNat (↑(List.length y8)
: Int) - Int.toNat (IntKind.wrap IntKind.i64 (i + (1 : Int)))) (Int.toNat (↑(List.length y8) : Int))) (List.take (List.length y8) (rdrop (SN.lit (0 : Nat)) y8)))) ∧ PostS (SV.tup [SV.slI false
(SC.rows eT (1 : Nat) (2 : Nat) false l) (SN.sym (List.length l)) false, SV.slI false (SC.rows eB (1 : Nat) (1 : Nat) true b) (SN.sym (List.length b)) false, SV.int IntKind.i64 (SI.sym x)]) (SV.tup
[SV.slI true (SC.rows eT (1 : Nat) (2 : Nat) false (List.take (Int.toNat (IntKind.wrap IntKind.i64 ((↑(List.length y8) : Int) - (1 : Int)))) (rdrop (SN.lit (0 : Nat)) (List.take (0 : Nat) (List.take
(0 : Nat) (List.take (List.length y8) (rdrop (SN.lit (0 : Nat)) y8)) ++ List.take (min (Int.toNat (↑(List.length y8) : Int) - Int.toNat (IntKind.wrap IntKind.i64 (i + (1 : Int)))) (Int.toNat
(↑(List.length y8) : Int))) y11 ++ List.drop ((0 : Nat) + min (Int.toNat (↑(List.length y8) : Int) - Int.toNat (IntKind.wrap IntKind.i64 (i + (1 : Int)))) (Int.toNat (↑(List.length y8) : Int)))
(List.take (List.length y8) (rdrop (SN.lit (0 : Nat)) y8))) ++ List.take (Int.toNat (↑(List.length y8) : Int)) y13 ++ List.drop ((0 : Nat) + Int.toNat (↑(List.length y8) : Int)) (List.take (0 : Nat)
(List.take (List.length y8) (rdrop (SN.lit (0 : Nat)) y8)) ++ List.take (min (Int.toNat (↑(List.length y8) : Int) - Int.toNat (IntKind.wrap IntKind.i64 (i + (1 : Int)))) (Int.toNat (↑(List.length y8)
: Int))) y11 ++ List.drop ((0 : Nat) + min (Int.toNat (↑(List.length y8) : Int) - Int.toNat (IntKind.wrap IntKind.i64 (i + (1 : Int)))) (Int.toNat (↑(List.length y8) : Int))) (List.take (List.length
y8) (rdrop (SN.lit (0 : Nat)) y8))))))) (SN.sym (Int.toNat (IntKind.wrap IntKind.i64 ((↑(List.length y8) : Int) - (1 : Int))))) false, SV.slI true (SC.rows eB (1 : Nat) (1 : Nat) true y10) (SN.sym
(List.length y10)) false, SV.int IntKind.i64 (SI.lit (0 : Int))]) []) ∧ (¬IntKind.wrap IntKind.i64 ((↑(List.length y8) : Int) - (1 : Int)) = (0 : Int) → ((↑(List.length y8) : Int) = IntKind.wrap
IntKind.i64 ((↑(List.length y8) : Int) - (1 : Int)) → Stuck (236 : Nat)) ∧ (¬(↑(List.length y8) : Int) = IntKind.wrap IntKind.i64 ((↑(List.length y8) : Int) - (1 : Int)) → ∃ (y12 : List Int),
((List.length y12 = (0 : Nat) ∧ ∀ (y13 : Int), List.length (eB y13) = (1 : Nat) ∧ (∀ (y14 : SV), y14 ∈ eB y13 → imm (1 : Nat) y14 ∧ SV.one y14 = true) ∧ (true = true → ∀ (y14 : SV), y14 ∈ eB y13 →
scalar y14)) ∧ True) ∧ Int.toNat (IntKind.wrap IntKind.i64 ((↑(List.length y8) : Int) - (1 : Int))) + (Int.toNat (↑(List.length y8) : Int) - Int.toNat (IntKind.wrap IntKind.i64 ((↑(List.length y8) :
Int) - (1 : Int)))) ≤ List.length (List.take (0 : Nat) (List.take (List.length y8) (rdrop (SN.lit (0 : Nat)) y8)) ++ List.take (min (Int.toNat (↑(List.length y8) : Int) - Int.toNat (IntKind.wrap
IntKind.i64 (i + (1 : Int)))) (Int.toNat (↑(List.length y8) : Int))) y11 ++ List.drop ((0 : Nat) + min (Int.toNat (↑(List.length y8) : Int) - Int.toNat (IntKind.wrap IntKind.i64 (i + (1 : Int))))
(Int.toNat (↑(List.length y8) : Int))) (List.take (List.length y8) (rdrop (SN.lit (0 : Nat)) y8))) ∧ ∃ (y13 : List (List Int)), SC.rows eT (1 : Nat) (2 : Nat) false (List.replicate (Int.toNat
(↑(List.length y8) : Int) - Int.toNat (IntKind.wrap IntKind.i64 ((↑(List.length y8) : Int) - (1 : Int)))) y12) = SC.rows eT (1 : Nat) (2 : Nat) false y13 ∧ Int.toNat (↑(List.length y8) : Int) -
Int.toNat (IntKind.wrap IntKind.i64 ((↑(List.length y8) : Int) - (1 : Int))) ≤ List.length y13 ∧ (0 : Int) ≤ IntKind.wrap IntKind.i64 ((↑(List.length y8) : Int) - (1 : Int)) ∧ IntKind.wrap IntKind.i64
((↑(List.length y8) : Int) - (1 : Int)) ≤ (↑(List.length y8) : Int) ∧ (↑(List.length y8) : Int) ≤ (↑(List.length y8) : Int) ∧ Int.toNat (IntKind.wrap IntKind.i64 ((↑(List.length y8) : Int) - (1 :
Int))) ≤ List.length (List.take (Int.toNat (IntKind.wrap IntKind.i64 ((↑(List.length y8) : Int) - (1 : Int)))) (List.take (0 : Nat) (List.take (List.length y8) (rdrop (SN.lit (0 : Nat)) y8)) ++
List.take (min (Int.toNat (↑(List.length y8) : Int) - Int.toNat (IntKind.wrap IntKind.i64 (i + (1 : Int)))) (Int.toNat (↑(List.length y8) : Int))) y11 ++ List.drop ((0 : Nat) + min (Int.toNat
(↑(List.length y8) : Int) - Int.toNat (IntKind.wrap IntKind.i64 (i + (1 : Int)))) (Int.toNat (↑(List.length y8) : Int))) (List.take (List.length y8) (rdrop (SN.lit (0 : Nat)) y8))) ++ List.take
(Int.toNat (↑(List.length y8) : Int) - Int.toNat (IntKind.wrap IntKind.i64 ((↑(List.length y8) : Int) - (1 : Int)))) y13 ++ List.drop (Int.toNat (IntKind.wrap IntKind.i64 ((↑(List.length y8) : Int) -
(1 : Int))) + (Int.toNat (↑(List.length y8) : Int) - Int.toNat (IntKind.wrap IntKind.i64 ((↑(List.length y8) : Int) - (1 : Int))))) (List.take (0 : Nat) (List.take (List.length y8) (rdrop (SN.lit (0 :
Nat)) y8)) ++ List.take (min (Int.toNat (↑(List.length y8) : Int) - Int.toNat (IntKind.wrap IntKind.i64 (i + (1 : Int)))) (Int.toNat (↑(List.length y8) : Int))) y11 ++ List.drop ((0 : Nat) + min
(Int.toNat (↑(List.length y8) : Int) - Int.toNat (IntKind.wrap IntKind.i64 (i + (1 : Int)))) (Int.toNat (↑(List.length y8) : Int))) (List.take (List.length y8) (rdrop (SN.lit (0 : Nat)) y8)))) ∧ PostS
(SV.tup [SV.slI false (SC.rows eT (1 : Nat) (2 : Nat) false l) (SN.sym (List.length l)) false, SV.slI false (SC.rows eB (1 : Nat) (1 : Nat) true b) (SN.sym (List.length b)) false, SV.int IntKind.i64
(SI.sym x)]) (SV.tup [SV.slI true (SC.rows eT (1 : Nat) (2 : Nat) false (List.take (Int.toNat (IntKind.wrap IntKind.i64 ((↑(List.length y8) : Int) - (1 : Int)))) (rdrop (SN.lit (0 : Nat)) (List.take
(Int.toNat (IntKind.wrap IntKind.i64 ((↑(List.length y8) : Int) - (1 : Int)))) (List.take (0 : Nat) (List.take (List.length y8) (rdrop (SN.lit (0 : Nat)) y8)) ++ List.take (min (Int.toNat
(↑(List.length y8) : Int) - Int.toNat (IntKind.wrap IntKind.i64 (i + (1 : Int)))) (Int.toNat (↑(List.length y8) : Int))) y11 ++ List.drop ((0 : Nat) + min (Int.toNat (↑(List.length y8) : Int) -
Int.toNat (IntKind.wrap IntKind.i64 (i + (1 : Int)))) (Int.toNat (↑(List.length y8) : Int))) (List.take (List.length y8) (rdrop (SN.lit (0 : Nat)) y8))) ++ List.take (Int.toNat (↑(List.length y8) :
Int) - Int.toNat (IntKind.wrap IntKind.i64 ((↑(List.length y8) : Int) - (1 : Int)))) y13 ++ List.drop (Int.toNat (IntKind.wrap IntKind.i64 ((↑(List.length y8) : Int) - (1 : Int))) + (Int.toNat
(↑(List.length y8) : Int) - Int.toNat (IntKind.wrap IntKind.i64 ((↑(List.length y8) : Int) - (1 : Int))))) (List.take (0 : Nat) (List.take (List.length y8) (rdrop (SN.lit (0 : Nat)) y8)) ++ List.take
(min (Int.toNat (↑(List.length y8) : Int) - Int.toNat (IntKind.wrap IntKind.i64 (i + (1 : Int)))) (Int.toNat (↑(List.length y8) : Int))) y11 ++ List.drop ((0 : Nat) + min (Int.toNat (↑(List.length y8)
: Int) - Int.toNat (IntKind.wrap IntKind.i64 (i + (1 : Int)))) (Int.toNat (↑(List.length y8) : Int))) (List.take (List.length y8) (rdrop (SN.lit (0 : Nat)) y8))))))) (SN.sym (Int.toNat (IntKind.wrap
IntKind.i64 ((↑(List.length y8) : Int) - (1 : Int))))) false, SV.slI true (SC.rows eB (1 : Nat) (1 : Nat) true y10) (SN.sym (List.length y10)) false, SV.int IntKind.i64 (SI.lit (0 : Int))]) []))))) ∧
(¬i = (0 : Int) → ((↑(List.length y8) : Int) = i → (0 : Int) ≤ IntKind.wrap IntKind.i64 (i + (1 : Int)) ∧ IntKind.wrap IntKind.i64 (i + (1 : Int)) ≤ (↑(List.length y8) : Int) ∧ (↑(List.length y8) :
Int) ≤ (↑(List.length y8) : Int) ∧ (↑(List.length y8) : Int) ≤ (↑(List.length y8) : Int) ∧ (IntKind.wrap IntKind.i64 (i + (1 : Int)) = (0 : Int) → Stuck (232 : Nat)) ∧ (¬IntKind.wrap IntKind.i64 (i +
(1 : Int)) = (0 : Int) → ((↑(List.length y8) : Int) = IntKind.wrap IntKind.i64 (i + (1 : Int)) → Stuck (232 : Nat)) ∧ (¬(↑(List.length y8) : Int) = IntKind.wrap IntKind.i64 (i + (1 : Int)) → Stuck
(232 : Nat)))) ∧ (¬(↑(List.length y8) : Int) = i → (0 : Int) ≤ IntKind.wrap IntKind.i64 (i + (1 : Int)) ∧ IntKind.wrap IntKind.i64 (i + (1 : Int)) ≤ (↑(List.length y8) : Int) ∧ (↑(List.length y8) :
Int) ≤ (↑(List.length y8) : Int) ∧ (↑(List.length y8) : Int) ≤ (↑(List.length y8) : Int) ∧ (IntKind.wrap IntKind.i64 (i + (1 : Int)) = (0 : Int) → Int.toNat (↑(List.length y8) : Int) ≤ List.length
(List.take (List.length y8) (rdrop (SN.lit (0 : Nat)) y8)) ∧ Int.toNat i + min (Int.toNat (↑(List.length y8) : Int)) (Int.toNat (↑(List.length y8) : Int) - Int.toNat i) ≤ List.length (List.take
(List.length y8) (rdrop (SN.lit (0 : Nat)) y8)) ∧ ∃ (y11 : List (List Int)), SC.rows eT (1 : Nat) (2 : Nat) false (List.take (Int.toNat (↑(List.length y8) : Int)) (rdrop (SN.lit (0 : Nat)) (List.take
(List.length y8) (rdrop (SN.lit (0 : Nat)) y8)))) = SC.rows eT (1 : Nat) (2 : Nat) false y11 ∧ min (Int.toNat (↑(List.length y8) : Int)) (Int.toNat (↑(List.length y8) : Int) - Int.toNat i) ≤
List.length y11 ∧ (0 : Int) ≤ IntKind.wrap IntKind.i64 ((↑(List.length y8) : Int) - (1 : Int)) ∧ IntKind.wrap IntKind.i64 ((↑(List.length y8) : Int) - (1 : Int)) ≤ (↑(List.length y8) : Int) ∧
(↑(List.length y8) : Int) ≤ (↑(List.length y8) : Int) ∧ (↑(List.length y8) : Int) ≤ (↑(List.length y8) : Int) ∧ (IntKind.wrap IntKind.i64 ((↑(List.length y8) : Int) - (1 : Int)) = (0 : Int) → ∃ (y12 :
List Int), ((List.length y12 = (0 : Nat) ∧ ∀ (y13 : Int), List.length (eB y13) = (1 : Nat) ∧ (∀ (y14 : SV), y14 ∈ eB y13 → imm (1 : Nat) y14 ∧ SV.one y14 = true) ∧ (true = true → ∀ (y14 : SV), y14 ∈
eB y13 → scalar y14)) ∧ True) ∧ Int.toNat (↑(List.length y8) : Int) ≤ List.length (List.take (Int.toNat i) (List.take (List.length y8) (rdrop (SN.lit (0 : Nat)) y8)) ++ List.take (min (Int.toNat
(↑(List.length y8) : Int)) (Int.toNat (↑(List.length y8) : Int) - Int.toNat i)) y11 ++ List.drop (Int.toNat i + min (Int.toNat (↑(List.length y8) : Int)) (Int.toNat (↑(List.length y8) : Int) -
Int.toNat i)) (List.take (List.length y8) (rdrop (SN.lit (0 : Nat)) y8))) ∧ ∃ (y13 : List (List Int)), SC.rows eT (1 : Nat) (2 : Nat) false (List.replicate (Int.toNat (↑(List.length y8) : Int)) y12) =
SC.rows eT (1 : Nat) (2 : Nat) false y13 ∧ Int.toNat (↑(List.length y8) : Int) ≤ List.length y13 ∧ (0 : Int) ≤ IntKind.wrap IntKind.i64 ((↑(List.length y8) : Int) - (1 : Int)) ∧ IntKind.wrap
IntKind.i64 ((↑(List.length y8) : Int) - (1 : Int)) ≤ (↑(List.length y8) : Int) ∧ (↑(List.length y8) : Int) ≤ (↑(List.length y8) : Int) ∧ Int.toNat (IntKind.wrap IntKind.i64 ((↑(List.length y8) : Int)
- (1 : Int))) ≤ List.length (List.take (0 : Nat) (List.take (Int.toNat i) (List.take (List.length y8) (rdrop (SN.lit (0 : Nat)) y8)) ++ List.take (min (Int.toNat (↑(List.length y8) : Int)) (Int.toNat
(↑(List.length y8) : Int) - Int.toNat i)) y11 ++ List.drop (Int.toNat i + min (Int.toNat (↑(List.length y8) : Int)) (Int.toNat (↑(List.length y8) : Int) - Int.toNat i)) (List.take (List.length y8)
(rdrop (SN.lit (0 : Nat)) y8))) ++ List.take (Int.toNat (↑(List.length y8) : Int)) y13 ++ List.drop ((0 : Nat) + Int.toNat (↑(List.length y8) : Int)) (List.take (Int.toNat i) (List.take (List.length
y8) (rdrop (SN.lit (0 : Nat)) y8)) ++ List.take (min (Int.toNat (↑(List.length y8) : Int)) (Int.toNat (↑(List.length y8) : Int) - Int.toNat i)) y11 ++ List.drop (Int.toNat i + min (Int.toNat
(↑(List.length y8) : Int)) (Int.toNat (↑(List.length y8) : Int) - Int.toNat i)) (List.take (List.length y8) (rdrop (SN.lit (0 : Nat)) y8)))) ∧ PostS (SV.tup [SV.slI false (SC.rows eT (1 : Nat) (2 :
Nat) false l) (SN.sym (List.length l)) false, SV.slI false (SC.rows eB (1 : Nat) (1 : Nat) true b) (SN.sym (List.length b)) false, SV.int IntKind.i64 (SI.sym x)]) (SV.tup [SV.slI true (SC.rows eT (1 :
Nat) (2 : Nat) false (List.take (Int.toNat (IntKind.wrap IntKind.i64 ((↑(List.length y8) : Int) - (1 : Int)))) (rdrop (SN.lit (0 : Nat)) (List.take (0 : Nat) (List.take (Int.toNat i) (List.take
(List.length y8) (rdrop (SN.lit (0 : Nat)) y8)) ++ List.take (min (Int.toNat (↑(List.length y8) : Int)) (Int.toNat (↑(List.length y8) : Int) - Int.toNat i)) y11 ++ List.drop (Int.toNat i + min
(Int.toNat (↑(List.length y8) : Int)) (Int.toNat (↑(List.length y8) : Int) - Int.toNat i)) (List.take (List.length y8) (rdrop (SN.lit (0 : Nat)) y8))) ++ List.take (Int.toNat (↑(List.length y8) :
Int)) y13 ++ List.drop ((0 : Nat) + Int.toNat (↑(List.length y8) : Int)) (List.take (Int.toNat i) (List.take (List.length y8) (rdrop (SN.lit (0 : Nat)) y8)) ++ List.take (min (Int.toNat (↑(List.length
y8) : Int)) (Int.toNat (↑(List.length y8) : Int) - Int.toNat i)) y11 ++ List.drop (Int.toNat i + min (Int.toNat (↑(List.length y8) : Int)) (Int.toNat (↑(List.length y8) : Int) - Int.toNat i))
(List.take (List.length y8) (rdrop (SN.lit (0 : Nat)) y8))))))) (SN.sym (Int.toNat (IntKind.wrap IntKind.i64 ((↑(List.length y8) : Int) - (1 : Int))))) false, SV.slI true (SC.rows eB (1 : Nat) (1 :
Nat) true y10) (SN.sym (List.length y10)) false, SV.int IntKind.i64 (SI.lit (0 : Int))]) []) ∧ (¬IntKind.wrap IntKind.i64 ((↑(List.length y8) : Int) - (1 : Int)) = (0 : Int) → ((↑(List.length y8) :
Int) = IntKind.wrap IntKind.i64 ((↑(List.length y8) : Int) - (1 : Int)) → Stuck (236 : Nat)) ∧ (¬(↑(List.length y8) : Int) = IntKind.wrap IntKind.i64 ((↑(List.length y8) : Int) - (1 : Int)) → ∃ (y12 :
List Int), ((List.length y12 = (0 : Nat) ∧ ∀ (y13 : Int), List.length (eB y13) = (1 : Nat) ∧ (∀ (y14 : SV), y14 ∈ eB y13 → imm (1 : Nat) y14 ∧ SV.one y14 = true) ∧ (true = true → ∀ (y14 : SV), y14 ∈
eB y13 → scalar y14)) ∧ True) ∧ Int.toNat (IntKind.wrap IntKind.i64 ((↑(List.length y8) : Int) - (1 : Int))) + (Int.toNat (↑(List.length y8) : Int) - Int.toNat (IntKind.wrap IntKind.i64
((↑(List.length y8) : Int) - (1 : Int)))) ≤ List.length (List.take (Int.toNat i) (List.take (List.length y8) (rdrop (SN.lit (0 : Nat)) y8)) ++ List.take (min (Int.toNat (↑(List.length y8) : Int))
(Int.toNat (↑(List.length y8) : Int) - Int.toNat i)) y11 ++ List.drop (Int.toNat i + min (Int.toNat (↑(List.length y8) : Int)) (Int.toNat (↑(List.length y8) : Int) - Int.toNat i)) (List.take
(List.length y8) (rdrop (SN.lit (0 : Nat)) y8))) ∧ ∃ (y13 : List (List Int)), SC.rows eT (1 : Nat) (2 : Nat) false (List.replicate (Int.toNat (↑(List.length y8) : Int) - Int.toNat (IntKind.wrap
IntKind.i64 ((↑(List.length y8) : Int) - (1 : Int)))) y12) = SC.rows eT (1 : Nat) (2 : Nat) false y13 ∧ Int.toNat (↑(List.length y8) : Int) - Int.toNat (IntKind.wrap IntKind.i64 ((↑(List.length y8) :
Int) - (1 : Int))) ≤ List.length y13 ∧ (0 : Int) ≤ IntKind.wrap IntKind.i64 ((↑(List.length y8) : Int) - (1 : Int)) ∧ IntKind.wrap IntKind.i64 ((↑(List.length y8) : Int) - (1 : Int)) ≤ (↑(List.length
y8) : Int) ∧ (↑(List.length y8) : Int) ≤ (↑(List.length y8) : Int) ∧ Int.toNat (IntKind.wrap IntKind.i64 ((↑(List.length y8) : Int) - (1 : Int))) ≤ List.length (List.take (Int.toNat (IntKind.wrap
IntKind.i64 ((↑(List.length y8) : Int) - (1 : Int)))) (List.take (Int.toNat i) (List.take (List.length y8) (rdrop (SN.lit (0 : Nat)) y8)) ++ List.take (min (Int.toNat (↑(List.length y8) : Int))
(Int.toNat (↑(List.length y8) : Int) - Int.toNat i)) y11 ++ List.drop (Int.toNat i + min (Int.toNat (↑(List.length y8) : Int)) (Int.toNat (↑(List.length y8) : Int) - Int.toNat i)) (List.take
(List.length y8) (rdrop (SN.lit (0 : Nat)) y8))) ++ List.take (Int.toNat (↑(List.length y8) : Int) - Int.toNat (IntKind.wrap IntKind.i64 ((↑(List.length y8) : Int) - (1 : Int)))) y13 ++ List.drop
(Int.toNat (IntKind.wrap IntKind.i64 ((↑(List.length y8) : Int) - (1 : Int))) + (Int.toNat (↑(List.length y8) : Int) - Int.toNat (IntKind.wrap IntKind.i64 ((↑(List.length y8) : Int) - (1 : Int)))))
(List.take (Int.toNat i) (List.take (List.length y8) (rdrop (SN.lit (0 : Nat)) y8)) ++ List.take (min (Int.toNat (↑(List.length y8) : Int)) (Int.toNat (↑(List.length y8) : Int) - Int.toNat i)) y11 ++
List.drop (Int.toNat i + min (Int.toNat (↑(List.length y8) : Int)) (Int.toNat (↑(List.length y8) : Int) - Int.toNat i)) (List.take (List.length y8) (rdrop (SN.lit (0 : Nat)) y8)))) ∧ PostS (SV.tup
[SV.slI false (SC.rows eT (1 : Nat) (2 : Nat) false l) (SN.sym (List.length l)) false, SV.slI false (SC.rows eB (1 : Nat) (1 : Nat) true b) (SN.sym (List.length b)) false, SV.int IntKind.i64 (SI.sym
x)]) (SV.tup [SV.slI true (SC.rows eT (1 : Nat) (2 : Nat) false (List.take (Int.toNat (IntKind.wrap IntKind.i64 ((↑(List.length y8) : Int) - (1 : Int)))) (rdrop (SN.lit (0 : Nat)) (List.take
(Int.toNat (IntKind.wrap IntKind.i64 ((↑(List.length y8) : Int) - (1 : Int)))) (List.take (Int.toNat i) (List.take (List.length y8) (rdrop (SN.lit (0 : Nat)) y8)) ++ List.take (min (Int.toNat
(↑(List.length y8) : Int)) (Int.toNat (↑(List.length y8) : Int) - Int.toNat i)) y11 ++ List.drop (Int.toNat i + min (Int.toNat (↑(List.length y8) : Int)) (Int.toNat (↑(List.length y8) : Int) -
Int.toNat i)) (List.take (List.length y8) (rdrop (SN.lit (0 : Nat)) y8))) ++ List.take (Int.toNat (↑(List.length y8) : Int) - Int.toNat (IntKind.wrap IntKind.i64 ((↑(List.length y8) : Int) - (1 :
Int)))) y13 ++ List.drop (Int.toNat (IntKind.wrap IntKind.i64 ((↑(List.length y8) : Int) - (1 : Int))) + (Int.toNat (↑(List.length y8) : Int) - Int.toNat (IntKind.wrap IntKind.i64 ((↑(List.length y8)
: Int) - (1 : Int))))) (List.take (Int.toNat i) (List.take (List.length y8) (rdrop (SN.lit (0 : Nat)) y8)) ++ List.take (min (Int.toNat (↑(List.length y8) : Int)) (Int.toNat (↑(List.length y8) : Int)
- Int.toNat i)) y11 ++ List.drop (Int.toNat i + min (Int.toNat (↑(List.length y8) : Int)) (Int.toNat (↑(List.length y8) : Int) - Int.toNat i)) (List.take (List.length y8) (rdrop (SN.lit (0 : Nat))
y8))))))) (SN.sym (Int.toNat (IntKind.wrap IntKind.i64 ((↑(List.length y8) : Int) - (1 : Int))))) false, SV.slI true (SC.rows eB (1 : Nat) (1 : Nat) true y10) (SN.sym (List.length y10)) false, SV.int
IntKind.i64 (SI.lit (0 : Int))]) []))) ∧ (¬IntKind.wrap IntKind.i64 (i + (1 : Int)) = (0 : Int) → ((↑(List.length y8) : Int) = IntKind.wrap IntKind.i64 (i + (1 : Int)) → Int.toNat i + min (0 : Nat)
(Int.toNat (↑(List.length y8) : Int) - Int.toNat i) ≤ List.length (List.take (List.length y8) (rdrop (SN.lit (0 : Nat)) y8)) ∧ ∃ (y11 : List (List Int)), sles [] (List.flatMap eT y11) ∧ min (0 : Nat)
(Int.toNat (↑(List.length y8) : Int) - Int.toNat i) ≤ List.length y11 ∧ (0 : Int) ≤ IntKind.wrap IntKind.i64 ((↑(List.length y8) : Int) - (1 : Int)) ∧ IntKind.wrap IntKind.i64 ((↑(List.length y8) :
Int) - (1 : Int)) ≤ (↑(List.length y8) : Int) ∧ (↑(List.length y8) : Int) ≤ (↑(List.length y8) : Int) ∧ (↑(List.length y8) : Int) ≤ (↑(List.length y8) : Int) ∧ (IntKind.wrap IntKind.i64
((↑(List.length y8) : Int) - (1 : Int)) = (0 : Int) → ∃ (y12 : List Int), ((List.length y12 = (0 : Nat) ∧ ∀ (y13 : Int), List.length (eB y13) = (1 : Nat) ∧ (∀ (y14 : SV), y14 ∈ eB y13 → imm (1 : Nat)
y14 ∧ SV.one y14 = true) ∧ (true = true → ∀ (y14 : SV), y14 ∈ eB y13 → scalar y14)) ∧ True) ∧ Int.toNat (↑(List.length y8) : Int) ≤ List.length (List.take (Int.toNat i) (List.take (List.length y8)
(rdrop (SN.lit (0 : Nat)) y8)) ++ List.take (min (0 : Nat) (Int.toNat (↑(List.length y8) : Int) - Int.toNat i)) y11 ++ List.drop (Int.toNat i + min (0 : Nat) (Int.toNat (↑(List.length y8) : Int) -
Int.toNat i)) (List.take (List.length y8) (rdrop (SN.lit (0 : Nat)) y8))) ∧ ∃ (y13 : List (List Int)), SC.rows eT (1 : Nat) (2 : Nat) false (List.replicate (Int.toNat (↑(List.length y8) : Int)) y12) =
SC.rows eT (1 : Nat) (2 : Nat) false y13 ∧ Int.toNat (↑(List.length y8) : Int) ≤ List.length y13 ∧ (0 : Int) ≤ IntKind.wrap IntKind.i64 ((↑(List.length y8) : Int) - (1 : Int)) ∧ IntKind.wrap
IntKind.i64 ((↑(List.length y8) : Int) - (1 : Int)) ≤ (↑(List.length y8) : Int) ∧ (↑(List.length y8) : Int) ≤ (↑(List.length y8) : Int) ∧ Int.toNat (IntKind.wrap IntKind.i64 ((↑(List.length y8) : Int)
- (1 : Int))) ≤ List.length (List.take (0 : Nat) (List.take (Int.toNat i) (List.take (List.length y8) (rdrop (SN.lit (0 : Nat)) y8)) ++ List.take (min (0 : Nat) (Int.toNat (↑(List.length y8) : Int) -
Int.toNat i)) y11 ++ List.drop (Int.toNat i + min (0 : Nat) (Int.toNat (↑(List.length y8) : Int) - Int.toNat i)) (List.take (List.length y8) (rdrop (SN.lit (0 : Nat)) y8))) ++ List.take (Int.toNat
(↑(List.length y8) : Int)) y13 ++ List.drop ((0 : Nat) + Int.toNat (↑(List.length y8) : Int)) (List.take (Int.toNat i) (List.take (List.length y8) (rdrop (SN.lit (0 : Nat)) y8)) ++ List.take (min (0 :
Nat) (Int.toNat (↑(List.length y8) : Int) - Int.toNat i)) y11 ++ List.drop (Int.toNat i + min (0 : Nat) (Int.toNat (↑(List.length y8) : Int) - Int.toNat i)) (List.take (List.length y8) (rdrop (SN.lit
(0 : Nat)) y8)))) ∧ PostS (SV.tup [SV.slI false (SC.rows eT (1 : Nat) (2 : Nat) false l) (SN.sym (List.length l)) false, SV.slI false (SC.rows eB (1 : Nat) (1 : Nat) true b) (SN.sym (List.length b))
false, SV.int IntKind.i64 (SI.sym x)]) (SV.tup [SV.slI true (SC.rows eT (1 : Nat) (2 : Nat) false (List.take (Int.toNat (IntKind.wrap IntKind.i64 ((↑(List.length y8) : Int) - (1 : Int)))) (rdrop
(SN.lit (0 : Nat)) (List.take (0 : Nat) (List.take (Int.toNat i) (List.take (List.length y8) (rdrop (SN.lit (0 : Nat)) y8)) ++ List.take (min (0 : Nat) (Int.toNat (↑(List.length y8) : Int) - Int.toNat
i)) y11 ++ List.drop (Int.toNat i + min (0 : Nat) (Int.toNat (↑(List.length y8) : Int) - Int.toNat i)) (List.take (List.length y8) (rdrop (SN.lit (0 : Nat)) y8))) ++ List.take (Int.toNat
(↑(List.length y8) : Int)) y13 ++ List.drop ((0 : Nat) + Int.toNat (↑(List.length y8) : Int)) (List.take (Int.toNat i) (List.take (List.length y8) (rdrop (SN.lit (0 : Nat)) y8)) ++ List.take (min (0 :
Nat) (Int.toNat (↑(List.length y8) : Int) - Int.toNat i)) y11 ++ List.drop (Int.toNat i + min (0 : Nat) (Int.toNat (↑(List.length y8) : Int) - Int.toNat i)) (List.take (List.length y8) (rdrop (SN.lit
(0 : Nat)) y8))))))) (SN.sym (Int.toNat (IntKind.wrap IntKind.i64 ((↑(List.length y8) : Int) - (1 : Int))))) false, SV.slI true (SC.rows eB (1 : Nat) (1 : Nat) true y10) (SN.sym (List.length y10))
false, SV.int IntKind.i64 (SI.lit (0 : Int))]) []) ∧ (¬IntKind.wrap IntKind.i64 ((↑(List.length y8) : Int) - (1 : Int)) = (0 : Int) → ((↑(List.length y8) : Int) = IntKind.wrap IntKind.i64
((↑(List.length y8) : Int) - (1 : Int)) → Stuck (236 : Nat)) ∧ (¬(↑(List.length y8) : Int) = IntKind.wrap IntKind.i64 ((↑(List.length y8) : Int) - (1 : Int)) → ∃ (y12 : List Int), ((List.length y12 =
(0 : Nat) ∧ ∀ (y13 : Int), List.length (eB y13) = (1 : Nat) ∧ (∀ (y14 : SV), y14 ∈ eB y13 → imm (1 : Nat) y14 ∧ SV.one y14 = true) ∧ (true = true → ∀ (y14 : SV), y14 ∈ eB y13 → scalar y14)) ∧ True) ∧
Int.toNat (IntKind.wrap IntKind.i64 ((↑(List.length y8) : Int) - (1 : Int))) + (Int.toNat (↑(List.length y8) : Int) - Int.toNat (IntKind.wrap IntKind.i64 ((↑(List.length y8) : Int) - (1 : Int)))) ≤
List.length (List.take (Int.toNat i) (List.take (List.length y8) (rdrop (SN.lit (0 : Nat)) y8)) ++ List.take (min (0 : Nat) (Int.toNat (↑(List.length y8) : Int) - Int.toNat i)) y11 ++ List.drop
(Int.toNat i + min (0 : Nat) (Int.toNat (↑(List.length y8) : Int) - Int.toNat i)) (List.take (List.length y8) (rdrop (SN.lit (0 : Nat)) y8))) ∧ ∃ (y13 : List (List Int)), SC.rows eT (1 : Nat) (2 :
Nat) false (List.replicate (Int.toNat (↑(List.length y8) : Int) - Int.toNat (IntKind.wrap IntKind.i64 ((↑(List.length y8) : Int) - (1 : Int)))) y12) = SC.rows eT (1 : Nat) (2 : Nat) false y13 ∧
Int.toNat (↑(List.length y8) : Int) - Int.toNat (IntKind.wrap IntKind.i64 ((↑(List.length y8) : Int) - (1 : Int))) ≤ List.length y13 ∧ (0 : Int) ≤ IntKind.wrap IntKind.i64 ((↑(List.length y8) : Int) -
(1 : Int)) ∧ IntKind.wrap IntKind.i64 ((↑(List.length y8) : Int) - (1 : Int)) ≤ (↑(List.length y8) : Int) ∧ (↑(List.length y8) : Int) ≤ (↑(List.length y8) : Int) ∧ Int.toNat (IntKind.wrap IntKind.i64
((↑(List.length y8) : Int) - (1 : Int))) ≤ List.length (List.take (Int.toNat (IntKind.wrap IntKind.i64 ((↑(List.length y8) : Int) - (1 : Int)))) (List.take (Int.toNat i) (List.take (List.length y8)
(rdrop (SN.lit (0 : Nat)) y8)) ++ List.take (min (0 : Nat) (Int.toNat (↑(List.length y8) : Int) - Int.toNat i)) y11 ++ List.drop (Int.toNat i + min (0 : Nat) (Int.toNat (↑(List.length y8) : Int) -
Int.toNat i)) (List.take (List.length y8) (rdrop (SN.lit (0 : Nat)) y8))) ++ List.take (Int.toNat (↑(List.length y8) : Int) - Int.toNat (IntKind.wrap IntKind.i64 ((↑(List.length y8) : Int) - (1 :
Int)))) y13 ++ List.drop (Int.toNat (IntKind.wrap IntKind.i64 ((↑(List.length y8) : Int) - (1 : Int))) + (Int.toNat (↑(List.length y8) : Int) - Int.toNat (IntKind.wrap IntKind.i64 ((↑(List.length y8)
: Int) - (1 : Int))))) (List.take (Int.toNat i) (List.take (List.length y8) (rdrop (SN.lit (0 : Nat)) y8)) ++ List.take (min (0 : Nat) (Int.toNat (↑(List.length y8) : Int) - Int.toNat i)) y11 ++
List.drop (Int.toNat i + min (0 : Nat) (Int.toNat (↑(List.length y8) : Int) - Int.toNat i)) (List.take (List.length y8) (rdrop (SN.lit (0 : Nat)) y8)))) ∧ PostS (SV.tup [SV.slI false (SC.rows eT (1 :
Nat) (2 : Nat) false l) (SN.sym (List.length l)) false, SV.slI false (SC.rows eB (1 : Nat) (1 : Nat) true b) (SN.sym (List.length b)) false, SV.int IntKind.i64 (SI.sym x)]) (SV.tup [SV.slI true
(SC.rows eT (1 : Nat) (2 : Nat) false (List.take (Int.toNat (IntKind.wrap IntKind.i64 ((↑(List.length y8) : Int) - (1 : Int)))) (rdrop (SN.lit (0 : Nat)) (List.take (Int.toNat (IntKind.wrap
IntKind.i64 ((↑(List.length y8) : Int) - (1 : Int)))) (List.take (Int.toNat i) (List.take (List.length y8) (rdrop (SN.lit (0 : Nat)) y8)) ++ List.take (min (0 : Nat) (Int.toNat (↑(List.length y8) :
Int) - Int.toNat i)) y11 ++ List.drop (Int.toNat i + min (0 : Nat) (Int.toNat (↑(List.length y8) : Int) - Int.toNat i)) (List.take (List.length y8) (rdrop (SN.lit (0 : Nat)) y8))) ++ List.take
(Int.toNat (↑(List.length y8) : Int) - Int.toNat (IntKind.wrap IntKind.i64 ((↑(List.length y8) : Int) - (1 : Int)))) y13 ++ List.drop (Int.toNat (IntKind.wrap IntKind.i64 ((↑(List.length y8) : Int) -
(1 : Int))) + (Int.toNat (↑(List.length y8) : Int) - Int.toNat (IntKind.wrap IntKind.i64 ((↑(List.length y8) : Int) - (1 : Int))))) (List.take (Int.toNat i) (List.take (List.length y8) (rdrop (SN.lit
(0 : Nat)) y8)) ++ List.take (min (0 : Nat) (Int.toNat (↑(List.length y8) : Int) - Int.toNat i)) y11 ++ List.drop (Int.toNat i + min (0 : Nat) (Int.toNat (↑(List.length y8) : Int) - Int.toNat i))
(List.take (List.length y8) (rdrop (SN.lit (0 : Nat)) y8))))))) (SN.sym (Int.toNat (IntKind.wrap IntKind.i64 ((↑(List.length y8) : Int) - (1 : Int))))) false, SV.slI true (SC.rows eB (1 : Nat) (1 :
Nat) true y10) (SN.sym (List.length y10)) false, SV.int IntKind.i64 (SI.lit (0 : Int))]) []))) ∧ (¬(↑(List.length y8) : Int) = IntKind.wrap IntKind.i64 (i + (1 : Int)) → Int.toNat (IntKind.wrap
IntKind.i64 (i + (1 : Int))) + (Int.toNat (↑(List.length y8) : Int) - Int.toNat (IntKind.wrap IntKind.i64 (i + (1 : Int)))) ≤ List.length (List.take (List.length y8) (rdrop (SN.lit (0 : Nat)) y8)) ∧
Int.toNat i + min (Int.toNat (↑(List.length y8) : Int) - Int.toNat (IntKind.wrap IntKind.i64 (i + (1 : Int)))) (Int.toNat (↑(List.length y8) : Int) - Int.toNat i) ≤ List.length (List.take (List.length
y8) (rdrop (SN.lit (0 : Nat)) y8)) ∧ ∃ (y11 : List (List Int)), SC.rows eT (1 : Nat) (2 : Nat) false (List.take (Int.toNat (↑(List.length y8) : Int) - Int.toNat (IntKind.wrap IntKind.i64 (i + (1 :
Int)))) (rdrop (SN.add (SN.lit (0 : Nat)) (SN.sym (Int.toNat (IntKind.wrap IntKind.i64 (i + (1 : Int)))))) (List.take (List.length y8) (rdrop (SN.lit (0 : Nat)) y8)))) = SC.rows eT (1 : Nat) (2 : Nat)
false y11 ∧ min (Int.toNat (↑(List.length y8) : Int) - Int.toNat (IntKind.wrap IntKind.i64 (i + (1 : Int)))) (Int.toNat (↑(List.length y8) : Int) - Int.toNat i) ≤ List.length y11 ∧ (0 : Int) ≤
IntKind.wrap IntKind.i64 ((↑(List.length y8) : Int) - (1 : Int)) ∧ IntKind.wrap IntKind.i64 ((↑(List.length y8) : Int) - (1 : Int)) ≤ (↑(List.length y8) : Int) ∧ (↑(List.length y8) : Int) ≤
(↑(List.length y8) : Int) ∧ (↑(List.length y8) : Int) ≤ (↑(List.length y8) : Int) ∧ (IntKind.wrap IntKind.i64 ((↑(List.length y8) : Int) - (1 : Int)) = (0 : Int) → ∃ (y12 : List Int), ((List.length
y12 = (0 : Nat) ∧ ∀ (y13 : Int), List.length (eB y13) = (1 : Nat) ∧ (∀ (y14 : SV), y14 ∈ eB y13 → imm (1 : Nat) y14 ∧ SV.one y14 = true) ∧ (true = true → ∀ (y14 : SV), y14 ∈ eB y13 → scalar y14)) ∧
True) ∧ Int.toNat (↑(List.length y8) : Int) ≤ List.length (List.take (Int.toNat i) (List.take (List.length y8) (rdrop (SN.lit (0 : Nat)) y8)) ++ List.take (min (Int.toNat (↑(List.length y8) : Int) -
Int.toNat (IntKind.wrap IntKind.i64 (i + (1 : Int)))) (Int.toNat (↑(List.length y8) : Int) - Int.toNat i)) y11 ++ List.drop (Int.toNat i + min (Int.toNat (↑(List.length y8) : Int) - Int.toNat
(IntKind.wrap IntKind.i64 (i + (1 : Int)))) (Int.toNat (↑(List.length y8) : Int) - Int.toNat i)) (List.take (List.length y8) (rdrop (SN.lit (0 : Nat)) y8))) ∧ ∃ (y13 : List (List Int)), SC.rows eT (1
: Nat) (2 : Nat) false (List.replicate (Int.toNat (↑(List.length y8) : Int)) y12) = SC.rows eT (1 : Nat) (2 : Nat) false y13 ∧ Int.toNat (↑(List.length y8) : Int) ≤ List.length y13 ∧ (0 : Int) ≤
IntKind.wrap IntKind.i64 ((↑(List.length y8) : Int) - (1 : Int)) ∧ IntKind.wrap IntKind.i64 ((↑(List.length y8) : Int) - (1 : Int)) ≤ (↑(List.length y8) : Int) ∧ (↑(List.length y8) : Int) ≤
(↑(List.length y8) : Int) ∧ Int.toNat (IntKind.wrap IntKind.i64 ((↑(List.length y8) : Int) - (1 : Int))) ≤ List.length (List.take (0 : Nat) (List.take (Int.toNat i) (List.take (List.length y8) (rdrop
(SN.lit (0 : Nat)) y8)) ++ List.take (min (Int.toNat (↑(List.length y8) : Int) - Int.toNat (IntKind.wrap IntKind.i64 (i + (1 : Int)))) (Int.toNat (↑(List.length y8) : Int) - Int.toNat i)) y11 ++
List.drop (Int.toNat i + min (Int.toNat (↑(List.length y8) : Int) - Int.toNat (IntKind.wrap IntKind.i64 (i + (1 : Int)))) (Int.toNat (↑(List.length y8) : Int) - Int.toNat i)) (List.take (List.length
y8) (rdrop (SN.lit (0 : Nat)) y8))) ++ List.take (Int.toNat (↑(List.length y8) : Int)) y13 ++ List.drop ((0 : Nat) + Int.toNat (↑(List.length y8) : Int)) (List.take (Int.toNat i) (List.take
(List.length y8) (rdrop (SN.lit (0 : Nat)) y8)) ++ List.take (min (Int.toNat (↑(List.length y8) : Int) - Int.toNat (IntKind.wrap IntKind.i64 (i + (1 : Int)))) (Int.toNat (↑(List.length y8) : Int) -
Int.toNat i)) y11 ++ List.drop (Int.toNat i + min (Int.toNat (↑(List.length y8) : Int) - Int.toNat (IntKind.wrap IntKind.i64 (i + (1 : Int)))) (Int.toNat (↑(List.length y8) : Int) - Int.toNat i))
(List.take (List.length y8) (rdrop (SN.lit (0 : Nat)) y8)))) ∧ PostS (SV.tup [SV.slI false (SC.rows eT (1 : Nat) (2 : Nat) false l) (SN.sym (List.length l)) false, SV.slI false (SC.rows eB (1 : Nat)
(1 : Nat) true b) (SN.sym (List.length b)) false, SV.int IntKind.i64 (SI.sym x)]) (SV.tup [SV.slI true (SC.rows eT (1 : Nat) (2 : Nat) false (List.take (Int.toNat (IntKind.wrap IntKind.i64
((↑(List.length y8) : Int) - (1 : Int)))) (rdrop (SN.lit (0 : Nat)) (List.take (0 : Nat) (List.take (Int.toNat i) (List.take (List.length y8) (rdrop (SN.lit (0 : Nat)) y8)) ++ List.take (min
(Int.toNat (↑(List.length y8) : Int) - Int.toNat (IntKind.wrap IntKind.i64 (i + (1 : Int)))) (Int.toNat (↑(List.length y8) : Int) - Int.toNat i)) y11 ++ List.drop (Int.toNat i + min (Int.toNat
(↑(List.length y8) : Int) - Int.toNat (IntKind.wrap IntKind.i64 (i + (1 : Int)))) (Int.toNat (↑(List.length y8) : Int) - Int.toNat i)) (List.take (List.length y8) (rdrop (SN.lit (0 : Nat)) y8))) ++
List.take (Int.toNat (↑(List.length y8) : Int)) y13 ++ List.drop ((0 : Nat) + Int.toNat (↑(List.length y8) : Int)) (List.take (Int.toNat i) (List.take (List.length y8) (rdrop (SN.lit (0 : Nat)) y8))
++ List.take (min (Int.toNat (↑(List.length y8) : Int) - Int.toNat (IntKind.wrap IntKind.i64 (i + (1 : Int)))) (Int.toNat (↑(List.length y8) : Int) - Int.toNat i)) y11 ++ List.drop (Int.toNat i + min
(Int.toNat (↑(List.length y8) : Int) - Int.toNat (IntKind.wrap IntKind.i64 (i + (1 : Int)))) (Int.toNat (↑(List.length y8) : Int) - Int.toNat i)) (List.take (List.length y8) (rdrop (SN.lit (0 : Nat))
y8))))))) (SN.sym (Int.toNat (IntKind.wrap IntKind.i64 ((↑(List.length y8) : Int) - (1 : Int))))) false, SV.slI true (SC.rows eB (1 : Nat) (1 : Nat) true y10) (SN.sym (List.length y10)) false, SV.int
IntKind.i64 (SI.lit (0 : Int))]) []) ∧ (¬IntKind.wrap IntKind.i64 ((↑(List.length y8) : Int) - (1 : Int)) = (0 : Int) → ((↑(List.length y8) : Int) = IntKind.wrap IntKind.i64 ((↑(List.length y8) : Int)
- (1 : Int)) → Stuck (236 : Nat)) ∧ (¬(↑(List.length y8) : Int) = IntKind.wrap IntKind.i64 ((↑(List.length y8) : Int) - (1 : Int)) → ∃ (y12 : List Int), ((List.length y12 = (0 : Nat) ∧ ∀ (y13 : Int),
List.length (eB y13) = (1 : Nat) ∧ (∀ (y14 : SV), y14 ∈ eB y13 → imm (1 : Nat) y14 ∧ SV.one y14 = true) ∧ (true = true → ∀ (y14 : SV), y14 ∈ eB y13 → scalar y14)) ∧ True) ∧ Int.toNat (IntKind.wrap
IntKind.i64 ((↑(List.length y8) : Int) - (1 : Int))) + (Int.toNat (↑(List.length y8) : Int) - Int.toNat (IntKind.wrap IntKind.i64 ((↑(List.length y8) : Int) - (1 : Int)))) ≤ List.length (List.take
(Int.toNat i) (List.take (List.length y8) (rdrop (SN.lit (0 : Nat)) y8)) ++ List.take (min (Int.toNat (↑(List.length y8) : Int) - Int.toNat (IntKind.wrap IntKind.i64 (i + (1 : Int)))) (Int.toNat
(↑(List.length y8) : Int) - Int.toNat i)) y11 ++ List.drop (Int.toNat i + min (Int.toNat (↑(List.length y8) : Int) - Int.toNat (IntKind.wrap IntKind.i64 (i + (1 : Int)))) (Int.toNat (↑(List.length y8)
: Int) - Int.toNat i)) (List.take (List.length y8) (rdrop (SN.lit (0 : Nat)) y8))) ∧ ∃ (y13 : List (List Int)), SC.rows eT (1 : Nat) (2 : Nat) false (List.replicate (Int.toNat (↑(List.length y8) :
Int) - Int.toNat (IntKind.wrap IntKind.i64 ((↑(List.length y8) : Int) - (1 : Int)))) y12) = SC.rows eT (1 : Nat) (2 : Nat) false y13 ∧ Int.toNat (↑(List.length y8) : Int) - Int.toNat (IntKind.wrap
IntKind.i64 ((↑(List.length y8) : Int) - (1 : Int))) ≤ List.length y13 ∧ (0 : Int) ≤ IntKind.wrap IntKind.i64 ((↑(List.length y8) : Int) - (1 : Int)) ∧ IntKind.wrap IntKind.i64 ((↑(List.length y8) :
Int) - (1 : Int)) ≤ (↑(List.length y8) : Int) ∧ (↑(List.length y8) : Int) ≤ (↑(List.length y8) : Int) ∧ Int.toNat (IntKind.wrap IntKind.i64 ((↑(List.length y8) : Int) - (1 : Int))) ≤ List.length
(List.take (Int.toNat (IntKind.wrap IntKind.i64 ((↑(List.length y8) : Int) - (1 : Int)))) (List.take (Int.toNat i) (List.take (List.length y8) (rdrop (SN.lit (0 : Nat)) y8)) ++ List.take (min
(Int.toNat (↑(List.length y8) : Int) - Int.toNat (IntKind.wrap IntKind.i64 (i + (1 : Int)))) (Int.toNat (↑(List.length y8) : Int) - Int.toNat i)) y11 ++ List.drop (Int.toNat i + min (Int.toNat
(↑(List.length y8) : Int) - Int.toNat (IntKind.wrap IntKind.i64 (i + (1 : Int)))) (Int.toNat (↑(List.length y8) : Int) - Int.toNat i)) (List.take (List.length y8) (rdrop (SN.lit (0 : Nat)) y8))) ++
List.take (Int.toNat (↑(List.length y8) : Int) - Int.toNat (IntKind.wrap IntKind.i64 ((↑(List.length y8) : Int) - (1 : Int)))) y13 ++ List.drop (Int.toNat (IntKind.wrap IntKind.i64 ((↑(List.length y8)
: Int) - (1 : Int))) + (Int.toNat (↑(List.length y8) : Int) - Int.toNat (IntKind.wrap IntKind.i64 ((↑(List.length y8) : Int) - (1 : Int))))) (List.take (Int.toNat i) (List.take (List.length y8) (rdrop
(SN.lit (0 : Nat)) y8)) ++ List.take (min (Int.toNat (↑(List.length y8) : Int) - Int.toNat (IntKind.wrap IntKind.i64 (i + (1 : Int)))) (Int.toNat (↑(List.length y8) : Int) - Int.toNat i)) y11 ++
List.drop (Int.toNat i + min (Int.toNat (↑(List.length y8) : Int) - Int.toNat (IntKind.wrap IntKind.i64 (i + (1 : Int)))) (Int.toNat (↑(List.length y8) : Int) - Int.toNat i)) (List.take (List.length
y8) (rdrop (SN.lit (0 : Nat)) y8)))) ∧ PostS (SV.tup [SV.slI false (SC.rows eT (1 : Nat) (2 : Nat) false l) (SN.sym (List.length l)) false, SV.slI false (SC.rows eB (1 : Nat) (1 : Nat) true b) (SN.sym
(List.length b)) false, SV.int IntKind.i64 (SI.sym x)]) (SV.tup [SV.slI true (SC.rows eT (1 : Nat) (2 : Nat) false (List.take (Int.toNat (IntKind.wrap IntKind.i64 ((↑(List.length y8) : Int) - (1 :
Int)))) (rdrop (SN.lit (0 : Nat)) (List.take (Int.toNat (IntKind.wrap IntKind.i64 ((↑(List.length y8) : Int) - (1 : Int)))) (List.take (Int.toNat i) (List.take (List.length y8) (rdrop (SN.lit (0 :
Nat)) y8)) ++ List.take (min (Int.toNat (↑(List.length y8) : Int) - Int.toNat (IntKind.wrap IntKind.i64 (i + (1 : Int)))) (Int.toNat (↑(List.length y8) : Int) - Int.toNat i)) y11 ++ List.drop
(Int.toNat i + min (Int.toNat (↑(List.length y8) : Int) - Int.toNat (IntKind.wrap IntKind.i64 (i + (1 : Int)))) (Int.toNat (↑(List.length y8) : Int) - Int.toNat i)) (List.take (List.length y8) (rdrop
(SN.lit (0 : Nat)) y8))) ++ List.take (Int.toNat (↑(List.length y8) : Int) - Int.toNat (IntKind.wrap IntKind.i64 ((↑(List.length y8) : Int) - (1 : Int)))) y13 ++ List.drop (Int.toNat (IntKind.wrap
IntKind.i64 ((↑(List.length y8) : Int) - (1 : Int))) + (Int.toNat (↑(List.length y8) : Int) - Int.toNat (IntKind.wrap IntKind.i64 ((↑(List.length y8) : Int) - (1 : Int))))) (List.take (Int.toNat i)
(List.take (List.length y8) (rdrop (SN.lit (0 : Nat)) y8)) ++ List.take (min (Int.toNat (↑(List.length y8) : Int) - Int.toNat (IntKind.wrap IntKind.i64 (i + (1 : Int)))) (Int.toNat (↑(List.length y8)
: Int) - Int.toNat i)) y11 ++ List.drop (Int.toNat i + min (Int.toNat (↑(List.length y8) : Int) - Int.toNat (IntKind.wrap IntKind.i64 (i + (1 : Int)))) (Int.toNat (↑(List.length y8) : Int) - Int.toNat
i)) (List.take (List.length y8) (rdrop (SN.lit (0 : Nat)) y8))))))) (SN.sym (Int.toNat (IntKind.wrap IntKind.i64 ((↑(List.length y8) : Int) - (1 : Int))))) false, SV.slI true (SC.rows eB (1 : Nat) (1
: Nat) true y10) (SN.sym (List.length y10)) false, SV.int IntKind.i64 (SI.lit (0 : Int))]) []))))))))) ∧ True) ∧ (¬(0 : Int) < (↑(List.length n) : Int) → (i < (0 : Int) → PostS (SV.tup [SV.slI false
(SC.rows eT (1 : Nat) (2 : Nat) false l) (SN.sym (List.length l)) false, SV.slI false (SC.rows eB (1 : Nat) (1 : Nat) true b) (SN.sym (List.length b)) false, SV.int IntKind.i64 (SI.sym x)]) (SV.tup
[SV.nilSl, SV.nilSl, SV.int IntKind.i64 (SI.lit (2 : Int))]) []) ∧ (¬i < (0 : Int) → ((0 : Int) ≤ i → PostS (SV.tup [SV.slI false (SC.rows eT (1 : Nat) (2 : Nat) false l) (SN.sym (List.length l))
false, SV.slI false (SC.rows eB (1 : Nat) (1 : Nat) true b) (SN.sym (List.length b)) false, SV.int IntKind.i64 (SI.sym x)]) (SV.tup [SV.nilSl, SV.nilSl, SV.int IntKind.i64 (SI.lit (2 : Int))]) []) ∧
(¬(0 : Int) ≤ i → Stuck (36 : Nat)))))) := by kernel_rfl
end
end Go.Proofs.Ytifcjhfejacmcaa.VM
/- Nets: the plain functions and the three turns answer so. No conditions. -/
namespace Go.Proofs.Ytifcjhfejacmcaa.VM
open Go Go.RowKit
set_option linter.unusedVariables false
set_option linter.unusedSimpArgs false
set_option maxRecDepth 100000
noncomputable section
theorem rokB : ROK eB 1 1 true := fun x => ⟨rfl, fun v hv => by simp [eB] at hv; subst hv; exact ⟨trivial, rfl⟩, fun _ v hv => by simp [eB] at hv; subst hv; trivial⟩
theorem rokT : ROK eT 1 2 false := fun x => ⟨rfl, fun v hv => by simp [eT] at hv; subst hv; exact ⟨⟨rfl, Nat.le_refl 1⟩, rfl⟩, fun q => by cases q⟩
theorem rl_bytes {ε : Nat → Option BE} : ∀ {x : List Int} {vs : List V}, RL ε (x.flatMap eB) vs → vs = x.map (V.int .u8)
  | [], vs, h => by cases h; rfl
  | a :: x, vs, h => by
    rw [List.flatMap_cons] at h
    cases h with
    | cons r s =>
      cases r with
      | int _ _ m hm => rw [hm, rl_bytes s]; rfl
theorem u8s_map : ∀ x : List Int, u8s (x.map (V.int .u8)) = some x
  | [] => rfl
  | a :: x => by rw [List.map_cons, u8s, u8s_map x]; rfl
theorem rl_map {ε : Nat → Option BE} : ∀ x : List Int, RL ε (x.flatMap eB) (x.map (V.int .u8))
  | [] => .nil
  | a :: x => .cons (.int _ _ _ rfl) (rl_map x)
theorem ext_ok : ExtOK Try.prog cf0 := by
  intro f g hf base vs rv blks h
  have hf : (bif Nat.beq f 14 then some cloneG else none) = some g := hf
  cases hq : Nat.beq f 14 with
  | false => rw [hq] at hf; cases hf
  | true =>
    rw [hq] at hf
    have : f = 14 := Nat.eq_of_beq_eq_true hq
    subst this
    cases hf
    exact clone_iso h
theorem clone_ok : CtOK Try.prog cf0 14 ctClone := by
  intro base bs K hK as' has vbase
  obtain ⟨x, h1, h2, h3⟩ := hK
  have hr := sles_rel h1 has
  have run : ∀ v rv, cloneG vbase [v] = some (rv, []) → ∃ N, ∀ n, N ≤ n → callI Try.prog cf0 (exec Try.prog cf0 n) 14 vbase [v] = some (rv, []) := fun v rv h => ⟨0, fun n _ => h⟩
  cases hr with
  | cons r s =>
    cases s
    cases r with
    | slI q1 q2 q3 q4 q5 =>
      rename_i fr' tight' cs' m
      have e := rl_bytes q4
      subst e
      have q3 : m = x.length := q3
      subst q3
      refine ⟨rowI x, [], _, [], run _ _ ?_, h3, .nil, ?_⟩
      · show (if x.length ≤ (x.map (V.int .u8)).length ∧ x.length < 140737488355328 then (u8s ((x.map (V.int .u8)).take x.length)).map fun x => (rowI x, []) else none) = _
        rw [if_pos ⟨by simp, by omega⟩, List.take_of_length_le (by simp), u8s_map]; rfl
      · exact .slI (fun _ => rfl) (fun q => by cases q) rfl (rl_map x) rokB
    | slIn q1 q2 =>
      have q1 : x.length = 0 := q1
      refine ⟨.nilSl, [], _, [], run _ _ rfl, h3, .nil, ?_⟩
      exact .slIn q1 rokB
    | slI0 q1 q2 q3 q4 =>
      rename_i fr' tight'
      have q3 : x.length = 0 := q3
      have : x = [] := List.length_eq_zero_iff.1 q3
      subst this
      refine ⟨rowI [], [], _, [], run _ _ rfl, h3, .nil, ?_⟩
      exact .slI (fun _ => rfl) (fun q => by cases q) rfl .nil rokB
theorem sx0_ok : SXOK Try.prog cf0 sx0 := sxok_of (all_cons clone_ok all_nil) all_nil
theorem rdrop0 {α : Type} (xs : List α) : rdrop (SN.lit 0) xs = xs := rfl
theorem nx {t : Nat} (h : t < 100000) : IntKind.i64.wrap ((t : Int) + 1) = ((t + 1 : Nat) : Int) := by rw [wr_i64 (by omega) (by omega)]; omega
theorem L5_ok (a : L5.ι) (ha : L5.G a) : sexec sx0 Try.prog cf0 1000 (loopBody Try.prog 5 0) (L5.I a) (L5.round 1000 a) := by
  rw [vc_L5]
  obtain ⟨n, t⟩ := a
  obtain ⟨g1, g2⟩ := ha
  simp only [true_and, and_true, eq_self, Int.toNat_natCast] at *
  refine ⟨fun h1 => ⟨fun h2 => ⟨by omega, by omega, by omega, fun x hx => ⟨fun h3 => Exists.intro () (Exists.intro t (Exists.intro x ⟨by omega, hx, by omega⟩)), fun h3 => Exists.intro (n, t + 1) ⟨⟨by show t + 1 ≤ n.length; omega, by show t + 1 ≤ 100; omega⟩, by show 100 - (t + 1) < 100 - t; omega, ?_, fun _ hp => hp, ⟨rfl, rfl⟩, nx (by omega)⟩⟩⟩, fun h2 => Exists.intro n ⟨⟨rfl, fun k x hk hk2 => by omega⟩, rfl, rfl⟩⟩, fun h1 => Exists.intro n ⟨⟨rfl, fun k x hk hk2 hx => ?_⟩, rfl, rfl⟩⟩
  · rintro o ⟨ho, hp⟩
    refine ⟨ho, fun k y hk hk2 hy => ?_⟩
    by_cases q : k = t
    · subst q; rw [hx] at hy; cases hy; omega
    · exact hp k y (by show t + 1 ≤ k; omega) hk2 hy
  · have := (List.getElem?_eq_some_iff.1 hx).1; omega
theorem L12_ok (a : L12.ι) (ha : L12.G a) : sexec sx0 Try.prog cf0 1000 (loopBody Try.prog 12 0) (L12.I a) (L12.round 1000 a) := by
  rw [vc_L12]
  obtain ⟨n, t⟩ := a
  obtain ⟨g1, g2, g3, g4⟩ := ha
  simp only [true_and, and_true, eq_self, Int.toNat_natCast, rdrop0] at *
  refine ⟨fun h1 => ⟨by omega, by omega, by omega, fun x hx => Exists.intro x ⟨⟨rfl, rfl⟩, (g1 x (List.mem_of_getElem? hx)).2, by omega, by rw [List.length_take]; omega, Exists.intro x ⟨⟨rfl, rfl⟩, Exists.intro (n, t + 1) ⟨⟨g1, by show 1 ≤ t + 1; omega, by show t + 1 ≤ n.length; omega, g4⟩, by show n.length - (t + 1) < n.length - t; omega, fun o ho => ho, ⟨rfl, ⟨rfl, rfl⟩, rfl, nx (by omega)⟩, ?_⟩⟩⟩⟩, fun h1 => Exists.intro n ⟨rfl, by show t = n.length; omega, ?_⟩⟩
  · show SC.rows eT 1 2 false (List.take t n ++ [x]) = SC.rows eT 1 2 false (List.take (t + 1) n)
    rw [List.take_add_one, hx]; rfl
  · show SC.rows eT 1 2 false (List.take t n) = SC.rows eT 1 2 false n
    rw [List.take_of_length_le (by omega)]
theorem take_ext {n m : List (List Int)} {a : Nat} (h : ∀ k : Nat, k < a → n[k]? = m[k]?) : n.take a = m.take a := by
  apply List.ext_getElem?
  intro k
  rw [List.getElem?_take, List.getElem?_take]
  split
  · exact h k (by assumption)
  · rfl
theorem L7_ok (a : L7.ι) (ha : L7.G a) : sexec sx0 Try.prog cf0 1000 (loopBody Try.prog 7 0) (L7.I a) (L7.round 1000 a) := by
  rw [vc_L7]
  obtain ⟨⟨⟨n, e⟩, ⟨m, f⟩⟩, t⟩ := a
  obtain ⟨g1, g2, g3, g4, g5, g6, g7⟩ := ha
  have g3 : e = f := g3
  subst g3
  simp only [true_and, and_true, eq_self, Int.toNat_natCast, rdrop0, List.take_length, Nat.le_refl] at *
  refine ⟨fun h1 => ⟨by omega, by omega, by omega, fun x hx => Exists.intro x ⟨rfl, by omega, by omega, by omega, fun y hy => Exists.intro y ⟨rfl, (g1 x (List.mem_of_getElem? hx)).1, (g2 y (List.mem_of_getElem? hy)).1, fun h2 => Exists.intro () (fun q => ?_), fun h2 => Exists.intro (((n, e), (m, e)), t + 1) ⟨⟨g1, g2, rfl, g4, g5, by show t + 1 ≤ e; omega, g7⟩, by show e - (t + 1) < e - t; omega, ?_, fun _ hp => hp, ⟨rfl, rfl⟩, ⟨rfl, rfl⟩, nx (by omega)⟩⟩⟩⟩, fun h1 => Exists.intro () fun k hk hk2 => by omega⟩
  · have q : n.take e = m.take e := q
    have := congrArg (fun l : List (List Int) => l[t]?) q
    simp only [List.getElem?_take] at this
    rw [if_pos (by omega), if_pos (by omega), hx, hy] at this
    cases this
    exact h2 rfl
  · intro _ hp k hk hk2
    by_cases q : k = t
    · subst q; rw [hx, hy, Classical.not_not.1 h2]
    · exact hp k (by show t + 1 ≤ k; omega) hk2
theorem L8_ok (a : L8.ι) (ha : L8.G a) : sexec sx0 Try.prog cf0 1000 (loopBody Try.prog 8 0) (L8.I a) (L8.round 1000 a) := by
  rw [vc_L8]
  obtain ⟨⟨n, b⟩, t⟩ := a
  obtain ⟨g1, g2, g3, g4⟩ := ha
  simp only [true_and, and_true, eq_self, Int.toNat_natCast, rdrop0, List.take_length, Nat.le_refl] at *
  have hc : List.count b (List.take t n) ≤ t := Nat.le_trans List.count_le_length (by rw [List.length_take]; omega)
  have step : ∀ x, n[t]? = some x → List.count b (List.take (t + 1) n) = List.count b (List.take t n) + if x = b then 1 else 0 := by
    intro x hx
    rw [List.take_add_one, hx]
    simp only [Option.toList_some, List.count_append, List.count_singleton, beq_iff_eq]
  refine ⟨fun h1 => ⟨by omega, by omega, by omega, fun x hx => Exists.intro x ⟨rfl, Exists.intro b ⟨rfl, (g1 x (List.mem_of_getElem? hx)).1, g2, fun h2 => Exists.intro ((n, b), t + 1) ⟨⟨g1, g2, by show t + 1 ≤ n.length; omega, g4⟩, by show n.length - (t + 1) < n.length - t; omega, fun o ho => ho, ⟨rfl, rfl⟩, ⟨rfl, rfl⟩, ?_, nx (by omega)⟩, fun h2 => Exists.intro ((n, b), t + 1) ⟨⟨g1, g2, by show t + 1 ≤ n.length; omega, g4⟩, by show n.length - (t + 1) < n.length - t; omega, fun o ho => ho, ⟨rfl, rfl⟩, ⟨rfl, rfl⟩, ?_, nx (by omega)⟩⟩⟩⟩, fun h1 => Exists.intro (n, b) ⟨rfl, ?_⟩⟩
  · show IntKind.i64.wrap ((List.count b (List.take t n) : Int) + 1) = (List.count b (List.take (t + 1) n) : Int)
    rw [step x hx, if_pos h2, nx (by omega)]
  · show (List.count b (List.take t n) : Int) = (List.count b (List.take (t + 1) n) : Int)
    rw [step x hx, if_neg h2]; rfl
  · show (List.count b (List.take t n) : Int) = (List.count b n : Int)
    rw [List.take_of_length_le (by omega)]
def greatB (n : List (List Int)) : Bool := decide (100 < n.length) || (n.take 100).any fun x => decide (200 < x.length)
theorem sx5_ok : SXOK Try.prog cf0 sx5 := sxok_lp all_nil (all_cons (inv_vc (m := 1000) sx0_ok L5_ok) all_nil)
theorem sx7_ok : SXOK Try.prog cf0 sx7 := sxok_lp all_nil (all_cons (inv_vc (m := 1000) sx0_ok L7_ok) all_nil)
theorem sx8_ok : SXOK Try.prog cf0 sx8 := sxok_lp all_nil (all_cons (inv_vc (m := 1000) sx0_ok L8_ok) all_nil)
theorem sx12_ok : SXOK Try.prog cf0 sx12 := sxok_lp (all_cons clone_ok all_nil) (all_cons (peel_ok (m := 1000) sx0_ok (inv_vc (m := 1000) sx0_ok L12_ok)) all_nil)
theorem Great_all (n : List (List Int)) : scallI sx5 Try.prog cf0 (sexec sx5 Try.prog cf0 1000) 5 0 [rows2 n] (post (.bool (.sym (greatB n = true)))) := by
  rw [vc_Great]
  simp only [true_and, and_true, eq_self, implies_true]
  refine ⟨SameCode.refl _, Exists.intro (n, 0) ⟨⟨Nat.zero_le _, Nat.zero_le _⟩, ⟨⟨rfl, rfl⟩, rfl⟩, ?_, ?_⟩⟩
  · rintro o ⟨ho, hp⟩
    have ho : o = n := ho
    have hp : ∀ (k : Nat) x, 0 ≤ k → k < 100 → n[k]? = some x → x.length ≤ 200 := hp
    have : ((n.take 100).any fun x => decide (200 < x.length)) = false := by
      rw [List.any_eq_false]
      intro x hx
      obtain ⟨k, hk⟩ := List.getElem?_of_mem hx
      rw [List.getElem?_take] at hk
      split at hk
      · have := hp k x (Nat.zero_le _) (by omega) hk
        simp; omega
      · cases hk
    have e : List.length o = n.length := by rw [ho]
    unfold greatB
    rw [this, Bool.or_false, decide_eq_true_eq, e]
    omega
  · rintro _ ⟨k, x, k1, k2, k3⟩
    simp only [true_iff]
    unfold greatB
    rw [Bool.or_eq_true]
    right
    rw [List.any_eq_true]
    exact ⟨x, List.mem_of_getElem? (i := k) (by rw [List.getElem?_take, if_pos k1]; exact k2), by simpa using k3⟩
theorem Same_all (n m : List (List Int)) (e f : Nat) (hn : All n) (hm : All m) (he : e ≤ n.length) (hf : f ≤ m.length) (hl : e ≤ 1000) : scallI sx7 Try.prog cf0 (sexec sx7 Try.prog cf0 1000) 7 0 [rowsN n e, rowsN m f] (post (.bool (.sym (n.take e = m.take f)))) := by
  rw [vc_Same]
  simp only [true_and, and_true, eq_self, implies_true]
  refine ⟨fun h => ?_, fun h => ⟨SameCode.refl _, Exists.intro (((n, e), (m, f)), 0) ⟨⟨hn, hm, by show e = f; omega, he, hf, Nat.zero_le _, hl⟩, ⟨⟨rfl, rfl⟩, ⟨rfl, rfl⟩, rfl⟩, fun _ hp => ?_, fun _ hp => ?_⟩⟩⟩
  · simp only [Bool.false_eq_true, false_iff]
    intro q
    have := congrArg List.length q
    simp only [List.length_take] at this
    omega
  · have hp : ∀ k : Nat, 0 ≤ k → k < e → n[k]? = m[k]? := hp
    simp only [true_iff]
    have : e = f := by omega
    subst this
    exact take_ext fun k hk => hp k (Nat.zero_le _) hk
  · have hp : n.take e ≠ m.take f := hp
    simp [hp]
theorem count_all (n : List (List Int)) (b : List Int) (hn : All n) (hb : By b) (hl : n.length ≤ 1000) : scallI sx8 Try.prog cf0 (sexec sx8 Try.prog cf0 1000) 8 0 [rows2 n, row b] (post (.int .i64 (.sym (n.count b : Int)))) := by
  rw [vc_count]
  simp only [true_and, and_true, eq_self, implies_true]
  refine ⟨SameCode.refl _, Exists.intro ((n, b), 0) ⟨⟨hn, hb, Nat.zero_le _, hl⟩, ⟨⟨rfl, rfl⟩, ⟨rfl, rfl⟩, rfl, rfl⟩, ?_⟩⟩
  intro o ho
  have ho : o = (n, b) := ho
  subst ho
  rfl

end
end Go.Proofs.Ytifcjhfejacmcaa.VM
/- Nets: the three turns. No conditions. -/
namespace Go.Proofs.Ytifcjhfejacmcaa.VM
open Go Go.RowKit
set_option linter.unusedVariables false
set_option linter.unusedSimpArgs false
set_option maxRecDepth 100000
noncomputable section
def sendE (n : List (List Int)) : Int := if n.length ≤ 64 then 0 else 8
def putL (n : List (List Int)) (b : List Int) : List (List Int) := if n.length < 64 then n ++ [b] else n
def sendL (n : List (List Int)) (b : List Int) : List (List Int) := if n.length ≤ 64 then putL n b else []
def takeE (n : List (List Int)) (i : Int) : Int := if n.length ≤ 64 then (if 0 ≤ i ∧ i < n.length then 0 else 2) else 8
def at_ (n : List (List Int)) (i : Int) : List Int := n.getD i.toNat []
def twiceL (n : List (List Int)) (i : Int) : List (List Int) := if takeE n i = 0 then putL n (at_ n i) else []
def takeL (n : List (List Int)) (i : Int) : List (List Int) := if takeE n i = 0 then n.eraseIdx i.toNat else []
def takeB (n : List (List Int)) (i : Int) : List Int := if takeE n i = 0 then at_ n i else []
theorem post_S {r : SV} {v : SV} (h1 : sle 12 v r) : PostS r v [] := PostS.mk h1
theorem ctK {sx : SX} (hsx : SXOK Try.prog cf0 sx) {m f : Nat} {α : Type} {args : α → List SV} {pre : α → Prop} {res : α → SV} (h : ∀ a, pre a → scallI sx Try.prog cf0 (sexec sx Try.prog cf0 m) f 0 (args a) (PostK (res a))) : CtOK Try.prog cf0 f (Ct args pre res) := by
  intro base bs K hK as' has vbase
  obtain ⟨a, h1, h2, h3⟩ := hK
  obtain ⟨rv, blks, srv, sblks, hN, g1, g2, g3⟩ := scallI_of hsx (sexec_of hsx m) f 0 (args a) _ (h a h2) as' (sles_rel h1 has) vbase
  have g1 : forceV 12 srv (fun v => PostS (res a) v sblks) := g1
  rw [forceV_eq] at g1
  obtain ⟨g4, g5⟩ := post_of g1.h
  subst g4
  cases g2
  rw [show newsE noE 0 vbase ([] : List SBlk).length = noE from newsE_zero] at g3
  refine ⟨rv, [], res a, [], hN, h3, .nil, ?_⟩
  rw [show newsE noE base vbase ([] : List SBlk).length = noE from newsE_zero]
  exact sle_rel 12 _ _ _ g5 g3
theorem rows_eq {L l : List (List Int)} (h : L = l) : SC.rows eT 1 2 false L = SC.rows eT 1 2 false l := by rw [h]
theorem one_cell {n : List (List Int)} {y : List Int} (h : n[0]? = some y) : sles [.slI true (.rows eB 1 1 true y) (.sym y.length) false] (List.flatMap eT (List.take 1 n)) := by
  have : List.take 1 n = [y] := by
    cases n with
    | nil => cases h
    | cons a n => simp at h; subst h; rfl
  rw [this]
  exact ⟨⟨rfl, rfl⟩, trivial⟩
theorem Send_all (n : List (List Int)) (b : List Int) (hn : All n) (hb : b.length ≤ 200) : scallI sx12 Try.prog cf0 (sexec sx12 Try.prog cf0 1000) 6 0 [rows2 n, row b] (PostK (.tup [rows2 (sendL n b), .int .i64 (.sym (sendE n))])) := by
  rw [vc_Send]
  simp only [true_and, and_true, eq_self, implies_true, rdrop0, List.take_length, Nat.le_refl]
  refine ⟨fun h => ?_, fun h => ⟨SameCode.refl _, fun h0 => ⟨by omega, by omega, fun y hy => Exists.intro y ⟨⟨rfl, rfl⟩, (hn y (List.mem_of_getElem? hy)).2, Exists.intro (n, 1) ⟨⟨hn, Nat.le_refl _, by show 1 ≤ n.length; omega, by show n.length ≤ 1000; omega⟩, ⟨⟨rfl, ⟨rfl, rfl⟩, rfl, rfl⟩, rokT, one_cell hy⟩, ?_⟩⟩⟩, fun h0 => Exists.intro b ⟨⟨rfl, rfl⟩, hb, ?_⟩⟩⟩
  · have e1 : sendL n b = [] := by unfold sendL; rw [if_neg (by omega)]
    have e2 : sendE n = 8 := by unfold sendE; rw [if_neg (by omega)]
    rw [e1, e2]
    exact post_S ⟨⟨rfl, rokT⟩, rfl, trivial⟩
  · intro (o : List (List Int)) (ho : o = n)
    have e2 : sendE n = 0 := by unfold sendE; rw [if_pos (by omega)]
    have e3 : sendL n b = putL n b := by unfold sendL; rw [if_pos (by omega)]
    subst ho
    rw [e2, e3]
    simp only [rdrop0, List.take_length, Nat.le_refl, true_and, and_true]
    refine Exists.intro b ⟨⟨rfl, rfl⟩, hb, fun q => ⟨by omega, Exists.intro b ⟨⟨rfl, rfl⟩, by simp, post_S ⟨⟨?_, rows_eq ?_⟩, rfl, trivial⟩⟩⟩, fun q => post_S ⟨⟨?_, rows_eq ?_⟩, rfl, trivial⟩⟩
    · show o.length + 1 = (putL o b).length; unfold putL; rw [if_pos (by omega)]; simp
    · unfold putL; rw [if_pos (by omega), List.take_of_length_le (by simp)]
    · show o.length = (putL o b).length; unfold putL; rw [if_neg (by omega)]
    · unfold putL; rw [if_neg (by omega)]
  · have e0 : n = [] := List.length_eq_zero_iff.1 (by omega)
    subst e0
    exact post_S ⟨⟨rfl, rokT, ⟨rfl, rfl⟩, trivial⟩, rfl, trivial⟩
theorem takeE_0 {n : List (List Int)} {i : Int} (h1 : n.length ≤ 64) (h2 : 0 ≤ i) (h3 : i < n.length) : takeE n i = 0 := by unfold takeE; rw [if_pos h1, if_pos ⟨h2, h3⟩]
theorem takeE_2 {n : List (List Int)} {i : Int} (h1 : n.length ≤ 64) (h2 : ¬ (0 ≤ i ∧ i < n.length)) : takeE n i = 2 := by unfold takeE; rw [if_pos h1, if_neg h2]
theorem takeE_8 {n : List (List Int)} {i : Int} (h1 : ¬ n.length ≤ 64) : takeE n i = 8 := by unfold takeE; rw [if_neg h1]
theorem twice_no {n : List (List Int)} {i : Int} {e : Int} (h : takeE n i = e) (he : e ≠ 0) : PostS (.tup [rows2 (twiceL n i), .int .i64 (.sym (takeE n i))]) (.tup [.nilSl, .int .i64 (.lit e)]) [] := by
  have : twiceL n i = [] := by unfold twiceL; rw [if_neg (by rw [h]; exact he)]
  rw [this, h]
  exact post_S ⟨⟨rfl, rokT⟩, rfl, trivial⟩
theorem take_no {n : List (List Int)} {i : Int} {e : Int} (h : takeE n i = e) (he : e ≠ 0) : PostS (.tup [rows2 (takeL n i), row (takeB n i), .int .i64 (.sym (takeE n i))]) (.tup [.nilSl, .nilSl, .int .i64 (.lit e)]) [] := by
  have h1 : takeL n i = [] := by unfold takeL; rw [if_neg (by rw [h]; exact he)]
  have h2 : takeB n i = [] := by unfold takeB; rw [if_neg (by rw [h]; exact he)]
  rw [h1, h2, h]
  exact post_S ⟨⟨rfl, rokT⟩, ⟨rfl, rokB⟩, rfl, trivial⟩
theorem Twice_all (n : List (List Int)) (i : Int) (hn : All n) : scallI sx12 Try.prog cf0 (sexec sx12 Try.prog cf0 1000) 10 0 [rows2 n, .int .i64 (.sym i)] (PostK (.tup [rows2 (twiceL n i), .int .i64 (.sym (takeE n i))])) := by
  rw [vc_Twice]
  simp only [true_and, and_true, eq_self, implies_true, rdrop0, List.take_length, Nat.le_refl]
  refine ⟨fun h => twice_no (takeE_8 (by omega)) (by decide), fun h => ⟨SameCode.refl _, fun h0 => ⟨by omega, by omega, fun y hy => Exists.intro y ⟨⟨rfl, rfl⟩, (hn y (List.mem_of_getElem? hy)).2, Exists.intro (n, 1) ⟨⟨hn, Nat.le_refl _, by show 1 ≤ n.length; omega, by show n.length ≤ 1000; omega⟩, ⟨⟨rfl, ⟨rfl, rfl⟩, rfl, rfl⟩, rokT, one_cell hy⟩, ?_⟩⟩⟩, fun h0 => ⟨fun q => twice_no (takeE_2 (by omega) (by omega)) (by decide), fun q => ⟨fun q2 => twice_no (takeE_2 (by omega) (by omega)) (by decide), fun q2 => absurd q2 (by omega)⟩⟩⟩⟩
  intro (o : List (List Int)) (ho : o = n)
  subst ho
  simp only [rdrop0, List.take_length, Nat.le_refl, true_and, and_true]
  refine ⟨fun q => twice_no (takeE_2 (by omega) (by omega)) (by decide), fun q => ⟨fun q2 => twice_no (takeE_2 (by omega) (by omega)) (by decide), fun q2 => ?_⟩⟩
  have e2 : takeE o i = 0 := takeE_0 (by omega) (by omega) (by omega)
  refine ⟨by omega, by omega, by omega, fun z hz => ?_⟩
  have ea : at_ o i = z := by unfold at_; rw [List.getD_eq_getElem?_getD, hz]; rfl
  have e3 : twiceL o i = putL o z := by unfold twiceL; rw [if_pos e2, ea]
  rw [e2, e3]
  refine Exists.intro z ⟨⟨rfl, rfl⟩, (hn z (List.mem_of_getElem? hz)).2, fun q => ⟨by omega, Exists.intro z ⟨⟨rfl, rfl⟩, by simp, post_S ⟨⟨?_, rows_eq ?_⟩, rfl, trivial⟩⟩⟩, fun q => post_S ⟨⟨?_, rows_eq ?_⟩, rfl, trivial⟩⟩
  · show o.length + 1 = (putL o z).length; unfold putL; rw [if_pos (by omega)]; simp
  · unfold putL; rw [if_pos (by omega), List.take_of_length_le (by simp)]
  · show o.length = (putL o z).length; unfold putL; rw [if_neg (by omega)]
  · unfold putL; rw [if_neg (by omega)]

end
end Go.Proofs.Ytifcjhfejacmcaa.VM
/- Nets: a text is taken out. No conditions. -/
namespace Go.Proofs.Ytifcjhfejacmcaa.VM
open Go Go.RowKit
set_option linter.unusedVariables false
set_option linter.unusedSimpArgs false
set_option maxRecDepth 100000
noncomputable section
theorem rdropA {α : Type} (m : Nat) (xs : List α) : rdrop ((SN.lit 0).add (SN.sym m)) xs = xs.drop m := rfl
theorem rdropB {α : Type} (m : Nat) (xs : List α) : rdrop (SN.sym m) xs = xs.drop m := rfl
theorem rokB' : ∀ x : Int, (eB x).length = 1 ∧ (∀ v, v ∈ eB x → imm 1 v ∧ v.one = true) ∧ (True → ∀ v, v ∈ eB x → scalar v) := fun x => ⟨(rokB x).1, (rokB x).2.1, fun _ => (rokB x).2.2 rfl⟩
set_option maxHeartbeats 4000000 in
theorem Take_all (n : List (List Int)) (i : Int) (hn : All n) : scallI sx12 Try.prog cf0 (sexec sx12 Try.prog cf0 1000) 9 0 [rows2 n, .int .i64 (.sym i)] (PostK (.tup [rows2 (takeL n i), row (takeB n i), .int .i64 (.sym (takeE n i))])) := by
  rw [vc_Take]
  simp only [true_and, and_true, eq_self, implies_true, rdrop0, List.take_length, Nat.le_refl]
  refine ⟨fun h => take_no (takeE_8 (by omega)) (by decide), fun h => ⟨SameCode.refl _, fun h0 => ⟨by omega, by omega, fun y hy => Exists.intro y ⟨⟨rfl, rfl⟩, (hn y (List.mem_of_getElem? hy)).2, Exists.intro (n, 1) ⟨⟨hn, Nat.le_refl _, by show 1 ≤ n.length; omega, by show n.length ≤ 1000; omega⟩, ⟨⟨rfl, ⟨rfl, rfl⟩, rfl, rfl⟩, rokT, one_cell hy⟩, ?_⟩⟩⟩, fun h0 => ⟨fun q => take_no (takeE_2 (by omega) (by omega)) (by decide), fun q => ⟨fun q2 => take_no (takeE_2 (by omega) (by omega)) (by decide), fun q2 => absurd q2 (by omega)⟩⟩⟩⟩
  intro (o : List (List Int)) (ho : o = n)
  subst ho
  simp only [rdrop0, List.take_length, Nat.le_refl, true_and, and_true]
  refine ⟨fun q => take_no (takeE_2 (by omega) (by omega)) (by decide), fun q => ⟨fun q2 => take_no (takeE_2 (by omega) (by omega)) (by decide), fun q2 => ?_⟩⟩
  have e2 : takeE o i = 0 := takeE_0 (by omega) (by omega) (by omega)
  refine ⟨by omega, by omega, by omega, fun z hz => ?_⟩
  obtain ⟨k, rfl⟩ : ∃ k : Nat, i = k := ⟨i.toNat, by omega⟩
  have ea : at_ o (k : Int) = z := by unfold at_; rw [List.getD_eq_getElem?_getD, hz]; rfl
  have e3 : takeL o (k : Int) = o.eraseIdx k := by unfold takeL; rw [if_pos e2]; rfl
  have e4 : takeB o (k : Int) = z := by unfold takeB; rw [if_pos e2, ea]
  have hk : k < o.length := by omega
  have w1 : IntKind.i64.wrap ((k : Int) + 1) = ((k + 1 : Nat) : Int) := nx (by omega)
  have w2 : IntKind.i64.wrap ((o.length : Int) - 1) = ((o.length - 1 : Nat) : Int) := by rw [wr_i64 (by omega) (by omega)]; omega
  rw [e2, e3, e4]
  simp only [w1, w2, Int.toNat_natCast, Nat.min_self, rdropA, rdropB]
  refine Exists.intro z ⟨⟨rfl, rfl⟩, (hn z (List.mem_of_getElem? hz)).2, ?_⟩
  clear hn hz ea e2 e3 e4 w1 w2
  repeat' first | trivial | exact rfl | omega | (intro _) | (refine And.intro ?_ ?_) | (refine Exists.intro [] ⟨⟨rfl, rokB'⟩, ?_⟩) | (refine Exists.intro [] ⟨trivial, ?_⟩) | (refine Exists.intro _ ⟨rfl, ?_⟩) | (refine post_S ⟨⟨?_, rows_eq ?_⟩, ⟨rfl, rfl⟩, rfl, trivial⟩) | (simp only [List.length_append, List.length_take, List.length_drop, List.length_replicate, List.length_nil]; omega)
  all_goals first
    | (show o.length - 1 = (o.eraseIdx k).length; rw [List.length_eraseIdx_of_lt hk])
    | (apply List.ext_getElem?; intro j
       simp only [List.getElem?_take, List.getElem?_append, List.getElem?_drop, List.length_take, List.length_append, List.length_drop, List.length_replicate, List.getElem?_replicate, List.getElem?_eraseIdx, List.length_nil, List.getElem?_nil]
       repeat' split
       all_goals first | rfl | omega | (congr 1; omega) | (rw [List.getElem?_eq_none (by omega)]; done) | (symm; rw [List.getElem?_eq_none (by omega)]; done) | skip)

end
end Go.Proofs.Ytifcjhfejacmcaa.VM
