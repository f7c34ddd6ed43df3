/- Sets of tracks: lists of tracks, counts and the next one, told. No conditions. -/
import Derived.Test.YtifgifhbefhkmaaProg
import Derived.KernelRfl
import Derived.Test.YtifgifhbefhkmaaBtX1
import Derived.Test.YtifgifhbefhkmaaBtX3
/- Sets of tracks: lists of tracks, counts and the next one, told. No conditions. -/
namespace Go.Proofs.Ytifgifhbefhkmaa.VM
open Go Go.RowKit
set_option linter.unusedVariables false
set_option linter.unusedSimpArgs false
set_option maxRecDepth 100000
noncomputable section
def rowJ (l : List Int) : SV := .slI false (.rows (eI .i64) 1 1 true l) (.sym l.length) false
def rowK : TypeId → Option SRow := fun t => bif Nat.beq t 5 then some ⟨Int, eB, 1, 1, true, 0⟩ else bif Nat.beq t 4 then some ⟨Bool, eO, 1, 1, true, false⟩ else bif Nat.beq t 3 then some ⟨Int, eI .i64, 1, 1, true, 0⟩ else none
def trkN (s : List Int) (i : Nat) : List Int := ((List.range i).filter fun k : Nat => inB s (k : Int)).map fun k : Nat => (k : Int)
def listL (n : Int) (s : List Int) : List Int := if chkR n s = 0 then trkN s n.toNat else []
def countI (n : Int) (s : List Int) : Int := ((listL n s).length : Int)
def behindI (n : Int) (s : List Int) (f : Int) : Int := match (List.range n.toNat).find? (fun k : Nat => inB s ((f + (k : Int)) % n)) with
  | some k => (f + (k : Int)) % n
  | none => -1
def nextR (n : Int) (s : List Int) (f : Int) : Int := if hasE n s f = 0 then behindI n s f else 0
def ctColl : SCall := Ct (fun s : List Int => [.func (.func 51) [] [.ptrI false false (.lit [row s])]]) (fun s => By s ∧ 1 ≤ s.length ∧ s.length ≤ 1000) (fun s => .slI true (.rows (eI .i64) 1 1 true (BW.trkF 0 s)) (.sym (BW.trkF 0 s).length) false)
def ctOnes : SCall := Ct (fun c : Int => [.int .u8 (.sym c)]) (fun c => 0 ≤ c ∧ c < 256) (fun c => .int .i64 (.sym ((BW.trkB c).length : Int)))
def ctTrk : SCall := Ct (fun a : Int × List Int => [.int .i64 (.sym a.1), row a.2]) (fun a => By a.2 ∧ 1 ≤ a.1 ∧ a.1 ≤ 16) (fun a => rowJ (trkN a.2 a.1.toNat))
def ctList : SCall := Ct (fun a : Int × List Int => [.int .i64 (.sym a.1), row a.2]) (fun a => By a.2 ∧ a.2.length ≤ 1000) (fun a => .tup [rowJ (listL a.1 a.2), .int .i64 (.sym (chkR a.1 a.2))])
def ctCount : SCall := Ct (fun a : Int × List Int => [.int .i64 (.sym a.1), row a.2]) (fun a => By a.2 ∧ a.2.length ≤ 1000) (fun a => .tup [.int .i64 (.sym (countI a.1 a.2)), .int .i64 (.sym (chkR a.1 a.2))])
def ctBehind : SCall := Ct (fun a : Int × List Int × Int => [.int .i64 (.sym a.1), row a.2.1, .int .i64 (.sym a.2.2)]) (fun a => By a.2.1 ∧ 1 ≤ a.1 ∧ a.1 ≤ 16 ∧ 0 ≤ a.2.2 ∧ a.2.2 < a.1) (fun a => .int .i64 (.sym (behindI a.1 a.2.1 a.2.2)))
def ctNext : SCall := Ct (fun a : Int × List Int × Int => [.int .i64 (.sym a.1), row a.2.1, .int .i64 (.sym a.2.2)]) (fun a => By a.2.1 ∧ a.2.1.length ≤ 1000) (fun a => .tup [.int .i64 (.sym (nextR a.1 a.2.1 a.2.2)), .int .i64 (.sym (hasE a.1 a.2.1 a.2.2))])
def ctInts : SCall := Ct (fun a : List Int × List Int => [rowJ a.1, rowJ a.2]) (fun a => a.1.length ≤ 10000 ∧ a.2.length ≤ 10000) (fun a => .bool (.sym (a.1 = a.2)))
/-- Count: the loop. -/
def L16 : LInv where
  ι := List Int × Nat
  G := fun a => By a.1 ∧ a.2 ≤ a.1.length ∧ a.1.length ≤ 1000
  μ := fun a => a.1.length - a.2
  I := fun a => ⟨stT 27 [(15, row a.1), (16, .int .i64 (.sym (a.1.length : Int))), (17, .int .i64 (.sym (a.2 : Int))), (4, .int .i64 (.sym ((BW.trkF 0 (a.1.take a.2)).length : Int)))], [], 0⟩
  Ω := List Int
  e := 0
  PE := fun a o => o = a.1
  OE := fun o => ⟨stT 27 [(4, .int .i64 (.sym ((BW.trkF 0 o).length : Int)))], [], 0⟩
  ret := false
  Ρ := Unit
  PR := fun _ _ => False
  OR := fun _ => ⟨[], [], 0⟩
/-- Tracks: the loop. -/
def L39 : LInv where
  ι := Int × List Int × Nat
  G := fun a => By a.2.1 ∧ 1 ≤ a.1 ∧ a.1 ≤ 16 ∧ a.2.2 ≤ a.1.toNat
  μ := fun a => a.1.toNat - a.2.2
  I := fun a => ⟨stT 20 [(0, .int .i64 (.sym a.1)), (1, row a.2.1), (6, .int .i64 (.sym (a.2.2 : Int))), (5, .slB 0 (.lit 0) 1 1000 (.sym (trkN a.2.1 a.2.2).length))], [(0, ⟨.rows (eI .i64) 1 1 true (trkN a.2.1 a.2.2), 1, 1000, false, true⟩)], 1⟩
  Ω := Int × List Int
  e := 0
  PE := fun a o => o = (a.1, a.2.1)
  OE := fun o => ⟨stT 20 [(5, .slB 0 (.lit 0) 1 1000 (.sym (trkN o.2 o.1.toNat).length))], [(0, ⟨.rows (eI .i64) 1 1 true (trkN o.2 o.1.toNat), 1, 1000, false, true⟩)], 1⟩
  ret := false
  Ρ := Unit
  PR := fun _ _ => False
  OR := fun _ => ⟨[], [], 0⟩
/-- Behind: the loop. -/
def L42 : LInv where
  ι := (Int × List Int × Int) × Nat
  G := fun a => By a.1.2.1 ∧ 1 ≤ a.1.1 ∧ a.1.1 ≤ 16 ∧ 0 ≤ a.1.2.2 ∧ a.1.2.2 < a.1.1 ∧ a.2 ≤ a.1.1.toNat
  μ := fun a => a.1.1.toNat - a.2
  I := fun a => ⟨stT 25 [(0, .int .i64 (.sym a.1.1)), (1, row a.1.2.1), (2, .int .i64 (.sym a.1.2.2)), (7, .int .i64 (.sym (a.2 : Int)))], [], 0⟩
  Ω := Unit
  e := 0
  PE := fun a _ => ∀ k : Nat, a.2 ≤ k → k < a.1.1.toNat → inB a.1.2.1 ((a.1.2.2 + (k : Int)) % a.1.1) = false
  OE := fun _ => ⟨stT 25 [], [], 0⟩
  ret := true
  Ρ := Int
  PR := fun a x => ∃ k : Nat, a.2 ≤ k ∧ k < a.1.1.toNat ∧ inB a.1.2.1 ((a.1.2.2 + (k : Int)) % a.1.1) = true ∧ (∀ j : Nat, a.2 ≤ j → j < k → inB a.1.2.1 ((a.1.2.2 + (j : Int)) % a.1.1) = false) ∧ x = (a.1.2.2 + (k : Int)) % a.1.1
  OR := fun x => ⟨stT 25 [(6, .int .i64 (.sym x))], [], 0⟩
/-- SameInts: the loop. -/
def L22 : LInv where
  ι := (List Int × List Int) × Nat
  G := fun a => a.1.1.length = a.1.2.length ∧ a.2 ≤ a.1.1.length ∧ a.1.1.length ≤ 10000
  μ := fun a => a.1.1.length - a.2
  I := fun a => ⟨stT 26 [(0, rowJ a.1.1), (1, rowJ a.1.2), (5, .int .i64 (.sym (a.2 : Int)))], [], 0⟩
  Ω := Unit
  e := 0
  PE := fun a _ => ∀ k : Nat, a.2 ≤ k → k < a.1.1.length → a.1.1[k]? = a.1.2[k]?
  OE := fun _ => ⟨stT 26 [], [], 0⟩
  ret := true
  Ρ := Unit
  PR := fun a _ => a.1.1 ≠ a.1.2
  OR := fun _ => ⟨stT 26 [(4, .bool (.lit false))], [], 0⟩
def sxa : SX := ⟨rowK, ctOf [(41, ctIn), (40, ctOnes)], lpOf []⟩
def sx16 : SX := ⟨rowK, ctOf [(26, ctChk)], lpOf [(5, ⟨16, 0, L16.C 1000⟩)]⟩
def sx39 : SX := ⟨rowK, ctOf [], lpOf [(3, ⟨39, 0, L39.C 1000⟩)]⟩
def sx42 : SX := ⟨rowK, ctOf [], lpOf [(2, ⟨42, 0, L42.C 1000⟩)]⟩
def sx22 : SX := ⟨rowK, ctOf [], lpOf [(4, ⟨22, 0, L22.C 1000⟩)]⟩
def sxl : SX := ⟨rowK, ctOf [(26, ctChk), (36, ctColl), (38, ctChk), (39, ctTrk), (19, ctHas), (42, ctBehind)], lpOf []⟩
def sxc : SX := ⟨rowK, ctOf [(15, ctList)], lpOf []⟩
theorem vc_L16 (a : L16.ι) : (sexec sxa Try.prog cf0 1000 (loopBody Try.prog 16 0) (L16.I a) (L16.round 1000 a)) = (((↑(Prod.snd a) : Int) < (↑(List.length (Prod.fst a)) : Int) → (0 : Int) ≤ (↑(Prod.snd a) : Int) ∧ (↑(Prod.snd a) : Int) < (↑(List.length (Prod.fst a)) : Int) ∧ Int.toNat (↑(Prod.snd a) : Int) <
List.length (Prod.fst a) ∧ ∀ (y1 : Int), (Prod.fst a)[Int.toNat (↑(Prod.snd a) : Int)]? = some y1 → ∃ (y2 : Int), (y1 = y2 ∧ True) ∧ ((0 : Int) ≤ y2 ∧ y2 < (256 : Int)) ∧ ∃ (y3 : LInv.ι L16), ((∀ (y4
: Int), y4 ∈ Prod.fst y3 → (0 : Int) ≤ y4 ∧ y4 < (256 : Int)) ∧ Prod.snd y3 ≤ List.length (Prod.fst y3) ∧ List.length (Prod.fst y3) ≤ (1000 : Nat)) ∧ LInv.μ L16 y3 < LInv.μ L16 a ∧ (∀ (y4 : LInv.Ω
L16), LInv.PE L16 y3 y4 → y4 = Prod.fst a) ∧ True ∧ (True ∧ True ∧ True ∧ True ∧ IntKind.wrap IntKind.i64 ((↑(List.length (BW.trkF (0 : Int) (List.take (Prod.snd a) (Prod.fst a)))) : Int) +
(↑(List.length (BW.trkB y2)) : Int)) = (↑(List.length (BW.trkF (0 : Int) (List.take (Prod.snd y3) (Prod.fst y3)))) : Int) ∧ True ∧ True ∧ True ∧ True ∧ True ∧ True ∧ True ∧ True ∧ True ∧ True ∧
(List.length (Prod.fst a) = List.length (Prod.fst y3) ∧ SC.rows eB (1 : Nat) (1 : Nat) true (Prod.fst a) = SC.rows eB (1 : Nat) (1 : Nat) true (Prod.fst y3)) ∧ (↑(List.length (Prod.fst a)) : Int) =
(↑(List.length (Prod.fst y3)) : Int) ∧ IntKind.wrap IntKind.i64 ((↑(Prod.snd a) : Int) + (1 : Int)) = (↑(Prod.snd y3) : Int) ∧ True ∧ True ∧ True ∧ True ∧ True ∧ True ∧ True ∧ True ∧ True ∧ True) ∧
True) ∧ (¬(↑(Prod.snd a) : Int) < (↑(List.length (Prod.fst a)) : Int) → ∃ (y1 : LInv.Ω L16), y1 = Prod.fst a ∧ (True ∧ True ∧ True ∧ True ∧ (↑(List.length (BW.trkF (0 : Int) (List.take (Prod.snd a)
(Prod.fst a)))) : Int) = (↑(List.length (BW.trkF (0 : Int) y1)) : Int) ∧ True ∧ True ∧ True ∧ True ∧ True ∧ True ∧ True ∧ True ∧ True ∧ True ∧ True ∧ True ∧ True ∧ True ∧ True ∧ True ∧ True ∧ True ∧
True ∧ True ∧ True ∧ True ∧ True) ∧ True)) := by kernel_rfl
theorem vc_L39 (a : L39.ι) : (sexec sxa Try.prog cf0 1000 (loopBody Try.prog 39 0) (L39.I a) (L39.round 1000 a)) = (((↑(Prod.snd (Prod.snd a)) : Int) < Prod.fst a → ∃ (y1 : List Int × Int), ((List.length (Prod.fst (Prod.snd a)) = List.length (Prod.fst y1) ∧ SC.rows eB (1 : Nat) (1 : Nat) true (Prod.fst (Prod.snd
a)) = SC.rows eB (1 : Nat) (1 : Nat) true (Prod.fst y1)) ∧ (↑(Prod.snd (Prod.snd a)) : Int) = Prod.snd y1 ∧ True) ∧ ((∀ (y2 : Int), y2 ∈ Prod.fst y1 → (0 : Int) ≤ y2 ∧ y2 < (256 : Int)) ∧ (0 : Int) ≤
Prod.snd y1 ∧ Prod.snd y1 < (200 : Int)) ∧ (inB (Prod.fst y1) (Prod.snd y1) = true → List.length (trkN (Prod.fst (Prod.snd a)) (Prod.snd (Prod.snd a))) + (1 : Nat) ≤ (137438953472 : Nat) ∧ List.length
(trkN (Prod.fst (Prod.snd a)) (Prod.snd (Prod.snd a))) = List.length (trkN (Prod.fst (Prod.snd a)) (Prod.snd (Prod.snd a))) ∧ ∃ (y2 : Int), ((↑(Prod.snd (Prod.snd a)) : Int) = y2 ∧ True) ∧ ∃ (y3 :
LInv.ι L39), ((∀ (y4 : Int), y4 ∈ Prod.fst (Prod.snd y3) → (0 : Int) ≤ y4 ∧ y4 < (256 : Int)) ∧ (1 : Int) ≤ Prod.fst y3 ∧ Prod.fst y3 ≤ (16 : Int) ∧ Prod.snd (Prod.snd y3) ≤ Int.toNat (Prod.fst y3)) ∧
LInv.μ L39 y3 < LInv.μ L39 a ∧ (∀ (y4 : LInv.Ω L39), LInv.PE L39 y3 y4 → y4 = (Prod.fst a, Prod.fst (Prod.snd a))) ∧ True ∧ (Prod.fst a = Prod.fst y3 ∧ (List.length (Prod.fst (Prod.snd a)) =
List.length (Prod.fst (Prod.snd y3)) ∧ SC.rows eB (1 : Nat) (1 : Nat) true (Prod.fst (Prod.snd a)) = SC.rows eB (1 : Nat) (1 : Nat) true (Prod.fst (Prod.snd y3))) ∧ True ∧ True ∧ True ∧ ((0 : Nat) =
(0 : Nat) ∧ List.length (trkN (Prod.fst (Prod.snd a)) (Prod.snd (Prod.snd a))) + (1 : Nat) = List.length (trkN (Prod.fst (Prod.snd y3)) (Prod.snd (Prod.snd y3)))) ∧ IntKind.wrap IntKind.i64
((↑(Prod.snd (Prod.snd a)) : Int) + (1 : Int)) = (↑(Prod.snd (Prod.snd y3)) : Int) ∧ True ∧ True ∧ True ∧ True ∧ True ∧ True ∧ True ∧ True ∧ True ∧ True ∧ True ∧ True ∧ True ∧ True) ∧ SC.rows (eI
IntKind.i64) (1 : Nat) (1 : Nat) true (rdrop (SN.lit (0 : Nat)) (trkN (Prod.fst (Prod.snd a)) (Prod.snd (Prod.snd a))) ++ [y2]) = SC.rows (eI IntKind.i64) (1 : Nat) (1 : Nat) true (trkN (Prod.fst
(Prod.snd y3)) (Prod.snd (Prod.snd y3))) ∧ True) ∧ (¬inB (Prod.fst y1) (Prod.snd y1) = true → ∃ (y2 : LInv.ι L39), ((∀ (y3 : Int), y3 ∈ Prod.fst (Prod.snd y2) → (0 : Int) ≤ y3 ∧ y3 < (256 : Int)) ∧ (1
: Int) ≤ Prod.fst y2 ∧ Prod.fst y2 ≤ (16 : Int) ∧ Prod.snd (Prod.snd y2) ≤ Int.toNat (Prod.fst y2)) ∧ LInv.μ L39 y2 < LInv.μ L39 a ∧ (∀ (y3 : LInv.Ω L39), LInv.PE L39 y2 y3 → y3 = (Prod.fst a,
Prod.fst (Prod.snd a))) ∧ True ∧ (Prod.fst a = Prod.fst y2 ∧ (List.length (Prod.fst (Prod.snd a)) = List.length (Prod.fst (Prod.snd y2)) ∧ SC.rows eB (1 : Nat) (1 : Nat) true (Prod.fst (Prod.snd a)) =
SC.rows eB (1 : Nat) (1 : Nat) true (Prod.fst (Prod.snd y2))) ∧ True ∧ True ∧ True ∧ ((0 : Nat) = (0 : Nat) ∧ List.length (trkN (Prod.fst (Prod.snd a)) (Prod.snd (Prod.snd a))) = List.length (trkN
(Prod.fst (Prod.snd y2)) (Prod.snd (Prod.snd y2)))) ∧ IntKind.wrap IntKind.i64 ((↑(Prod.snd (Prod.snd a)) : Int) + (1 : Int)) = (↑(Prod.snd (Prod.snd y2)) : Int) ∧ True ∧ True ∧ True ∧ True ∧ True ∧
True ∧ True ∧ True ∧ True ∧ True ∧ True ∧ True ∧ True ∧ True) ∧ SC.rows (eI IntKind.i64) (1 : Nat) (1 : Nat) true (trkN (Prod.fst (Prod.snd a)) (Prod.snd (Prod.snd a))) = SC.rows (eI IntKind.i64) (1 :
Nat) (1 : Nat) true (trkN (Prod.fst (Prod.snd y2)) (Prod.snd (Prod.snd y2))) ∧ True)) ∧ (¬(↑(Prod.snd (Prod.snd a)) : Int) < Prod.fst a → ∃ (y1 : LInv.Ω L39), y1 = (Prod.fst a, Prod.fst (Prod.snd a))
∧ (True ∧ True ∧ True ∧ True ∧ True ∧ ((0 : Nat) = (0 : Nat) ∧ List.length (trkN (Prod.fst (Prod.snd a)) (Prod.snd (Prod.snd a))) = List.length (trkN (Prod.snd y1) (Int.toNat (Prod.fst y1)))) ∧ True ∧
True ∧ True ∧ True ∧ True ∧ True ∧ True ∧ True ∧ True ∧ True ∧ True ∧ True ∧ True ∧ True ∧ True) ∧ SC.rows (eI IntKind.i64) (1 : Nat) (1 : Nat) true (trkN (Prod.fst (Prod.snd a)) (Prod.snd (Prod.snd
a))) = SC.rows (eI IntKind.i64) (1 : Nat) (1 : Nat) true (trkN (Prod.snd y1) (Int.toNat (Prod.fst y1))) ∧ True)) := by kernel_rfl
theorem vc_L42 (a : L42.ι) : (sexec sxa Try.prog cf0 1000 (loopBody Try.prog 42 0) (L42.I a) (L42.round 1000 a)) = (((↑(Prod.snd a) : Int) < Prod.fst (Prod.fst a) → ¬Prod.fst (Prod.fst a) = (0 : Int) ∧ ∃ (y1 : List Int × Int), ((List.length (Prod.fst (Prod.snd (Prod.fst a))) = List.length (Prod.fst y1) ∧ SC.rows eB
(1 : Nat) (1 : Nat) true (Prod.fst (Prod.snd (Prod.fst a))) = SC.rows eB (1 : Nat) (1 : Nat) true (Prod.fst y1)) ∧ Int.tmod (IntKind.wrap IntKind.i64 (Prod.snd (Prod.snd (Prod.fst a)) + (↑(Prod.snd a)
: Int))) (Prod.fst (Prod.fst a)) = Prod.snd y1 ∧ True) ∧ ((∀ (y2 : Int), y2 ∈ Prod.fst y1 → (0 : Int) ≤ y2 ∧ y2 < (256 : Int)) ∧ (0 : Int) ≤ Prod.snd y1 ∧ Prod.snd y1 < (200 : Int)) ∧ (inB (Prod.fst
y1) (Prod.snd y1) = true → ¬Prod.fst (Prod.fst a) = (0 : Int) ∧ ∃ (y2 : LInv.Ρ L42), (∃ (y3 : Nat), Prod.snd a ≤ y3 ∧ y3 < Int.toNat (Prod.fst (Prod.fst a)) ∧ inB (Prod.fst (Prod.snd (Prod.fst a)))
((Prod.snd (Prod.snd (Prod.fst a)) + (↑y3 : Int)) % Prod.fst (Prod.fst a)) = true ∧ (∀ (y4 : Nat), Prod.snd a ≤ y4 → y4 < y3 → inB (Prod.fst (Prod.snd (Prod.fst a))) ((Prod.snd (Prod.snd (Prod.fst a))
+ (↑y4 : Int)) % Prod.fst (Prod.fst a)) = false) ∧ y2 = (Prod.snd (Prod.snd (Prod.fst a)) + (↑y3 : Int)) % Prod.fst (Prod.fst a)) ∧ (True ∧ True ∧ True ∧ True ∧ True ∧ True ∧ Int.tmod (IntKind.wrap
IntKind.i64 (Prod.snd (Prod.snd (Prod.fst a)) + (↑(Prod.snd a) : Int))) (Prod.fst (Prod.fst a)) = y2 ∧ True ∧ True ∧ True ∧ True ∧ True ∧ True ∧ True ∧ True ∧ True ∧ True ∧ True ∧ True ∧ True ∧ True ∧
True ∧ True ∧ True ∧ True ∧ True) ∧ True) ∧ (¬inB (Prod.fst y1) (Prod.snd y1) = true → ∃ (y2 : LInv.ι L42), ((∀ (y3 : Int), y3 ∈ Prod.fst (Prod.snd (Prod.fst y2)) → (0 : Int) ≤ y3 ∧ y3 < (256 : Int))
∧ (1 : Int) ≤ Prod.fst (Prod.fst y2) ∧ Prod.fst (Prod.fst y2) ≤ (16 : Int) ∧ (0 : Int) ≤ Prod.snd (Prod.snd (Prod.fst y2)) ∧ Prod.snd (Prod.snd (Prod.fst y2)) < Prod.fst (Prod.fst y2) ∧ Prod.snd y2 ≤
Int.toNat (Prod.fst (Prod.fst y2))) ∧ LInv.μ L42 y2 < LInv.μ L42 a ∧ (∀ (y3 : LInv.Ω L42), LInv.PE L42 y2 y3 → ∀ (y4 : Nat), Prod.snd a ≤ y4 → y4 < Int.toNat (Prod.fst (Prod.fst a)) → inB (Prod.fst
(Prod.snd (Prod.fst a))) ((Prod.snd (Prod.snd (Prod.fst a)) + (↑y4 : Int)) % Prod.fst (Prod.fst a)) = false) ∧ (∀ (y3 : LInv.Ρ L42), LInv.PR L42 y2 y3 → ∃ (y4 : Nat), Prod.snd a ≤ y4 ∧ y4 < Int.toNat
(Prod.fst (Prod.fst a)) ∧ inB (Prod.fst (Prod.snd (Prod.fst a))) ((Prod.snd (Prod.snd (Prod.fst a)) + (↑y4 : Int)) % Prod.fst (Prod.fst a)) = true ∧ (∀ (y5 : Nat), Prod.snd a ≤ y5 → y5 < y4 → inB
(Prod.fst (Prod.snd (Prod.fst a))) ((Prod.snd (Prod.snd (Prod.fst a)) + (↑y5 : Int)) % Prod.fst (Prod.fst a)) = false) ∧ y3 = (Prod.snd (Prod.snd (Prod.fst a)) + (↑y4 : Int)) % Prod.fst (Prod.fst a))
∧ (Prod.fst (Prod.fst a) = Prod.fst (Prod.fst y2) ∧ (List.length (Prod.fst (Prod.snd (Prod.fst a))) = List.length (Prod.fst (Prod.snd (Prod.fst y2))) ∧ SC.rows eB (1 : Nat) (1 : Nat) true (Prod.fst
(Prod.snd (Prod.fst a))) = SC.rows eB (1 : Nat) (1 : Nat) true (Prod.fst (Prod.snd (Prod.fst y2)))) ∧ Prod.snd (Prod.snd (Prod.fst a)) = Prod.snd (Prod.snd (Prod.fst y2)) ∧ True ∧ True ∧ True ∧ True ∧
IntKind.wrap IntKind.i64 ((↑(Prod.snd a) : Int) + (1 : Int)) = (↑(Prod.snd y2) : Int) ∧ True ∧ True ∧ True ∧ True ∧ True ∧ True ∧ True ∧ True ∧ True ∧ True ∧ True ∧ True ∧ True ∧ True ∧ True ∧ True ∧
True ∧ True) ∧ True)) ∧ (¬(↑(Prod.snd a) : Int) < Prod.fst (Prod.fst a) → ∃ (y1 : LInv.Ω L42), (∀ (y2 : Nat), Prod.snd a ≤ y2 → y2 < Int.toNat (Prod.fst (Prod.fst a)) → inB (Prod.fst (Prod.snd
(Prod.fst a))) ((Prod.snd (Prod.snd (Prod.fst a)) + (↑y2 : Int)) % Prod.fst (Prod.fst a)) = false) ∧ (True ∧ True ∧ True ∧ True ∧ True ∧ True ∧ True ∧ True ∧ True ∧ True ∧ True ∧ True ∧ True ∧ True ∧
True ∧ True ∧ True ∧ True ∧ True ∧ True ∧ True ∧ True ∧ True ∧ True ∧ True ∧ True) ∧ True)) := by kernel_rfl
theorem vc_L22 (a : L22.ι) : (sexec sxa Try.prog cf0 1000 (loopBody Try.prog 22 0) (L22.I a) (L22.round 1000 a)) = (((↑(Prod.snd a) : Int) < (↑(List.length (Prod.fst (Prod.fst a))) : Int) → (0 : Int) ≤ (↑(Prod.snd a) : Int) ∧ (↑(Prod.snd a) : Int) < (↑(List.length (Prod.fst (Prod.fst a))) : Int) ∧ Int.toNat
(↑(Prod.snd a) : Int) < List.length (Prod.fst (Prod.fst a)) ∧ ∀ (y1 : Int), (Prod.fst (Prod.fst a))[Int.toNat (↑(Prod.snd a) : Int)]? = some y1 → (0 : Int) ≤ (↑(Prod.snd a) : Int) ∧ (↑(Prod.snd a) :
Int) < (↑(List.length (Prod.snd (Prod.fst a))) : Int) ∧ Int.toNat (↑(Prod.snd a) : Int) < List.length (Prod.snd (Prod.fst a)) ∧ ∀ (y2 : Int), (Prod.snd (Prod.fst a))[Int.toNat (↑(Prod.snd a) : Int)]?
= some y2 → (¬y1 = y2 → ∃ (y3 : LInv.Ρ L22), (Prod.fst (Prod.fst a) = Prod.snd (Prod.fst a) → False) ∧ (True ∧ True ∧ True ∧ True ∧ false = false ∧ True ∧ True ∧ True ∧ True ∧ True ∧ True ∧ True ∧
True ∧ True ∧ True ∧ True ∧ True ∧ True ∧ True ∧ True ∧ True ∧ True ∧ True ∧ True ∧ True ∧ True ∧ True) ∧ True) ∧ (¬¬y1 = y2 → ∃ (y3 : LInv.ι L22), (List.length (Prod.fst (Prod.fst y3)) = List.length
(Prod.snd (Prod.fst y3)) ∧ Prod.snd y3 ≤ List.length (Prod.fst (Prod.fst y3)) ∧ List.length (Prod.fst (Prod.fst y3)) ≤ (10000 : Nat)) ∧ LInv.μ L22 y3 < LInv.μ L22 a ∧ (∀ (y4 : LInv.Ω L22), LInv.PE L22
y3 y4 → ∀ (y5 : Nat), Prod.snd a ≤ y5 → y5 < List.length (Prod.fst (Prod.fst a)) → (Prod.fst (Prod.fst a))[y5]? = (Prod.snd (Prod.fst a))[y5]?) ∧ (∀ (y4 : LInv.Ρ L22), LInv.PR L22 y3 y4 → Prod.fst
(Prod.fst a) = Prod.snd (Prod.fst a) → False) ∧ ((List.length (Prod.fst (Prod.fst a)) = List.length (Prod.fst (Prod.fst y3)) ∧ SC.rows (eI IntKind.i64) (1 : Nat) (1 : Nat) true (Prod.fst (Prod.fst a))
= SC.rows (eI IntKind.i64) (1 : Nat) (1 : Nat) true (Prod.fst (Prod.fst y3))) ∧ (List.length (Prod.snd (Prod.fst a)) = List.length (Prod.snd (Prod.fst y3)) ∧ SC.rows (eI IntKind.i64) (1 : Nat) (1 :
Nat) true (Prod.snd (Prod.fst a)) = SC.rows (eI IntKind.i64) (1 : Nat) (1 : Nat) true (Prod.snd (Prod.fst y3))) ∧ True ∧ True ∧ True ∧ IntKind.wrap IntKind.i64 ((↑(Prod.snd a) : Int) + (1 : Int)) =
(↑(Prod.snd y3) : Int) ∧ True ∧ True ∧ True ∧ True ∧ True ∧ True ∧ True ∧ True ∧ True ∧ True ∧ True ∧ True ∧ True ∧ True ∧ True ∧ True ∧ True ∧ True ∧ True ∧ True ∧ True) ∧ True)) ∧ (¬(↑(Prod.snd a) :
Int) < (↑(List.length (Prod.fst (Prod.fst a))) : Int) → ∃ (y1 : LInv.Ω L22), (∀ (y2 : Nat), Prod.snd a ≤ y2 → y2 < List.length (Prod.fst (Prod.fst a)) → (Prod.fst (Prod.fst a))[y2]? = (Prod.snd
(Prod.fst a))[y2]?) ∧ (True ∧ True ∧ True ∧ True ∧ True ∧ True ∧ True ∧ True ∧ True ∧ True ∧ True ∧ True ∧ True ∧ True ∧ True ∧ True ∧ True ∧ True ∧ True ∧ True ∧ True ∧ True ∧ True ∧ True ∧ True ∧
True ∧ True) ∧ True)) := by kernel_rfl
theorem vc_CountB (n : Int) (s : List Int) (x y : Int) : (scallI sx16 Try.prog cf0 (sexec sx16 Try.prog cf0 1000) 16 0 [.int .i64 (.sym n), row s] (post (.tup [.int .i64 (.sym x), .int .i64 (.sym y)]))) = (∃ (y4 : Int × List Int), (n = Prod.fst y4 ∧ (List.length s = List.length (Prod.snd y4) ∧ SC.rows eB (1 : Nat) (1 : Nat) true s = SC.rows eB (1 : Nat) (1 : Nat) true (Prod.snd y4)) ∧ True) ∧ ((∀ (y5 :
Int), y5 ∈ Prod.snd y4 → (0 : Int) ≤ y5 ∧ y5 < (256 : Int)) ∧ List.length (Prod.snd y4) ≤ (1000 : Nat)) ∧ (¬chkR (Prod.fst y4) (Prod.snd y4) = (0 : Int) → (0 : Int) = x ∧ chkR (Prod.fst y4) (Prod.snd
y4) = y ∧ True) ∧ (¬¬chkR (Prod.fst y4) (Prod.snd y4) = (0 : Int) → SameCode (loopBody Try.prog (16 : Nat) (0 : Nat)) (loopBody Try.prog (16 : Nat) (0 : Nat)) ∧ ∃ (y5 : LInv.ι L16), ((∀ (y6 : Int), y6
∈ Prod.fst y5 → (0 : Int) ≤ y6 ∧ y6 < (256 : Int)) ∧ Prod.snd y5 ≤ List.length (Prod.fst y5) ∧ List.length (Prod.fst y5) ≤ (1000 : Nat)) ∧ ((True ∧ True ∧ True ∧ True ∧ (0 : Int) = (↑(List.length
(BW.trkF (0 : Int) (List.take (Prod.snd y5) (Prod.fst y5)))) : Int) ∧ True ∧ True ∧ True ∧ True ∧ True ∧ True ∧ True ∧ True ∧ True ∧ True ∧ (List.length s = List.length (Prod.fst y5) ∧ SC.rows eB (1 :
Nat) (1 : Nat) true s = SC.rows eB (1 : Nat) (1 : Nat) true (Prod.fst y5)) ∧ (↑(List.length s) : Int) = (↑(List.length (Prod.fst y5)) : Int) ∧ (0 : Int) = (↑(Prod.snd y5) : Int) ∧ True ∧ True ∧ True ∧
True ∧ True ∧ True ∧ True ∧ True ∧ True ∧ True) ∧ True) ∧ (∀ (y6 : LInv.ι L16), True) ∧ (∀ (y6 : LInv.Ω L16), LInv.PE L16 y5 y6 → (↑(List.length (BW.trkF (0 : Int) y6)) : Int) = x ∧ (0 : Int) = y ∧
True) ∧ True)) := by kernel_rfl
theorem vc_Trk (n : Int) (s : List Int) (l : List Int) : (scallI sx39 Try.prog cf0 (sexec sx39 Try.prog cf0 1000) 39 0 [.int .i64 (.sym n), row s] (post (rowJ l))) = (SameCode (loopBody Try.prog (39 : Nat) (0 : Nat)) (loopBody Try.prog (39 : Nat) (0 : Nat)) ∧ ∃ (y3 : LInv.ι L39), ((∀ (y4 : Int), y4 ∈ Prod.fst (Prod.snd y3) → (0 : Int) ≤ y4 ∧ y4 < (256 : Int)) ∧ (1
: Int) ≤ Prod.fst y3 ∧ Prod.fst y3 ≤ (16 : Int) ∧ Prod.snd (Prod.snd y3) ≤ Int.toNat (Prod.fst y3)) ∧ ((0 : Nat) = (0 : Nat) ∧ List.length (trkN (Prod.fst (Prod.snd y3)) (Prod.snd (Prod.snd y3))) = (0
: Nat) ∧ (n = Prod.fst y3 ∧ (List.length s = List.length (Prod.fst (Prod.snd y3)) ∧ SC.rows eB (1 : Nat) (1 : Nat) true s = SC.rows eB (1 : Nat) (1 : Nat) true (Prod.fst (Prod.snd y3))) ∧ True ∧ True
∧ True ∧ ((0 : Nat) = (0 : Nat) ∧ List.length (trkN (Prod.fst (Prod.snd y3)) (Prod.snd (Prod.snd y3))) = List.length (trkN (Prod.fst (Prod.snd y3)) (Prod.snd (Prod.snd y3)))) ∧ (0 : Int) = (↑(Prod.snd
(Prod.snd y3)) : Int) ∧ True ∧ True ∧ True ∧ True ∧ True ∧ True ∧ True ∧ True ∧ True ∧ True ∧ True ∧ True ∧ True ∧ True) ∧ (ROK (eI IntKind.i64) (1 : Nat) (1 : Nat) true ∧ trkN (Prod.fst (Prod.snd
y3)) (Prod.snd (Prod.snd y3)) = []) ∧ True) ∧ (∀ (y4 : LInv.ι L39), True) ∧ (∀ (y4 : LInv.Ω L39), LInv.PE L39 y3 y4 → List.length (trkN (Prod.snd y4) (Int.toNat (Prod.fst y4))) ≤ List.length (trkN
(Prod.snd y4) (Int.toNat (Prod.fst y4))) ∧ List.length (trkN (Prod.snd y4) (Int.toNat (Prod.fst y4))) = List.length l ∧ SC.rows (eI IntKind.i64) (1 : Nat) (1 : Nat) true (List.take (List.length (trkN
(Prod.snd y4) (Int.toNat (Prod.fst y4)))) (rdrop (SN.lit (0 : Nat)) (trkN (Prod.snd y4) (Int.toNat (Prod.fst y4))))) = SC.rows (eI IntKind.i64) (1 : Nat) (1 : Nat) true l) ∧ True) := by kernel_rfl
theorem vc_Behind (n : Int) (s : List Int) (f x : Int) : (scallI sx42 Try.prog cf0 (sexec sx42 Try.prog cf0 1000) 42 0 [.int .i64 (.sym n), row s, .int .i64 (.sym f)] (post (.int .i64 (.sym x)))) = (SameCode (loopBody Try.prog (42 : Nat) (0 : Nat)) (loopBody Try.prog (42 : Nat) (0 : Nat)) ∧ ∃ (y4 : LInv.ι L42), ((∀ (y5 : Int), y5 ∈ Prod.fst (Prod.snd (Prod.fst y4)) → (0 : Int) ≤ y5 ∧ y5 < (256 :
Int)) ∧ (1 : Int) ≤ Prod.fst (Prod.fst y4) ∧ Prod.fst (Prod.fst y4) ≤ (16 : Int) ∧ (0 : Int) ≤ Prod.snd (Prod.snd (Prod.fst y4)) ∧ Prod.snd (Prod.snd (Prod.fst y4)) < Prod.fst (Prod.fst y4) ∧ Prod.snd
y4 ≤ Int.toNat (Prod.fst (Prod.fst y4))) ∧ ((n = Prod.fst (Prod.fst y4) ∧ (List.length s = List.length (Prod.fst (Prod.snd (Prod.fst y4))) ∧ SC.rows eB (1 : Nat) (1 : Nat) true s = SC.rows eB (1 :
Nat) (1 : Nat) true (Prod.fst (Prod.snd (Prod.fst y4)))) ∧ f = Prod.snd (Prod.snd (Prod.fst y4)) ∧ True ∧ True ∧ True ∧ True ∧ (0 : Int) = (↑(Prod.snd y4) : Int) ∧ True ∧ True ∧ True ∧ True ∧ True ∧
True ∧ True ∧ True ∧ True ∧ True ∧ True ∧ True ∧ True ∧ True ∧ True ∧ True ∧ True ∧ True) ∧ True) ∧ (∀ (y5 : LInv.ι L42), True) ∧ (∀ (y5 : LInv.Ω L42), LInv.PE L42 y4 y5 → (-1 : Int) = x) ∧ ∀ (y5 :
LInv.Ρ L42), LInv.PR L42 y4 y5 → y5 = x) := by kernel_rfl
theorem vc_Ints (a b : List Int) (p : Prop) : (scallI sx22 Try.prog cf0 (sexec sx22 Try.prog cf0 1000) 22 0 [rowJ a, rowJ b] (post (.bool (.sym p)))) = ((¬(↑(List.length a) : Int) = (↑(List.length b) : Int) → (false = true ↔ p)) ∧ (¬¬(↑(List.length a) : Int) = (↑(List.length b) : Int) → SameCode (loopBody Try.prog (22 : Nat) (0 : Nat)) (loopBody
Try.prog (22 : Nat) (0 : Nat)) ∧ ∃ (y3 : LInv.ι L22), (List.length (Prod.fst (Prod.fst y3)) = List.length (Prod.snd (Prod.fst y3)) ∧ Prod.snd y3 ≤ List.length (Prod.fst (Prod.fst y3)) ∧ List.length
(Prod.fst (Prod.fst y3)) ≤ (10000 : Nat)) ∧ (((List.length a = List.length (Prod.fst (Prod.fst y3)) ∧ SC.rows (eI IntKind.i64) (1 : Nat) (1 : Nat) true a = SC.rows (eI IntKind.i64) (1 : Nat) (1 : Nat)
true (Prod.fst (Prod.fst y3))) ∧ (List.length b = List.length (Prod.snd (Prod.fst y3)) ∧ SC.rows (eI IntKind.i64) (1 : Nat) (1 : Nat) true b = SC.rows (eI IntKind.i64) (1 : Nat) (1 : Nat) true
(Prod.snd (Prod.fst y3))) ∧ True ∧ True ∧ True ∧ (0 : Int) = (↑(Prod.snd y3) : Int) ∧ True ∧ True ∧ True ∧ True ∧ True ∧ True ∧ True ∧ True ∧ True ∧ True ∧ True ∧ True ∧ True ∧ True ∧ True ∧ True ∧
True ∧ True ∧ True ∧ True ∧ True) ∧ True) ∧ (∀ (y4 : LInv.ι L22), True) ∧ (∀ (y4 : LInv.Ω L22), LInv.PE L22 y3 y4 → (true = true ↔ p)) ∧ ∀ (y4 : LInv.Ρ L22), LInv.PR L22 y3 y4 → (false = true ↔ p))) := by kernel_rfl
theorem vc_ListB (n : Int) (s l : List Int) (x : Int) : (scallI sxl Try.prog cf0 (sexec sxl Try.prog cf0 1000) 14 0 [.int .i64 (.sym n), row s] (post (.tup [rowJ l, .int .i64 (.sym x)]))) = (∃ (y4 : Int × List Int), (n = Prod.fst y4 ∧ (List.length s = List.length (Prod.snd y4) ∧ SC.rows eB (1 : Nat) (1 : Nat) true s = SC.rows eB (1 : Nat) (1 : Nat) true (Prod.snd y4)) ∧ True) ∧ ((∀ (y5 :
Int), y5 ∈ Prod.snd y4 → (0 : Int) ≤ y5 ∧ y5 < (256 : Int)) ∧ List.length (Prod.snd y4) ≤ (1000 : Nat)) ∧ (¬chkR (Prod.fst y4) (Prod.snd y4) = (0 : Int) → (List.length l = (0 : Nat) ∧ ∀ (y5 : Int),
List.length (eI IntKind.i64 y5) = (1 : Nat) ∧ (∀ (y6 : SV), y6 ∈ eI IntKind.i64 y5 → imm (1 : Nat) y6 ∧ SV.one y6 = true) ∧ (true = true → ∀ (y6 : SV), y6 ∈ eI IntKind.i64 y5 → scalar y6)) ∧ chkR
(Prod.fst y4) (Prod.snd y4) = x ∧ True) ∧ (¬¬chkR (Prod.fst y4) (Prod.snd y4) = (0 : Int) → ∃ (y5 : List Int), ((Fn.func (51 : Nat) = Fn.func (51 : FuncId) ∧ True ∧ ((List.length s = List.length y5 ∧
SC.rows eB (1 : Nat) (1 : Nat) true s = SC.rows eB (1 : Nat) (1 : Nat) true y5) ∧ True) ∧ True) ∧ True) ∧ ((∀ (y6 : Int), y6 ∈ y5 → (0 : Int) ≤ y6 ∧ y6 < (256 : Int)) ∧ (1 : Nat) ≤ List.length y5 ∧
List.length y5 ≤ (1000 : Nat)) ∧ (List.length (BW.trkF (0 : Int) y5) = List.length l ∧ SC.rows (eI IntKind.i64) (1 : Nat) (1 : Nat) true (BW.trkF (0 : Int) y5) = SC.rows (eI IntKind.i64) (1 : Nat) (1
: Nat) true l) ∧ (0 : Int) = x ∧ True)) := by kernel_rfl
theorem vc_ListR (n : Int) (s l : List Int) (x : Int) : (scallI sxl Try.prog cf0 (sexec sxl Try.prog cf0 1000) 15 0 [.int .i64 (.sym n), row s] (post (.tup [rowJ l, .int .i64 (.sym x)]))) = (∃ (y4 : Int × List Int), (n = Prod.fst y4 ∧ (List.length s = List.length (Prod.snd y4) ∧ SC.rows eB (1 : Nat) (1 : Nat) true s = SC.rows eB (1 : Nat) (1 : Nat) true (Prod.snd y4)) ∧ True) ∧ ((∀ (y5 :
Int), y5 ∈ Prod.snd y4 → (0 : Int) ≤ y5 ∧ y5 < (256 : Int)) ∧ List.length (Prod.snd y4) ≤ (1000 : Nat)) ∧ (¬chkR (Prod.fst y4) (Prod.snd y4) = (0 : Int) → (List.length l = (0 : Nat) ∧ ∀ (y5 : Int),
List.length (eI IntKind.i64 y5) = (1 : Nat) ∧ (∀ (y6 : SV), y6 ∈ eI IntKind.i64 y5 → imm (1 : Nat) y6 ∧ SV.one y6 = true) ∧ (true = true → ∀ (y6 : SV), y6 ∈ eI IntKind.i64 y5 → scalar y6)) ∧ chkR
(Prod.fst y4) (Prod.snd y4) = x ∧ True) ∧ (¬¬chkR (Prod.fst y4) (Prod.snd y4) = (0 : Int) → ∃ (y5 : Int × List Int), (n = Prod.fst y5 ∧ (List.length s = List.length (Prod.snd y5) ∧ SC.rows eB (1 :
Nat) (1 : Nat) true s = SC.rows eB (1 : Nat) (1 : Nat) true (Prod.snd y5)) ∧ True) ∧ ((∀ (y6 : Int), y6 ∈ Prod.snd y5 → (0 : Int) ≤ y6 ∧ y6 < (256 : Int)) ∧ (1 : Int) ≤ Prod.fst y5 ∧ Prod.fst y5 ≤ (16
: Int)) ∧ (List.length (trkN (Prod.snd y5) (Int.toNat (Prod.fst y5))) = List.length l ∧ SC.rows (eI IntKind.i64) (1 : Nat) (1 : Nat) true (trkN (Prod.snd y5) (Int.toNat (Prod.fst y5))) = SC.rows (eI
IntKind.i64) (1 : Nat) (1 : Nat) true l) ∧ (0 : Int) = x ∧ True)) := by kernel_rfl
theorem vc_CountR (n : Int) (s : List Int) (x y : Int) : (scallI sxc Try.prog cf0 (sexec sxc Try.prog cf0 1000) 17 0 [.int .i64 (.sym n), row s] (post (.tup [.int .i64 (.sym x), .int .i64 (.sym y)]))) = (∃ (y4 : Int × List Int), (n = Prod.fst y4 ∧ (List.length s = List.length (Prod.snd y4) ∧ SC.rows eB (1 : Nat) (1 : Nat) true s = SC.rows eB (1 : Nat) (1 : Nat) true (Prod.snd y4)) ∧ True) ∧ ((∀ (y5 :
Int), y5 ∈ Prod.snd y4 → (0 : Int) ≤ y5 ∧ y5 < (256 : Int)) ∧ List.length (Prod.snd y4) ≤ (1000 : Nat)) ∧ (↑(List.length (listL (Prod.fst y4) (Prod.snd y4))) : Int) = x ∧ chkR (Prod.fst y4) (Prod.snd
y4) = y ∧ True) := by kernel_rfl
theorem vc_NextR (n : Int) (s : List Int) (f x y : Int) : (scallI sxl Try.prog cf0 (sexec sxl Try.prog cf0 1000) 21 0 [.int .i64 (.sym n), row s, .int .i64 (.sym f)] (post (.tup [.int .i64 (.sym x), .int .i64 (.sym y)]))) = (∃ (y5 : Int × List Int × Int), (n = Prod.fst y5 ∧ (List.length s = List.length (Prod.fst (Prod.snd y5)) ∧ SC.rows eB (1 : Nat) (1 : Nat) true s = SC.rows eB (1 : Nat) (1 : Nat) true (Prod.fst
(Prod.snd y5))) ∧ f = Prod.snd (Prod.snd y5) ∧ True) ∧ ((∀ (y6 : Int), y6 ∈ Prod.fst (Prod.snd y5) → (0 : Int) ≤ y6 ∧ y6 < (256 : Int)) ∧ List.length (Prod.fst (Prod.snd y5)) ≤ (1000 : Nat)) ∧ (¬hasE
(Prod.fst y5) (Prod.fst (Prod.snd y5)) (Prod.snd (Prod.snd y5)) = (0 : Int) → (0 : Int) = x ∧ hasE (Prod.fst y5) (Prod.fst (Prod.snd y5)) (Prod.snd (Prod.snd y5)) = y ∧ True) ∧ (¬¬hasE (Prod.fst y5)
(Prod.fst (Prod.snd y5)) (Prod.snd (Prod.snd y5)) = (0 : Int) → ∃ (y6 : Int × List Int × Int), (n = Prod.fst y6 ∧ (List.length s = List.length (Prod.fst (Prod.snd y6)) ∧ SC.rows eB (1 : Nat) (1 : Nat)
true s = SC.rows eB (1 : Nat) (1 : Nat) true (Prod.fst (Prod.snd y6))) ∧ f = Prod.snd (Prod.snd y6) ∧ True) ∧ ((∀ (y7 : Int), y7 ∈ Prod.fst (Prod.snd y6) → (0 : Int) ≤ y7 ∧ y7 < (256 : Int)) ∧ (1 :
Int) ≤ Prod.fst y6 ∧ Prod.fst y6 ≤ (16 : Int) ∧ (0 : Int) ≤ Prod.snd (Prod.snd y6) ∧ Prod.snd (Prod.snd y6) < Prod.fst y6) ∧ behindI (Prod.fst y6) (Prod.fst (Prod.snd y6)) (Prod.snd (Prod.snd y6)) = x
∧ (0 : Int) = y ∧ True)) := by kernel_rfl
end
end Go.Proofs.Ytifgifhbefhkmaa.VM
/- Sets of tracks: lists, counts and the next one: the conditions hold. No conditions. -/
namespace Go.Proofs.Ytifgifhbefhkmaa.VM
open Go Go.RowKit
set_option linter.unusedVariables false
set_option linter.unusedSimpArgs false
set_option maxRecDepth 100000
noncomputable section
theorem nx {t : Nat} (h : t < 100000) : IntKind.i64.wrap ((t : Int) + 1) = ((t + 1 : Nat) : Int) := by rw [wr_i64 (by omega) (by omega)]; omega
theorem rokJ : ROK (eI .i64) 1 1 true := fun x => ⟨rfl, fun v hv => by simp [eI] at hv; subst hv; exact ⟨trivial, rfl⟩, fun _ v hv => by simp [eI] at hv; subst hv; trivial⟩
theorem trkF_append : ∀ (l m : List Int) (i : Int), BW.trkF i (l ++ m) = BW.trkF i l ++ BW.trkF (i + l.length) m
  | [], m, i => by simp [BW.trkF]
  | c :: l, m, i => by
    show BW.trkF i (c :: (l ++ m)) = BW.trkF i (c :: l) ++ _
    rw [BW.trkF, BW.trkF, trkF_append l m (i + 1), List.append_assoc, List.length_cons]
    rw [show i + 1 + (l.length : Int) = i + ((l.length + 1 : Nat) : Int) by omega]
theorem trkF_one (i c : Int) : (BW.trkF i [c]).length = (BW.trkB c).length := by simp [BW.trkF]
theorem trkF_take {l : List Int} {t : Nat} {c : Int} (h : l[t]? = some c) : (BW.trkF 0 (l.take (t + 1))).length = (BW.trkF 0 (l.take t)).length + (BW.trkB c).length := by
  rw [List.take_add_one, h, trkF_append, List.length_append]
  exact congrArg _ (trkF_one _ _)
theorem trkN_len (s : List Int) (i : Nat) : (trkN s i).length ≤ i := by
  unfold trkN
  rw [List.length_map]
  exact Nat.le_trans (List.length_filter_le _ _) (by simp)
theorem trkN_succ (s : List Int) (i : Nat) : trkN s (i + 1) = trkN s i ++ if inB s (i : Int) = true then [(i : Int)] else [] := by
  unfold trkN
  rw [List.range_succ, List.filter_append, List.map_append]
  congr 1
  simp only [List.filter_cons, List.filter_nil]
  split <;> rfl
theorem ext_ok : ExtOK Try.prog cf0 := by
  intro f g hf base vs rv blks h
  have hf : (bif Nat.beq f 36 then some collectG else bif Nat.beq f 40 then some onesG else none) = some g := hf
  cases hq : Nat.beq f 36 with
  | true =>
    rw [hq] at hf
    have := Nat.eq_of_beq_eq_true hq
    subst this
    cases hf
    exact collect_iso h
  | false =>
    rw [hq] at hf
    cases hr : Nat.beq f 40 with
    | true =>
      rw [hr] at hf
      have := Nat.eq_of_beq_eq_true hr
      subst this
      cases hf
      exact ones_iso h
    | false => rw [hr] at hf; cases hf
theorem rl_bytes {ε : Nat → Option BE} : ∀ {x : List Int} {vs : List V}, RL ε (x.flatMap eB) vs → vs = x.map (V.int .u8)
  | [], vs, h => by cases h; rfl
  | a :: x, vs, h => by
    rw [List.flatMap_cons] at h
    cases h with
    | cons r s =>
      cases r with
      | int _ _ m hm => rw [hm, rl_bytes s]; rfl
theorem u8s_map : ∀ x : List Int, u8s (x.map (V.int .u8)) = some x
  | [] => rfl
  | a :: x => by rw [List.map_cons, u8s, u8s_map x]; rfl
theorem rl_mapJ {ε : Nat → Option BE} : ∀ x : List Int, RL ε (x.flatMap (eI .i64)) (x.map (V.int .i64))
  | [] => .nil
  | a :: x => .cons (.int _ _ _ rfl) (rl_mapJ x)
theorem ones_ok : CtOK Try.prog cf0 40 ctOnes := by
  intro base bs K hK as' has vbase
  obtain ⟨c, h1, h2, h3⟩ := hK
  have hr := sles_rel h1 has
  cases hr with
  | cons r s =>
    cases s
    cases r with
    | int _ _ m hm =>
      have hm : m = c := hm
      subst hm
      refine ⟨.int .i64 ((BW.trkB m).length : Int), [], _, [], ⟨0, fun n _ => ?_⟩, h3, .nil, .int _ _ _ rfl⟩
      show (if 0 ≤ m ∧ m < 256 then some (V.int .i64 ((BW.trkB m).length : Int), ([] : List Blk)) else none) = _
      rw [if_pos h2]
theorem coll_ok : CtOK Try.prog cf0 36 ctColl := by
  intro base bs K hK as' has vbase
  obtain ⟨x, h1, ⟨hb, hl, hl2⟩, h3⟩ := hK
  have hr := sles_rel h1 has
  cases hr with
  | cons r s =>
    cases s
    cases r with
    | func _ q1 q2 =>
      cases q1
      cases q2 with
      | cons r q2 =>
        cases q2
        cases r with
        | @ptrI fr fr' ex cs cs' rest g1 g2 g3 g4 =>
          cases g2 with
          | @cons _ _ c0 cr r0 g2 =>
            cases g2
            cases r0 with
            | slIn q1 q2 => have q1 : x.length = 0 := q1; omega
            | slI0 q1 q2 q3 q4 => have q3 : x.length = 0 := q3; omega
            | slI q1 q2 q3 q4 q5 =>
              rename_i fr2 tight' cs2 m
              have e := rl_bytes q4
              subst e
              have q3 : m = x.length := q3
              subst q3
              refine ⟨i64V (BW.trkF 0 x), [], _, [], ⟨0, fun n _ => ?_⟩, h3, .nil, .slI (fun _ => rfl) (fun q => by cases q) rfl (rl_mapJ _) rokJ⟩
              show (match u8s ((x.map (V.int .u8)).take x.length) with
                | some bs => if x.length ≤ (x.map (V.int .u8)).length ∧ 1 ≤ x.length ∧ x.length ≤ 1000 ∧ okBytes bs = true then some (i64V (BW.trkF 0 bs), ([] : List Blk)) else none
                | none => none) = _
              rw [List.take_of_length_le (by simp), u8s_map]
              simp only
              rw [if_pos ⟨by simp, hl, hl2, okBytes_iff.2 hb⟩]
theorem sxa_ok : SXOK Try.prog cf0 sxa := sxok_of (all_cons in_ok (all_cons ones_ok all_nil)) all_nil
theorem L16_ok (a : L16.ι) (ha : L16.G a) : sexec sxa Try.prog cf0 1000 (loopBody Try.prog 16 0) (L16.I a) (L16.round 1000 a) := by
  rw [vc_L16]
  obtain ⟨s, t⟩ := a
  obtain ⟨g1, g2, g3⟩ := ha
  simp only [true_and, and_true, eq_self, Int.toNat_natCast] at *
  have hl := trkF_len (s.take t) 0
  rw [List.length_take] at hl
  refine ⟨fun h1 => ⟨by omega, by omega, by omega, fun c hc => Exists.intro c ⟨rfl, g1 c (List.mem_of_getElem? hc), Exists.intro (s, t + 1) ⟨⟨g1, by show t + 1 ≤ s.length; omega, g3⟩, by show s.length - (t + 1) < s.length - t; omega, fun o ho => ho, ?_, ⟨rfl, rfl⟩, rfl, nx (by omega)⟩⟩⟩, fun h1 => Exists.intro s ⟨rfl, ?_⟩⟩
  · have h8 := B8_len 8 c
    have h8 : (BW.trkB c).length ≤ 8 := h8
    show IntKind.i64.wrap (((BW.trkF 0 (s.take t)).length : Int) + ((BW.trkB c).length : Int)) = ((BW.trkF 0 (s.take (t + 1))).length : Int)
    rw [wr_i64 (by omega) (by omega), trkF_take hc]; omega
  · rw [List.take_of_length_le (by omega)]
theorem L39_ok (a : L39.ι) (ha : L39.G a) : sexec sxa Try.prog cf0 1000 (loopBody Try.prog 39 0) (L39.I a) (L39.round 1000 a) := by
  rw [vc_L39]
  obtain ⟨n, s, t⟩ := a
  obtain ⟨g1, g2, g3, g4⟩ := ha
  simp only [true_and, and_true, eq_self, Int.toNat_natCast] at *
  have hl := trkN_len s t
  refine ⟨fun h1 => Exists.intro (s, (t : Int)) ⟨⟨⟨rfl, rfl⟩, rfl⟩, ⟨g1, by show (0 : Int) ≤ t; omega, by show (t : Int) < 200; omega⟩, fun hi => ⟨by omega, Exists.intro (t : Int) ⟨rfl, Exists.intro (n, s, t + 1) ⟨⟨g1, g2, g3, by show t + 1 ≤ n.toNat; omega⟩, by show n.toNat - (t + 1) < n.toNat - t; omega, fun o ho => ho, ?_, ?_⟩⟩⟩, fun hi => Exists.intro (n, s, t + 1) ⟨⟨g1, g2, g3, by show t + 1 ≤ n.toNat; omega⟩, by show n.toNat - (t + 1) < n.toNat - t; omega, fun o ho => ho, ?_, ?_⟩⟩, fun h1 => Exists.intro (n, s) ⟨rfl, ?_⟩⟩
  · have e : trkN s (t + 1) = trkN s t ++ [(t : Int)] := by rw [trkN_succ, if_pos hi]
    refine ⟨rfl, ⟨rfl, rfl⟩, ?_, nx (by omega)⟩
    rw [e, List.length_append]; rfl
  · have e : trkN s (t + 1) = trkN s t ++ [(t : Int)] := by rw [trkN_succ, if_pos hi]
    rw [e]; rfl
  · have e : trkN s (t + 1) = trkN s t := by rw [trkN_succ, if_neg hi, List.append_nil]
    refine ⟨rfl, ⟨rfl, rfl⟩, ?_, nx (by omega)⟩
    rw [e]
  · have e : trkN s (t + 1) = trkN s t := by rw [trkN_succ, if_neg hi, List.append_nil]
    rw [e]
  · have : t = n.toNat := by omega
    subst this
    exact ⟨rfl, rfl⟩
theorem L22_ok (a : L22.ι) (ha : L22.G a) : sexec sxa Try.prog cf0 1000 (loopBody Try.prog 22 0) (L22.I a) (L22.round 1000 a) := by
  rw [vc_L22]
  obtain ⟨⟨x, y⟩, t⟩ := a
  obtain ⟨g1, g2, g3⟩ := ha
  have g1 : x.length = y.length := g1
  have g2 : t ≤ x.length := g2
  have g3 : x.length ≤ 10000 := g3
  simp only [true_and, and_true, eq_self, Int.toNat_natCast]
  refine ⟨fun h1 => ⟨by omega, by omega, by omega, fun u hu => ⟨by omega, by omega, by omega, fun v hv => ⟨fun h2 => Exists.intro () fun q => ?_, fun h2 => Exists.intro ((x, y), t + 1) ⟨⟨g1, by show t + 1 ≤ x.length; omega, g3⟩, by show x.length - (t + 1) < x.length - t; omega, ?_, fun _ hp => hp, ⟨rfl, rfl⟩, ⟨rfl, rfl⟩, nx (by omega)⟩⟩⟩⟩, fun h1 => Exists.intro () fun k hk hk2 => by omega⟩
  · subst q; rw [hu] at hv; cases hv; exact h2 rfl
  · intro _ hp k hk hk2
    by_cases q : k = t
    · subst q; rw [hu, hv, Classical.not_not.1 h2]
    · exact hp k (by show t + 1 ≤ k; omega) hk2
theorem L42_ok (a : L42.ι) (ha : L42.G a) : sexec sxa Try.prog cf0 1000 (loopBody Try.prog 42 0) (L42.I a) (L42.round 1000 a) := by
  rw [vc_L42]
  obtain ⟨⟨n, s, f⟩, t⟩ := a
  obtain ⟨g1, g2, g3, g4, g5, g6⟩ := ha
  have g1 : By s := g1
  have g2 : 1 ≤ n := g2
  have g3 : n ≤ 16 := g3
  have g4 : 0 ≤ f := g4
  have g5 : f < n := g5
  have g6 : t ≤ n.toNat := g6
  simp only [true_and, and_true, eq_self, Int.toNat_natCast]
  have e0 : (t : Int) < n → IntKind.i64.wrap (f + (t : Int)) = f + (t : Int) := fun h => wr_i64 (by omega) (by omega)
  have e1 : (t : Int) < n → Int.tmod (IntKind.i64.wrap (f + (t : Int))) n = (f + (t : Int)) % n := fun h => by rw [e0 h, Int.tmod_eq_emod_of_nonneg (by omega)]
  have m0 : 0 ≤ (f + (t : Int)) % n := Int.emod_nonneg _ (by omega)
  have m1 : (f + (t : Int)) % n < n := Int.emod_lt_of_pos _ (by omega)
  refine ⟨fun h1 => ⟨by omega, Exists.intro (s, (f + (t : Int)) % n) ⟨⟨⟨rfl, rfl⟩, e1 h1⟩, ⟨g1, m0, by show (f + (t : Int)) % n < 200; omega⟩, fun hi => ⟨by omega, Exists.intro ((f + (t : Int)) % n) ⟨Exists.intro t ⟨Nat.le_refl _, by omega, hi, fun j h2 h3 => by omega, rfl⟩, e1 h1⟩⟩, fun hi => Exists.intro ((n, s, f), t + 1) ⟨⟨g1, g2, g3, g4, g5, by show t + 1 ≤ n.toNat; omega⟩, by show n.toNat - (t + 1) < n.toNat - t; omega, ?_, ?_, rfl, ⟨rfl, rfl⟩, rfl, nx (by omega)⟩⟩⟩, fun h1 => Exists.intro () fun k hk hk2 => by omega⟩
  · intro _ hp k hk hk2
    by_cases q : k = t
    · subst q; simpa using hi
    · exact hp k (by show t + 1 ≤ k; omega) hk2
  · rintro x ⟨k, k1, k2, k3, k4, k5⟩
    refine ⟨k, by have k1 : t + 1 ≤ k := k1; omega, k2, k3, fun j j1 j2 => ?_, k5⟩
    by_cases q : j = t
    · subst q; simpa using hi
    · exact k4 j (by show t + 1 ≤ j; omega) j2
theorem sx16_ok : SXOK Try.prog cf0 sx16 := sxok_lp (all_cons chkB_ok all_nil) (all_cons (inv_vc (m := 1000) sxa_ok L16_ok) all_nil)
theorem sx39_ok : SXOK Try.prog cf0 sx39 := sxok_lp all_nil (all_cons (inv_vc (m := 1000) sxa_ok L39_ok) all_nil)
theorem sx42_ok : SXOK Try.prog cf0 sx42 := sxok_lp all_nil (all_cons (inv_vc (m := 1000) sxa_ok L42_ok) all_nil)
theorem sx22_ok : SXOK Try.prog cf0 sx22 := sxok_lp all_nil (all_cons (inv_vc (m := 1000) sxa_ok L22_ok) all_nil)
theorem behind_some {n : Int} {s : List Int} {f : Int} {k : Nat} (h1 : k < n.toNat) (h2 : inB s ((f + (k : Int)) % n) = true) (h3 : ∀ j : Nat, j < k → inB s ((f + (j : Int)) % n) = false) : behindI n s f = (f + (k : Int)) % n := by
  have : (List.range n.toNat).find? (fun k : Nat => inB s ((f + (k : Int)) % n)) = some k := by
    rw [List.find?_range_eq_some]
    exact ⟨h2, List.mem_range.2 h1, fun j hj => by simpa using h3 j hj⟩
  unfold behindI
  rw [this]
theorem behind_none {n : Int} {s : List Int} {f : Int} (h : ∀ k : Nat, k < n.toNat → inB s ((f + (k : Int)) % n) = false) : behindI n s f = -1 := by
  have : (List.range n.toNat).find? (fun k : Nat => inB s ((f + (k : Int)) % n)) = none := List.find?_eq_none.2 fun k hk => by have := h k (List.mem_range.1 hk); simp [this]
  unfold behindI
  rw [this]
theorem behind_ok : CtOK Try.prog cf0 42 ctBehind := ct_vc (m := 1000) sx42_ok fun a h => by
  obtain ⟨n, s, f⟩ := a
  obtain ⟨g1, g2, g3, g4, g5⟩ := h
  rw [vc_Behind]
  simp only [true_and, and_true, eq_self, implies_true]
  refine ⟨SameCode.refl _, Exists.intro ((n, s, f), 0) ⟨⟨g1, g2, g3, g4, g5, Nat.zero_le _⟩, ⟨rfl, ⟨rfl, rfl⟩, rfl, rfl⟩, fun _ hp => ?_, ?_⟩⟩
  · exact (behind_none fun k hk => hp k (Nat.zero_le _) hk).symm
  · rintro x ⟨k, k1, k2, k3, k4, k5⟩
    rw [k5]
    exact (behind_some k2 k3 fun j hj => k4 j (Nat.zero_le _) hj).symm
theorem trk_ok : CtOK Try.prog cf0 39 ctTrk := ct_vc (m := 1000) sx39_ok fun a h => by
  obtain ⟨n, s⟩ := a
  obtain ⟨g1, g2, g3⟩ := h
  rw [vc_Trk]
  simp only [true_and, and_true, eq_self, implies_true]
  refine ⟨SameCode.refl _, Exists.intro (n, s, 0) ⟨⟨g1, g2, g3, Nat.zero_le _⟩, ⟨rfl, ⟨rfl, ⟨rfl, rfl⟩, rfl⟩, rokJ, rfl⟩, fun o ho => ?_⟩⟩
  have ho : o = (n, s) := ho
  subst ho
  refine ⟨Nat.le_refl _, rfl, ?_⟩
  show SC.rows (eI .i64) 1 1 true (((trkN s n.toNat)).take (trkN s n.toNat).length) = _
  rw [List.take_of_length_le (Nat.le_refl _)]
theorem ints_ok : CtOK Try.prog cf0 22 ctInts := ct_vc (m := 1000) sx22_ok fun a h => by
  obtain ⟨x, y⟩ := a
  obtain ⟨g1, g2⟩ := h
  have g1 : x.length ≤ 10000 := g1
  rw [vc_Ints]
  simp only [true_and, and_true, eq_self, implies_true]
  refine ⟨fun hne => ?_, fun he => ⟨SameCode.refl _, Exists.intro ((x, y), 0) ⟨⟨by show x.length = y.length; omega, Nat.zero_le _, g1⟩, ⟨⟨rfl, rfl⟩, ⟨rfl, rfl⟩, rfl⟩, fun _ hp => ?_, fun _ hp => ?_⟩⟩⟩
  · constructor
    · intro q; cases q
    · intro q; have q : x = y := q; rw [q] at hne; exact absurd rfl hne
  · have hp : ∀ k : Nat, 0 ≤ k → k < x.length → x[k]? = y[k]? := hp
    constructor
    · intro _
      show x = y
      apply List.ext_getElem?
      intro k
      by_cases q : k < x.length
      · exact hp k (Nat.zero_le _) q
      · rw [List.getElem?_eq_none (by omega), List.getElem?_eq_none (by omega)]
    · intro _; trivial
  · constructor
    · intro q; cases q
    · intro q; exact absurd q hp
theorem chkR_zero {n : Int} {s : List Int} (h : chkR n s = 0) : sizeB n = true ∧ mayB n s = true := by
  unfold chkR at h
  split at h
  · rename_i q
    split at h
    · exact ⟨q, by assumption⟩
    · cases h
  · cases h
theorem chkR_good {n : Int} {s : List Int} (h : chkR n s = 0) : 1 ≤ n ∧ n ≤ 16 ∧ s.length = pages n ∧ mayB n s = true := by
  obtain ⟨h1, h2⟩ := chkR_zero h
  obtain ⟨q1, q2⟩ := sizeB_iff.1 h1
  refine ⟨q1, q2, ?_, h2⟩
  unfold mayB at h2
  simp only [Bool.and_eq_true, decide_eq_true_eq] at h2
  exact h2.1.2
theorem hasE_good {n : Int} {s : List Int} {f : Int} (h : hasE n s f = 0) : chkR n s = 0 ∧ 0 ≤ f ∧ f < n := by
  unfold hasE at h
  split at h
  · rename_i q
    split at h
    · rename_i q2; exact ⟨q, q2.1, q2.2⟩
    · cases h
  · rename_i q; exact absurd h q

end
end Go.Proofs.Ytifgifhbefhkmaa.VM
/- Sets of tracks: what comes is what the document lists; the next one. No conditions. -/
namespace Go.Proofs.Ytifgifhbefhkmaa.VM
open Go Go.RowKit
set_option linter.unusedVariables false
set_option linter.unusedSimpArgs false
set_option maxRecDepth 100000
noncomputable section
def trkM (P : Nat → Bool) (m : Nat) : List Int := ((List.range m).filter P).map fun k : Nat => (k : Int)
theorem trkM_congr {P Q : Nat → Bool} {m : Nat} (h : ∀ k, k < m → P k = Q k) : trkM P m = trkM Q m := by
  unfold trkM
  congr 1
  exact List.filter_congr fun k hk => h k (List.mem_range.1 hk)
theorem trkM_add (P : Nat → Bool) (a b : Nat) : trkM P (a + b) = trkM P a ++ (trkM (fun k => P (a + k)) b).map fun x => (a : Int) + x := by
  unfold trkM
  rw [List.range_add, List.filter_append, List.map_append, List.filter_map, List.map_map, List.map_map]
  congr 1
theorem trkM_false {P : Nat → Bool} {m : Nat} (h : ∀ k, k < m → P k = false) : trkM P m = [] := by
  unfold trkM
  rw [List.filter_eq_nil_iff.2 fun k hk => by rw [h k (List.mem_range.1 hk)]; simp]; rfl
theorem trkN_M (s : List Int) (m : Nat) : trkN s m = trkM (fun k => inB s (k : Int)) m := rfl
theorem trkB_bits : ∀ c : Fin 256, BW.trkB (c.val : Int) = trkM (fun k => c.val.testBit k) 8 := by decide +kernel
theorem trkB_nat {p : Nat} (hp : p < 256) : BW.trkB (p : Int) = trkM (fun k => p.testBit k) 8 := trkB_bits ⟨p, hp⟩
theorem trkM_may {m p : Nat} (h1 : 1 ≤ m) (hm : m ≤ 8) (h : mayB (m : Int) [(p : Int)] = true) : trkM (fun k => p.testBit k) 8 = trkM (fun k => p.testBit k) m := by
  have e : trkM (fun k => p.testBit k) 8 = trkM (fun k => p.testBit k) (m + (8 - m)) := by rw [show m + (8 - m) = 8 by omega]
  rw [e, trkM_add, trkM_false (m := 8 - m) fun k hk => (may_bits h1 (by omega)).1 h (m + k) (by omega) (by omega)]
  simp
theorem trk_one {n : Int} {p : Nat} (h1 : 1 ≤ n) (h2 : n ≤ 8) (hp : p < 256) (h : mayB n [(p : Int)] = true) : BW.trkF 0 [(p : Int)] = trkN [(p : Int)] n.toNat := by
  obtain ⟨m, rfl⟩ : ∃ m : Nat, n = m := ⟨n.toNat, by omega⟩
  rw [trkN_M, Int.toNat_natCast, trkM_congr (Q := fun k => p.testBit k) fun k hk => inB1 p k (by omega), ← trkM_may (by omega) (by omega) h, ← trkB_nat hp]
  simp [BW.trkF]
theorem trk_two {n : Int} {p q : Nat} (h1 : 9 ≤ n) (h2 : n ≤ 16) (hp : p < 256) (hq : q < 256) (h : mayB n [(p : Int), (q : Int)] = true) : BW.trkF 0 [(p : Int), (q : Int)] = trkN [(p : Int), (q : Int)] n.toNat := by
  rw [may_two n _ _ h1 h2] at h
  obtain ⟨m, rfl, m1, m2, m3, m4⟩ := split_n h1 h2
  rw [m4] at h
  rw [trkN_M, m3, trkM_add, trkM_congr (Q := fun k => p.testBit k) (m := 8) fun k hk => inB2lo p k _ hk, trkM_congr (Q := fun k => q.testBit k) (m := m) fun k hk => inB2hi _ q k (by omega), ← trkM_may m1 m2 h, ← trkB_nat hp, ← trkB_nat hq]
  simp [BW.trkF]
theorem nat_list1 {s : List Int} (hb : By s) (hl : s.length = 1) : ∃ p : Nat, s = [(p : Int)] ∧ p < 256 := by
  match s, hl with
  | [x], _ =>
    obtain ⟨h1, h2⟩ := hb x (by simp)
    exact ⟨x.toNat, by rw [Int.toNat_of_nonneg h1], by omega⟩
theorem nat_list2 {s : List Int} (hb : By s) (hl : s.length = 2) : ∃ p q : Nat, s = [(p : Int), (q : Int)] ∧ p < 256 ∧ q < 256 := by
  match s, hl with
  | [x, y], _ =>
    obtain ⟨h1, h2⟩ := hb x (by simp)
    obtain ⟨h3, h4⟩ := hb y (by simp)
    exact ⟨x.toNat, y.toNat, by rw [Int.toNat_of_nonneg h1, Int.toNat_of_nonneg h3], by omega, by omega⟩
theorem trk_all {n : Int} {s : List Int} (hb : By s) (h : chkR n s = 0) : BW.trkF 0 s = trkN s n.toNat := by
  obtain ⟨h1, h2, h3, h4⟩ := chkR_good h
  by_cases h8 : n ≤ 8
  · obtain ⟨p, rfl, hp⟩ := nat_list1 hb (by rw [h3]; unfold pages; omega)
    exact trk_one h1 h8 hp h4
  · obtain ⟨p, q, rfl, hp, hq⟩ := nat_list2 hb (by rw [h3]; unfold pages; omega)
    exact trk_two (by omega) h2 hp hq h4
theorem firstF_head : ∀ {l : List Int}, (∀ x ∈ l, 0 ≤ x) → BW.firstF l = l.head?.getD (-1)
  | [], _ => rfl
  | x :: l, h => by
    have hx := h x (by simp)
    show List.foldl (fun a x => if a < 0 then x else a) (if (-1 : Int) < 0 then x else -1) l = x
    rw [if_pos (by omega)]
    clear h
    induction l with
    | nil => rfl
    | cons y l ih => rw [List.foldl_cons, if_neg (by omega)]; exact ih
theorem trkM_head (P : Nat → Bool) (m : Nat) : (trkM P m).head? = ((List.range m).find? P).map fun k : Nat => (k : Int) := by
  unfold trkM
  rw [List.head?_map, List.head?_filter]
theorem find_map_add (P : Nat → Bool) (d f : Nat) : ((List.range f).map (d + ·)).find? P = ((List.range f).find? fun k => P (d + k)).map (d + ·) := by
  rw [List.find?_map]; rfl
theorem find_congr {P Q : Nat → Bool} : ∀ {l : List Nat}, (∀ k ∈ l, P k = Q k) → l.find? P = l.find? Q
  | [], _ => rfl
  | x :: l, h => by
    rw [List.find?_cons, List.find?_cons, h x (by simp), find_congr fun k hk => h k (by simp [hk])]
theorem next_eq (P : Nat → Bool) (f d : Nat) (hd : 0 < d) : BW.nextI (f : Int) (trkM P (f + d)) = match (List.range (f + d)).find? (fun k => P ((f + k) % (f + d))) with
    | some k => (((f + k) % (f + d) : Nat) : Int)
    | none => -1 := by
  have e1 : (List.range (f + d)).find? (fun k => P ((f + k) % (f + d))) = ((List.range d).find? fun k => P (f + k)).or (((List.range f).find? P).map (d + ·)) := by
    rw [Nat.add_comm f d, List.range_add, List.find?_append, find_map_add]
    congr 1
    · refine find_congr fun k hk => ?_
      have := List.mem_range.1 hk
      rw [Nat.mod_eq_of_lt (by omega)]
    · congr 1
      refine find_congr fun k hk => ?_
      have := List.mem_range.1 hk
      rw [show f + (d + k) = k + (d + f) by omega, Nat.add_mod_right, Nat.mod_eq_of_lt (by omega)]
  have e2 : (trkM P f).find? (fun x => decide ((f : Int) ≤ x)) = none := List.find?_eq_none.2 fun x hx => by
    unfold trkM at hx
    obtain ⟨k, hk, rfl⟩ := List.mem_map.1 hx
    have := List.mem_range.1 (List.mem_filter.1 hk).1
    simp; omega
  have e3 : ((trkM (fun k => P (f + k)) d).map fun x => (f : Int) + x).find? (fun x => decide ((f : Int) ≤ x)) = ((List.range d).find? fun k => P (f + k)).map fun k : Nat => (f : Int) + (k : Int) := by
    have : ((trkM (fun k => P (f + k)) d).map fun x => (f : Int) + x).find? (fun x => decide ((f : Int) ≤ x)) = ((trkM (fun k => P (f + k)) d).map fun x => (f : Int) + x).head? := by
      unfold trkM
      cases hq : (List.range d).filter fun k => P (f + k) with
      | nil => rfl
      | cons k l =>
        rw [List.map_cons, List.map_cons, List.find?_cons, List.head?_cons]
        have : decide ((f : Int) ≤ (f : Int) + (k : Int)) = true := by simp; omega
        rw [this]
    rw [this, List.head?_map, trkM_head, Option.map_map]; rfl
  rw [trkM_add]
  unfold BW.nextI
  rw [List.find?_append, e2, e3, e1]
  cases hq : (List.range d).find? fun k => P (f + k) with
  | some k =>
    have hk := List.mem_range.1 (List.mem_of_find?_eq_some hq)
    show (f : Int) + (k : Int) = (((f + k) % (f + d) : Nat) : Int)
    rw [Nat.mod_eq_of_lt (by omega)]; omega
  | none =>
    simp only [Option.map_none, Option.none_or]
    have hd0 : trkM (fun k => P (f + k)) d = [] := trkM_false fun k hk => by
      have := List.find?_eq_none.1 hq k (List.mem_range.2 hk)
      simpa using this
    rw [hd0, List.map_nil, List.append_nil, firstF_head fun x hx => by
      unfold trkM at hx
      obtain ⟨k, _, rfl⟩ := List.mem_map.1 hx
      omega, trkM_head]
    cases hf : (List.range f).find? P with
    | none => rfl
    | some k =>
      have hk := List.mem_range.1 (List.mem_of_find?_eq_some hf)
      simp only [Option.map_some, Option.getD_some]
      rw [show f + (d + k) = k + (f + d) by omega, Nat.add_mod_right, Nat.mod_eq_of_lt (by omega)]
theorem next_behind {n : Int} {s : List Int} {f : Int} (hb : By s) (h : hasE n s f = 0) : BW.nextI f (BW.trkF 0 s) = behindI n s f := by
  obtain ⟨h1, h2, h3⟩ := hasE_good h
  obtain ⟨n1, n2, _, _⟩ := chkR_good h1
  obtain ⟨f', rfl⟩ : ∃ f' : Nat, f = f' := ⟨f.toNat, by omega⟩
  obtain ⟨d, rfl⟩ : ∃ d : Nat, n = ((f' + d : Nat) : Int) := ⟨(n - f').toNat, by omega⟩
  rw [trk_all hb h1, trkN_M, Int.toNat_natCast, next_eq _ _ _ (by omega)]
  unfold behindI
  rw [Int.toNat_natCast]
  rfl

end
end Go.Proofs.Ytifgifhbefhkmaa.VM
/- Sets of tracks asked: the functions, and the law, told. No conditions. -/
namespace Go.Proofs.Ytifgifhbefhkmaa.VM
open Go Go.RowKit
set_option linter.unusedVariables false
set_option linter.unusedSimpArgs false
set_option maxRecDepth 100000
noncomputable section
theorem chkB0_ok : CtOK Try.prog cf0 26 ctChk := chkB_ok
theorem hasR_ok : CtOK Try.prog cf0 19 ctHas := ct_vc (m := 1000) sxC_ok fun a h => Has_all a.1 a.2.1 a.2.2 h.1 h.2
theorem hasB_ok : CtOK Try.prog cf0 18 ctHas := ct_vc (m := 1000) sxH_ok fun a h => HasB_all a.1 a.2.1 a.2.2 h.1 h.2
theorem sxl_ok : SXOK Try.prog cf0 sxl := sxok_of (all_cons chkB_ok (all_cons coll_ok (all_cons chk_ok (all_cons trk_ok (all_cons hasR_ok (all_cons behind_ok all_nil)))))) all_nil
theorem rokJ' (y : Int) : (eI .i64 y).length = 1 ∧ (∀ v, v ∈ eI .i64 y → imm 1 v ∧ SV.one v = true) ∧ (True → ∀ v, v ∈ eI .i64 y → scalar v) := ⟨(rokJ y).1, (rokJ y).2.1, fun _ => (rokJ y).2.2 rfl⟩
theorem rowJ_eq {l m : List Int} (h : l = m) : l.length = m.length ∧ SC.rows (eI .i64) 1 1 true l = SC.rows (eI .i64) 1 1 true m := by subst h; exact ⟨rfl, rfl⟩
theorem listB_ok : CtOK Try.prog cf0 14 ctList := ct_vc (m := 1000) sxl_ok fun a h => by
  obtain ⟨n, s⟩ := a
  obtain ⟨hb, hl⟩ := h
  rw [vc_ListB]
  simp only [true_and, and_true, eq_self, implies_true]
  refine Exists.intro (n, s) ⟨⟨rfl, rfl, rfl⟩, ⟨hb, hl⟩, fun h0 => ?_, fun h0 => ?_⟩
  · have h0 : ¬ chkR n s = 0 := h0
    have e : listL n s = [] := by unfold listL; rw [if_neg h0]
    exact ⟨⟨by rw [e]; rfl, rokJ'⟩, rfl⟩
  · have h0 : chkR n s = 0 := Classical.not_not.1 h0
    obtain ⟨n1, n2, n3, _⟩ := chkR_good h0
    obtain ⟨p1, p2, _⟩ := pages_le n1 n2
    refine Exists.intro s ⟨⟨rfl, rfl⟩, ⟨hb, by omega, hl⟩, rowJ_eq ?_, h0.symm⟩
    rw [trk_all hb h0]; unfold listL; rw [if_pos h0]
theorem listR_ok : CtOK Try.prog cf0 15 ctList := ct_vc (m := 1000) sxl_ok fun a h => by
  obtain ⟨n, s⟩ := a
  obtain ⟨hb, hl⟩ := h
  rw [vc_ListR]
  simp only [true_and, and_true, eq_self, implies_true]
  refine Exists.intro (n, s) ⟨⟨rfl, rfl, rfl⟩, ⟨hb, hl⟩, fun h0 => ?_, fun h0 => ?_⟩
  · have h0 : ¬ chkR n s = 0 := h0
    have e : listL n s = [] := by unfold listL; rw [if_neg h0]
    exact ⟨⟨by rw [e]; rfl, rokJ'⟩, rfl⟩
  · have h0 : chkR n s = 0 := Classical.not_not.1 h0
    obtain ⟨n1, n2, n3, _⟩ := chkR_good h0
    refine Exists.intro (n, s) ⟨⟨rfl, rfl, rfl⟩, ⟨hb, n1, n2⟩, rowJ_eq ?_, h0.symm⟩
    unfold listL; rw [if_pos h0]
theorem sxc_ok : SXOK Try.prog cf0 sxc := sxok_of (all_cons listR_ok all_nil) all_nil
theorem countR_ok : CtOK Try.prog cf0 17 ctCount := ct_vc (m := 1000) sxc_ok fun a h => by
  obtain ⟨n, s⟩ := a
  obtain ⟨hb, hl⟩ := h
  rw [vc_CountR]
  simp only [true_and, and_true, eq_self, implies_true]
  exact Exists.intro (n, s) ⟨⟨rfl, rfl, rfl⟩, ⟨hb, hl⟩, rfl, rfl⟩
theorem countB_ok : CtOK Try.prog cf0 16 ctCount := ct_vc (m := 1000) sx16_ok fun a h => by
  obtain ⟨n, s⟩ := a
  obtain ⟨hb, hl⟩ := h
  rw [vc_CountB]
  simp only [true_and, and_true, eq_self, implies_true]
  refine Exists.intro (n, s) ⟨⟨rfl, rfl, rfl⟩, ⟨hb, hl⟩, fun h0 => ?_, fun h0 => ⟨SameCode.refl _, ?_⟩⟩
  · have h0 : ¬ chkR n s = 0 := h0
    refine ⟨?_, rfl⟩
    unfold countI listL; rw [if_neg h0]; rfl
  · have h0 : chkR n s = 0 := Classical.not_not.1 h0
    refine Exists.intro (s, 0) ⟨⟨hb, Nat.zero_le _, hl⟩, ⟨rfl, ⟨rfl, rfl⟩, rfl, rfl⟩, fun o ho => ?_⟩
    have ho : o = s := ho
    subst ho
    refine ⟨?_, h0.symm⟩
    unfold countI listL; rw [if_pos h0, trk_all hb h0]
theorem nextR_ok : CtOK Try.prog cf0 21 ctNext := ct_vc (m := 1000) sxl_ok fun a h => by
  obtain ⟨n, s, f⟩ := a
  obtain ⟨hb, hl⟩ := h
  rw [vc_NextR]
  simp only [true_and, and_true, eq_self, implies_true]
  refine Exists.intro (n, s, f) ⟨⟨rfl, ⟨rfl, rfl⟩, rfl⟩, ⟨hb, hl⟩, fun h0 => ?_, fun h0 => ?_⟩
  · have h0 : ¬ hasE n s f = 0 := h0
    refine ⟨?_, rfl⟩
    unfold nextR; rw [if_neg h0]
  · have h0 : hasE n s f = 0 := Classical.not_not.1 h0
    obtain ⟨h1, h2, h3⟩ := hasE_good h0
    obtain ⟨n1, n2, _, _⟩ := chkR_good h1
    refine Exists.intro (n, s, f) ⟨⟨rfl, ⟨rfl, rfl⟩, rfl⟩, ⟨hb, n1, n2, h2, h3⟩, ?_, h0.symm⟩
    unfold nextR; rw [if_pos h0]
/-! The other machine. -/
def inL (f : Nat) : List Nat → Bool := List.rec (motive := fun _ => Bool) false (fun a _ ih => Nat.beq f a || ih)
def fnL : List Nat := [14, 15, 16, 17, 18, 19, 21, 22]
def cfL : Cfg := ⟨fun _ => false, fun _ => false, fun f => bif Nat.beq f 20 then some (liftG (nextF cf0)) else bif inL f fnL then some (liftG fun k base vs => vcall Try.prog cf0 k f base vs) else none⟩
theorem inL_mem {f : Nat} : ∀ {l : List Nat}, inL f l = true → f ∈ l
  | [], h => by cases h
  | a :: l, h => by
    have h' : (Nat.beq f a || inL f l) = true := h
    rcases Bool.or_eq_true _ _ ▸ h' with h | h
    · exact List.mem_cons.2 (.inl (Nat.eq_of_beq_eq_true h))
    · exact List.mem_cons.2 (.inr (inL_mem h))
theorem cfL_ok : ExtOK Try.prog cfL := by
  intro f g hf base vs rv blks h
  have hf : (bif Nat.beq f 20 then some (liftG (nextF cf0)) else bif inL f fnL then some (liftG fun k base vs => vcall Try.prog cf0 k f base vs) else none) = some g := hf
  cases hq : Nat.beq f 20 with
  | true =>
    rw [hq] at hf
    have := Nat.eq_of_beq_eq_true hq
    subst this
    cases hf
    exact lift_next ext_ok h
  | false =>
    rw [hq] at hf
    cases hr : inL f fnL with
    | true =>
      rw [hr] at hf
      cases hf
      exact lift_iso (by kernel_rfl) ext_ok h
    | false => rw [hr] at hf; cases hf
theorem fnL_ext {f : Nat} (h : inL f fnL = true) (h2 : Nat.beq f 20 = false) : cfL.ext f = some (liftG fun k base vs => vcall Try.prog cf0 k f base vs) := by
  show (bif Nat.beq f 20 then some (liftG (nextF cf0)) else bif inL f fnL then some (liftG fun k base vs => vcall Try.prog cf0 k f base vs) else none) = _
  rw [h2, h]; rfl
def sxL0 : SX := ⟨rowK, ctOf [(14, ctList), (15, ctList), (16, ctCount), (17, ctCount), (18, ctHas), (19, ctHas), (20, ctNext), (21, ctNext), (22, ctInts)], lpOf []⟩
def sxH' : SX := ⟨rowK, ctOf [(18, ctHas)], lpOf []⟩
theorem vc_Asked (n : Int) (s : List Int) (t : Int) : (scallI sxL0 Try.prog cfL (sexec sxL0 Try.prog cfL 1000) 4 0 [.int .i64 (.sym n), row s, .int .i64 (.sym t)] (post (.bool (.lit true)))) = (((100 : Int) < (↑(List.length s) : Int) → true = true) ∧ (¬(100 : Int) < (↑(List.length s) : Int) → List.length s ≤ List.length s ∧ List.length s ≤ (1099511627776 : Nat) ∧ List.length s ≤ List.length
(List.take (List.length s) (rdrop (SN.lit (0 : Nat)) s)) ∧ ∃ (y3 : Int × List Int), (n = Prod.fst y3 ∧ (List.length s = List.length (Prod.snd y3) ∧ SC.rows eB (1 : Nat) (1 : Nat) true (List.take
(List.length s) (rdrop (SN.lit (0 : Nat)) (List.take (List.length s) (rdrop (SN.lit (0 : Nat)) s)))) = SC.rows eB (1 : Nat) (1 : Nat) true (Prod.snd y3)) ∧ True) ∧ ((∀ (y4 : Int), y4 ∈ Prod.snd y3 →
(0 : Int) ≤ y4 ∧ y4 < (256 : Int)) ∧ List.length (Prod.snd y3) ≤ (1000 : Nat)) ∧ ∃ (y4 : Int × List Int), (n = Prod.fst y4 ∧ (List.length s = List.length (Prod.snd y4) ∧ SC.rows eB (1 : Nat) (1 : Nat)
true s = SC.rows eB (1 : Nat) (1 : Nat) true (Prod.snd y4)) ∧ True) ∧ ((∀ (y5 : Int), y5 ∈ Prod.snd y4 → (0 : Int) ≤ y5 ∧ y5 < (256 : Int)) ∧ List.length (Prod.snd y4) ≤ (1000 : Nat)) ∧ List.length s
≤ List.length (List.take (List.length s) (rdrop (SN.lit (0 : Nat)) s)) ∧ ∃ (y5 : Int × List Int), (n = Prod.fst y5 ∧ (List.length s = List.length (Prod.snd y5) ∧ SC.rows eB (1 : Nat) (1 : Nat) true
(List.take (List.length s) (rdrop (SN.lit (0 : Nat)) (List.take (List.length s) (rdrop (SN.lit (0 : Nat)) s)))) = SC.rows eB (1 : Nat) (1 : Nat) true (Prod.snd y5)) ∧ True) ∧ ((∀ (y6 : Int), y6 ∈
Prod.snd y5 → (0 : Int) ≤ y6 ∧ y6 < (256 : Int)) ∧ List.length (Prod.snd y5) ≤ (1000 : Nat)) ∧ ∃ (y6 : Int × List Int), (n = Prod.fst y6 ∧ (List.length s = List.length (Prod.snd y6) ∧ SC.rows eB (1 :
Nat) (1 : Nat) true s = SC.rows eB (1 : Nat) (1 : Nat) true (Prod.snd y6)) ∧ True) ∧ ((∀ (y7 : Int), y7 ∈ Prod.snd y6 → (0 : Int) ≤ y7 ∧ y7 < (256 : Int)) ∧ List.length (Prod.snd y6) ≤ (1000 : Nat)) ∧
List.length s ≤ List.length (List.take (List.length s) (rdrop (SN.lit (0 : Nat)) s)) ∧ ∃ (y7 : Int × List Int × Int), (n = Prod.fst y7 ∧ (List.length s = List.length (Prod.fst (Prod.snd y7)) ∧ SC.rows
eB (1 : Nat) (1 : Nat) true (List.take (List.length s) (rdrop (SN.lit (0 : Nat)) (List.take (List.length s) (rdrop (SN.lit (0 : Nat)) s)))) = SC.rows eB (1 : Nat) (1 : Nat) true (Prod.fst (Prod.snd
y7))) ∧ t = Prod.snd (Prod.snd y7) ∧ True) ∧ ((∀ (y8 : Int), y8 ∈ Prod.fst (Prod.snd y7) → (0 : Int) ≤ y8 ∧ y8 < (256 : Int)) ∧ List.length (Prod.fst (Prod.snd y7)) ≤ (1000 : Nat)) ∧ ∃ (y8 : Int ×
List Int × Int), (n = Prod.fst y8 ∧ (List.length s = List.length (Prod.fst (Prod.snd y8)) ∧ SC.rows eB (1 : Nat) (1 : Nat) true s = SC.rows eB (1 : Nat) (1 : Nat) true (Prod.fst (Prod.snd y8))) ∧ t =
Prod.snd (Prod.snd y8) ∧ True) ∧ ((∀ (y9 : Int), y9 ∈ Prod.fst (Prod.snd y8) → (0 : Int) ≤ y9 ∧ y9 < (256 : Int)) ∧ List.length (Prod.fst (Prod.snd y8)) ≤ (1000 : Nat)) ∧ List.length s ≤ List.length
(List.take (List.length s) (rdrop (SN.lit (0 : Nat)) s)) ∧ ∃ (y9 : Int × List Int × Int), (n = Prod.fst y9 ∧ (List.length s = List.length (Prod.fst (Prod.snd y9)) ∧ SC.rows eB (1 : Nat) (1 : Nat) true
(List.take (List.length s) (rdrop (SN.lit (0 : Nat)) (List.take (List.length s) (rdrop (SN.lit (0 : Nat)) s)))) = SC.rows eB (1 : Nat) (1 : Nat) true (Prod.fst (Prod.snd y9))) ∧ t = Prod.snd (Prod.snd
y9) ∧ True) ∧ ((∀ (y10 : Int), y10 ∈ Prod.fst (Prod.snd y9) → (0 : Int) ≤ y10 ∧ y10 < (256 : Int)) ∧ List.length (Prod.fst (Prod.snd y9)) ≤ (1000 : Nat)) ∧ ∃ (y10 : Int × List Int × Int), (n =
Prod.fst y10 ∧ (List.length s = List.length (Prod.fst (Prod.snd y10)) ∧ SC.rows eB (1 : Nat) (1 : Nat) true s = SC.rows eB (1 : Nat) (1 : Nat) true (Prod.fst (Prod.snd y10))) ∧ t = Prod.snd (Prod.snd
y10) ∧ True) ∧ ((∀ (y11 : Int), y11 ∈ Prod.fst (Prod.snd y10) → (0 : Int) ≤ y11 ∧ y11 < (256 : Int)) ∧ List.length (Prod.fst (Prod.snd y10)) ≤ (1000 : Nat)) ∧ ∃ (y11 : List Int × List Int),
((List.length (listL (Prod.fst y3) (Prod.snd y3)) = List.length (Prod.fst y11) ∧ SC.rows (eI IntKind.i64) (1 : Nat) (1 : Nat) true (listL (Prod.fst y3) (Prod.snd y3)) = SC.rows (eI IntKind.i64) (1 :
Nat) (1 : Nat) true (Prod.fst y11)) ∧ (List.length (listL (Prod.fst y4) (Prod.snd y4)) = List.length (Prod.snd y11) ∧ SC.rows (eI IntKind.i64) (1 : Nat) (1 : Nat) true (listL (Prod.fst y4) (Prod.snd
y4)) = SC.rows (eI IntKind.i64) (1 : Nat) (1 : Nat) true (Prod.snd y11)) ∧ True) ∧ (List.length (Prod.fst y11) ≤ (10000 : Nat) ∧ List.length (Prod.snd y11) ≤ (10000 : Nat)) ∧ (Prod.fst y11 = Prod.snd
y11 → (chkR (Prod.fst y3) (Prod.snd y3) = chkR (Prod.fst y4) (Prod.snd y4) → (countI (Prod.fst y5) (Prod.snd y5) = countI (Prod.fst y6) (Prod.snd y6) → (chkR (Prod.fst y5) (Prod.snd y5) = chkR
(Prod.fst y6) (Prod.snd y6) → ((hasV (Prod.fst y7) (Prod.fst (Prod.snd y7)) (Prod.snd (Prod.snd y7)) = true ↔ hasV (Prod.fst y8) (Prod.fst (Prod.snd y8)) (Prod.snd (Prod.snd y8)) = true) → (hasE
(Prod.fst y7) (Prod.fst (Prod.snd y7)) (Prod.snd (Prod.snd y7)) = hasE (Prod.fst y8) (Prod.fst (Prod.snd y8)) (Prod.snd (Prod.snd y8)) → (nextR (Prod.fst y9) (Prod.fst (Prod.snd y9)) (Prod.snd
(Prod.snd y9)) = nextR (Prod.fst y10) (Prod.fst (Prod.snd y10)) (Prod.snd (Prod.snd y10)) → (hasE (Prod.fst y9) (Prod.fst (Prod.snd y9)) (Prod.snd (Prod.snd y9)) = hasE (Prod.fst y10) (Prod.fst
(Prod.snd y10)) (Prod.snd (Prod.snd y10)) → List.length s ≤ List.length (List.take (List.length s) (rdrop (SN.lit (0 : Nat)) s)) ∧ ∃ (y12 : List Int), SC.rows eB (1 : Nat) (1 : Nat) true (List.take
(List.length s) (rdrop (SN.lit (0 : Nat)) (List.take (List.length s) (rdrop (SN.lit (0 : Nat)) s)))) = SC.rows eB (1 : Nat) (1 : Nat) true y12 ∧ List.length s ≤ List.length s ∧ ∃ (y13 : List Int),
SC.rows eB (1 : Nat) (1 : Nat) true (List.take (List.length s) (rdrop (SN.lit (0 : Nat)) s)) = SC.rows eB (1 : Nat) (1 : Nat) true y13 ∧ isBytes y12 ∧ isBytes y13 ∧ (y12 = y13 ↔ true = true)) ∧ (¬hasE
(Prod.fst y9) (Prod.fst (Prod.snd y9)) (Prod.snd (Prod.snd y9)) = hasE (Prod.fst y10) (Prod.fst (Prod.snd y10)) (Prod.snd (Prod.snd y10)) → false = true)) ∧ (¬nextR (Prod.fst y9) (Prod.fst (Prod.snd
y9)) (Prod.snd (Prod.snd y9)) = nextR (Prod.fst y10) (Prod.fst (Prod.snd y10)) (Prod.snd (Prod.snd y10)) → false = true)) ∧ (¬hasE (Prod.fst y7) (Prod.fst (Prod.snd y7)) (Prod.snd (Prod.snd y7)) =
hasE (Prod.fst y8) (Prod.fst (Prod.snd y8)) (Prod.snd (Prod.snd y8)) → false = true)) ∧ (¬(hasV (Prod.fst y7) (Prod.fst (Prod.snd y7)) (Prod.snd (Prod.snd y7)) = true ↔ hasV (Prod.fst y8) (Prod.fst
(Prod.snd y8)) (Prod.snd (Prod.snd y8)) = true) → false = true)) ∧ (¬chkR (Prod.fst y5) (Prod.snd y5) = chkR (Prod.fst y6) (Prod.snd y6) → false = true)) ∧ (¬countI (Prod.fst y5) (Prod.snd y5) =
countI (Prod.fst y6) (Prod.snd y6) → false = true)) ∧ (¬chkR (Prod.fst y3) (Prod.snd y3) = chkR (Prod.fst y4) (Prod.snd y4) → false = true)) ∧ (¬Prod.fst y11 = Prod.snd y11 → false = true))) := by kernel_rfl
end
end Go.Proofs.Ytifgifhbefhkmaa.VM
/- Sets of tracks asked: the law. No conditions. -/
namespace Go.Proofs.Ytifgifhbefhkmaa.VM
open Go Go.RowKit
set_option linter.unusedVariables false
set_option linter.unusedSimpArgs false
set_option maxRecDepth 100000
noncomputable section
def ctNextBad : SCall := Ct (fun a : Int × List Int × Int => [.int .i64 (.sym a.1), row a.2.1, .int .i64 (.sym a.2.2)]) (fun a => (By a.2.1 ∧ a.2.1.length ≤ 1000) ∧ hasE a.1 a.2.1 a.2.2 ≠ 0) (fun a => .tup [.int .i64 (.lit 0), .int .i64 (.sym (hasE a.1 a.2.1 a.2.2))])
theorem vc_NextBad (n : Int) (s : List Int) (f : Int) (x : Int) : (scallI sxH' Try.prog cf0 (sexec sxH' Try.prog cf0 1000) 20 0 [.int .i64 (.sym n), row s, .int .i64 (.sym f)] (post (.tup [.int .i64 (.lit 0), .int .i64 (.sym x)]))) = (∃ (y4 : Int × List Int × Int), (n = Prod.fst y4 ∧ (List.length s = List.length (Prod.fst (Prod.snd y4)) ∧ SC.rows eB (1 : Nat) (1 : Nat) true s = SC.rows eB (1 : Nat) (1 : Nat) true (Prod.fst
(Prod.snd y4))) ∧ f = Prod.snd (Prod.snd y4) ∧ True) ∧ ((∀ (y5 : Int), y5 ∈ Prod.fst (Prod.snd y4) → (0 : Int) ≤ y5 ∧ y5 < (256 : Int)) ∧ List.length (Prod.fst (Prod.snd y4)) ≤ (1000 : Nat)) ∧ (¬hasE
(Prod.fst y4) (Prod.fst (Prod.snd y4)) (Prod.snd (Prod.snd y4)) = (0 : Int) → (0 : Int) = (0 : Int) ∧ hasE (Prod.fst y4) (Prod.fst (Prod.snd y4)) (Prod.snd (Prod.snd y4)) = x ∧ True) ∧ (¬¬hasE
(Prod.fst y4) (Prod.fst (Prod.snd y4)) (Prod.snd (Prod.snd y4)) = (0 : Int) → Stuck (138 : Nat))) := by kernel_rfl
theorem sxH'_ok : SXOK Try.prog cf0 sxH' := sxok_of (all_cons hasB_ok all_nil) all_nil
theorem nextBad_ok : CtOK Try.prog cf0 20 ctNextBad := ct_vc (m := 1000) sxH'_ok fun a h => by
  obtain ⟨n, s, f⟩ := a
  obtain ⟨⟨hb, hl⟩, h0⟩ := h
  have h0 : ¬ hasE n s f = 0 := h0
  rw [vc_NextBad]
  simp only [true_and, and_true, eq_self, implies_true]
  exact Exists.intro (n, s, f) ⟨⟨rfl, ⟨rfl, rfl⟩, rfl⟩, ⟨hb, hl⟩, fun _ => rfl, fun q => absurd h0 q⟩
theorem rv_has {ε : Nat → Option BE} {p : Prop} {x : Int} {rv : V} (h : RV ε (.tup [.bool (.sym p), .int .i64 (.sym x)]) rv) : ∃ b, rv = .tup [.bool b, .int .i64 x] := by
  cases h with
  | tup h =>
    cases h with
    | cons h1 h2 =>
      cases h2 with
      | cons h2 h3 =>
        cases h3
        cases h1 with
        | bool _ c _ =>
          cases h2 with
          | int _ _ m hm =>
            have hm : m = x := hm
            subst hm
            exact ⟨c, rfl⟩
theorem next_ok : CtOK Try.prog cfL 20 ctNext := by
  intro base bs K hK as' has vbase
  obtain ⟨⟨n, s, f⟩, h1, ⟨hb, hl⟩, h3⟩ := hK
  have hb : By s := hb
  have hl : s.length ≤ 1000 := hl
  have hr := sles_rel h1 has
  obtain ⟨rv, blks, srv, sblks, ⟨N, hN⟩, ⟨g1, g1'⟩, g2, g3⟩ := hasB_ok 0 [.int .i64 (.sym n), row s, .int .i64 (.sym f)] (fun v b => v = .tup [.bool (.sym (hasV n s f = true)), .int .i64 (.sym (hasE n s f))] ∧ b = []) ⟨(n, s, f), ⟨rfl, ⟨rfl, rfl⟩, rfl, trivial⟩, ⟨hb, hl⟩, rfl, rfl⟩ as' hr 0
  subst g1 g1'
  cases g2
  obtain ⟨b, rfl⟩ := rv_has g3
  have fin : ∀ rv, Ends (nextF cf0) vbase as' rv → RV (newsE noE base vbase 0) (.tup [.int .i64 (.sym (nextR n s f)), .int .i64 (.sym (hasE n s f))]) rv → ∃ rv blks srv sblks, (∃ N, ∀ n, N ≤ n → callI Try.prog cfL (exec Try.prog cfL n) 20 vbase as' = some (rv, blks)) ∧ K srv sblks ∧ NewR (newsE noE base vbase sblks.length) sblks blks ∧ RV (newsE noE base vbase sblks.length) srv rv := fun rv he hv =>
    ⟨rv, [], _, [], ⟨0, fun k _ => liftG_of he⟩, h3, .nil, hv⟩
  by_cases h0 : hasE n s f = 0
  · obtain ⟨q1, q2, q3⟩ := hasE_good h0
    obtain ⟨n1, n2, n3, _⟩ := chkR_good q1
    obtain ⟨p1, p2, _⟩ := pages_le n1 n2
    rw [h0] at hN
    have e : nextR n s f = BW.nextI f (BW.trkF 0 s) := by unfold nextR; rw [if_pos h0, next_behind hb h0]
    refine fin (.tup [.int .i64 (BW.nextI f (BW.trkF 0 s)), .int .i64 0]) ⟨N, fun k hk => ?_⟩ (.tup (.cons (.int _ _ _ e.symm) (.cons (.int _ _ _ h0.symm) .nil)))
    have hv := hN k hk
    cases hr with
    | cons r1 hr =>
      cases hr with
      | cons r2 hr =>
        cases hr with
        | cons r3 hr =>
          cases hr
          cases r1 with
          | int _ _ m1 e1 =>
            cases r3 with
            | int _ _ m3 e3 =>
              have e1 : m1 = n := e1
              have e3 : m3 = f := e3
              subst e1 e3
              cases r2 with
              | slIn q1 q2 => have q1 : s.length = 0 := q1; omega
              | slI0 q1 q2 q3 q4 => have q3 : s.length = 0 := q3; omega
              | slI w1 w2 w3 w4 w5 =>
                rename_i fr2 tight' cs2 m
                have e := rl_bytes w4
                subst e
                have w3 : m = s.length := w3
                subst w3
                have hv' : vcall Try.prog cf0 k 18 0 [.int .i64 m1, .slI fr2 (s.map (V.int .u8)) s.length tight', .int .i64 m3] = some (.tup [.bool b, .int .i64 0], []) := hv
                have hA : nextA cf0 k vbase [.int .i64 m1, .slI fr2 (s.map (V.int .u8)) s.length tight', .int .i64 m3] = some (.tup [.int .i64 (BW.nextI m3 (BW.trkF 0 s)), .int .i64 0], []) := by
                  unfold nextA
                  simp only
                  rw [List.take_of_length_le (by simp), u8s_map]
                  simp only
                  rw [if_pos ⟨by simp, by omega, by omega, okBytes_iff.2 hb⟩, hv']
                  rfl
                unfold nextF
                rw [hA]
  · obtain ⟨rv2, blks2, srv2, sblks2, ⟨N2, hN2⟩, ⟨k1, k1'⟩, k2, k3⟩ := nextBad_ok base [.int .i64 (.sym n), row s, .int .i64 (.sym f)] (fun v b => v = .tup [.int .i64 (.lit 0), .int .i64 (.sym (hasE n s f))] ∧ b = []) ⟨(n, s, f), ⟨rfl, ⟨rfl, rfl⟩, rfl, trivial⟩, ⟨⟨hb, hl⟩, h0⟩, rfl, rfl⟩ as' hr vbase
    subst k1 k1'
    cases k2
    refine fin rv2 ⟨max N N2, fun k hk => ?_⟩ ?_
    · have hv := hN k (by omega)
      have hv2 : vcall Try.prog cf0 k 20 vbase as' = some (rv2, []) := hN2 k (by omega)
      have hA : nextA cf0 k vbase as' = none := by
        unfold nextA
        split
        · rename_i n' fr cs m tt f'
          split
          · split
            · have hv' : vcall Try.prog cf0 k 18 0 [.int .i64 n', .slI fr cs m tt, .int .i64 f'] = some (.tup [.bool b, .int .i64 (hasE n s f)], []) := hv
              rw [hv']
              simp only
              rw [if_neg h0]
            · rfl
          · rfl
        · rfl
      unfold nextF
      rw [hA]
      exact hv2
    · cases k3 with
      | tup k3 =>
        cases k3 with
        | cons k4 k5 =>
          cases k5 with
          | cons k5 k6 =>
            cases k6
            cases k4 with
            | int _ _ m hm =>
              have hm : m = 0 := hm
              subst hm
              refine .tup (.cons (.int _ _ _ ?_) (.cons k5 .nil))
              show (0 : Int) = nextR n s f
              unfold nextR; rw [if_neg h0]
theorem sxL0_ok : SXOK Try.prog cfL sxL0 := sxok_of (all_cons (ct_lift (fnL_ext rfl rfl) listB_ok) (all_cons (ct_lift (fnL_ext rfl rfl) listR_ok) (all_cons (ct_lift (fnL_ext rfl rfl) countB_ok) (all_cons (ct_lift (fnL_ext rfl rfl) countR_ok) (all_cons (ct_lift (fnL_ext rfl rfl) hasB_ok) (all_cons (ct_lift (fnL_ext rfl rfl) hasR_ok) (all_cons next_ok (all_cons (ct_lift (fnL_ext rfl rfl) nextR_ok) (all_cons (ct_lift (fnL_ext rfl rfl) ints_ok) all_nil))))))))) all_nil
theorem listL_len (n : Int) (s : List Int) : (listL n s).length ≤ 16 := by
  unfold listL
  split
  · rename_i h
    have := trkN_len s n.toNat
    obtain ⟨h1, h2, _⟩ := chkR_good h
    omega
  · simp
theorem asked_all (n : Int) (s : List Int) (t : Int) (hb : By s) : scallI sxL0 Try.prog cfL (sexec sxL0 Try.prog cfL 1000) 4 0 [.int .i64 (.sym n), row s, .int .i64 (.sym t)] (post (.bool (.lit true))) := by
  rw [vc_Asked]
  have er : rdrop (SN.lit 0) s = s := rfl
  have et : s.take s.length = s := List.take_of_length_le (Nat.le_refl _)
  simp only [er, et, true_and, and_true, eq_self, implies_true, Nat.le_refl]
  refine fun h100 => ?_
  have hl : s.length ≤ 1000 := by omega
  have hll := listL_len n s
  refine ⟨by omega, Exists.intro (n, s) ⟨⟨rfl, rfl, rfl⟩, ⟨hb, hl⟩, Exists.intro (n, s) ⟨⟨rfl, rfl, rfl⟩, ⟨hb, hl⟩, Exists.intro (n, s) ⟨⟨rfl, rfl, rfl⟩, ⟨hb, hl⟩, Exists.intro (n, s) ⟨⟨rfl, rfl, rfl⟩, ⟨hb, hl⟩, Exists.intro (n, s, t) ⟨⟨rfl, ⟨rfl, rfl⟩, rfl⟩, ⟨hb, hl⟩, Exists.intro (n, s, t) ⟨⟨rfl, ⟨rfl, rfl⟩, rfl⟩, ⟨hb, hl⟩, Exists.intro (n, s, t) ⟨⟨rfl, ⟨rfl, rfl⟩, rfl⟩, ⟨hb, hl⟩, Exists.intro (n, s, t) ⟨⟨rfl, ⟨rfl, rfl⟩, rfl⟩, ⟨hb, hl⟩, Exists.intro (listL n s, listL n s) ⟨⟨⟨rfl, rfl⟩, rfl, rfl⟩, ⟨by show (listL n s).length ≤ 10000; omega, by show (listL n s).length ≤ 10000; omega⟩, ?_⟩⟩⟩⟩⟩⟩⟩⟩⟩⟩
  repeat' refine And.intro (fun _ => ?_) (fun q => absurd (by first | rfl | exact Iff.rfl) q)
  exact Exists.intro s ⟨rfl, Exists.intro s ⟨rfl, hb, hb, by simp⟩⟩
theorem lo_u8 : LO Try.prog 5 1 (eI .u8) (fun n => IntKind.min .u8 ≤ n ∧ n ≤ IntKind.max .u8) := lo_int Try.underlying5 (by kernel_rfl)
theorem lo_row : LO Try.prog 22 1 (eR (eI .u8) 1 1 true) (fun xs => xs.length ≤ 9223372036854775807 ∧ ∀ y ∈ xs, IntKind.min .u8 ≤ y ∧ y ≤ IntKind.max .u8) := lo_slice Try.underlying22 (by kernel_rfl) lo_u8 (Nat.le_refl 1) rokB
theorem By_of {a : List Int} (h : a.length ≤ 9223372036854775807 ∧ ∀ y ∈ a, IntKind.min .u8 ≤ y ∧ y ≤ IntKind.max .u8) : By a := fun x hx => by
  have := h.2 x hx
  have e1 : IntKind.min .u8 = 0 := by decide
  have e2 : IntKind.max .u8 = 255 := by decide
  omega
theorem walk (n : Int) (s : List Int) (t : Int) (_ : IntKind.min .i64 ≤ n ∧ n ≤ IntKind.max .i64) (hs : s.length ≤ 9223372036854775807 ∧ ∀ y ∈ s, IntKind.min .u8 ≤ y ∧ y ≤ IntKind.max .u8) (_ : IntKind.min .i64 ≤ t ∧ t ≤ IntKind.max .i64) :
    ∃ sx : SX, SXOK Try.prog cfL sx ∧ scallI sx Try.prog cfL (sexec sx Try.prog cfL 1000) 4 0 [.int .i64 (.sym n), row s, .int .i64 (.sym t)] (post (.bool (.lit true))) :=
  ⟨sxL0, sxL0_ok, asked_all n s t (By_of hs)⟩

end
end Go.Proofs.Ytifgifhbefhkmaa.VM
